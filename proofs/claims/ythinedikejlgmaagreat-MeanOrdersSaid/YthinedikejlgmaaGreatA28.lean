import Derived.Test.YthinedikejlgmaaGreatA27
set_option linter.all false
section
set_option maxRecDepth 20000
namespace Go.Aft
open Go.Proofs.Tryz
def cxF (r:Option Nat) (f:FuncId) (pub:Nat->Kd):Cx:=⟨tyOf a0s,fun _=>none,pub,fun _ _=>none,⟨r,some f⟩⟩
@[simp] theorem cxF_ty {r:Option Nat} {f:FuncId} {p:Nat->Kd}:(cxF r f p).ty=tyOf a0s:=rfl
@[simp] theorem cxF_eqt {r:Option Nat} {f:FuncId} {p:Nat->Kd} (t:TypeId):(cxF r f p).eqt t=none:=rfl
@[simp] theorem cxF_pub {r:Option Nat} {f:FuncId} {p:Nat->Kd} (t:Nat):(cxF r f p).pub t=p t:=rfl
@[simp] theorem cxF_spec {r:Option Nat} {g:FuncId} {p:Nat->Kd} (f:FuncId) (a:List LV):(cxF r g p).spec f a=none:=rfl
@[simp] theorem cxF_rd {r:Option Nat} {f:FuncId} {p:Nat->Kd}:(cxF r f p).rd = ⟨r,some f⟩:=rfl
theorem a4i {r:Option Nat} {f:FuncId} {p:Nat->Kd}:(cxF r f p).ok prog:=⟨b6p,fun T ks h=>(by cases h),fun T ks h=>(by cases h),fun f args pre v h=>(by cases h),(by kernel_rfl)⟩
def f0y (x:LP) (n:Nat) (H0:GH) (R:CE->GH->Prop):AE->S->Prop
 | .normal,s=>nbH s.H->roundEnd x n H0 R s none
 | .ret,s=>nbH s.H->roundEnd x n H0 R s (some .ret)
 | .exit i,s=>nbH s.H->roundEnd x n H0 R s (some (.exit i))
 | .goto l,s=>nbH s.H->roundEnd x n H0 R s (some (.goto l))
 | .pan v,s=>nbH s.H->s.df=[]/\∃ H',Drop H0 s.H H'/\v.nb H'.next/\R (.pan v) H'
attribute [simp] f0y roundEnd
theorem a2v.ofN {P:Program} {c:Nat->Cx} {n:Nat} {x:LP} (hc:∀ l,(c l).ok P) (hrd:∀ l,(c l).rd = ⟨some l,some x.f⟩) {args:List LV} {H:GH} {R:CE->GH->Prop} (hn:H.obj n=some (x.go .ready none)) (hf:∃ fn,P.funcs[x.f]?=some fn) (hl:args.length=x.ps.size) (hps:∀ p ∈ x.ps.toList,p < x.nt)
  (h:nbH H->∀ l,@EV P (c l) ⟨x.asn⟩ ⟨putAll x.env (x.ps.toList.zip args),noS,H,x.nt,[]⟩ ⟨@TH ⟨fun s1=>s1.H.obj n=some (x.go .ready none)/\@AW P (c l).rd ⟨x.body⟩ { s1 with H:=s1.H.set n (x.go .busy none) } ⟨f0y x n H R⟩⟩ ⟨fun _ _=>False⟩⟩):a2v P n args H R:=by
 intro G w vs hM hNL hargs
 have hw:nbH H:=⟨fun n hn=>by
  cases ho:H.obj n with
  | none=>rfl
  | some o=>have:=(hM.nmd n o ho).1;omega,fun n o ho=>d4o (hM.nmd n o ho).2⟩
 refine a2v.f2w hn hf hl hps (fun _ l=>?_) G w vs hM hNL hargs
 have:=EV.sound (hc l) (h hw l)
 rw [<- hrd l]
 refine AWp.mono this fun ae s q=>?_
 cases ae with
 | normal =>
  refine ⟨q.1,?_⟩
  exact AWp.f3a q.2 fun ae s' hz q'=>by cases ae <;> exact q' hz
 | _=>exact q
theorem c6v (d:Def):AFun prog 94 [lv (rDef d)] (.d (.k (.string d.name))):=by
 refine AFun.body (a0g (p:=kds [1] [] [])) func94 rfl call94 (by rw [ntmps94];simp) rfl fun hf H=>?_
 simp [ntmps94,results94,rDef,a0c]
theorem e1y (l:List Def) (hl:l.length<=1000):AFun prog 93 [sl (l.map rDef),.fn (.func 94) [] []] (sl ((l.map (·.name)).map rS)):=by
 have cc:=cx0_ok
 refine AFun.body cx0_ok func93 rfl call93 (by rw [ntmps93];simp) rfl fun hf H=>?_
 simp [ntmps93,results93] at hf |-
 refine AW.a0w cc (fun a:Nat × LV × GH=>⟨[(1,.fn (.func 94) [] []),(5,a.2.1),(8,.d (.sl (l.map rDef))),(9,lvI l.length),(10,lvI a.1)],[],a.2.2⟩) (fun a=>l.length - a.1) (fun a=>a.1<=l.length/\App 9 1 H a.2.1 (((l.take a.1).map (·.name)).map rS) a.2.2) (0,.d (.k (.slice none 0 0)),H) ⟨⟨by simp,.nil⟩,by simp⟩ ?_
 rintro ⟨i,x,H'⟩ ⟨hi,happ⟩
 simp only at hi happ
 simp
 refine ⟨fun h=>?_,fun h=>?_⟩
 ·have hd:=c6v l[i]
  simp [rDef,a0c] at hd
  simp [h,List.getElem?_eq_getElem h,rDef,a0c,happ.plain.all]
  refine EC.afun hd ?_
  simp [happ.plain.all]
  refine APK.d0d rS ((l.take i).map (·.name)) [l[i].name] tyE39 rfl tyE9 (by simp) (fun _=>rfl) (x:=x) (by simp) happ (by simp [rS,rowsOf]) (by simp) (by simp;omega) (by simp) fun x' H2 happ'=>?_
  have ht:(l.take i).map (·.name) ++ [l[i].name]=(l.take (i+1)).map (·.name):=by rw [<- a0p h,List.map_append];rfl
  rw [ht] at happ'
  simp [happ'.plain.all,happ'.only,wrap_succ h hf.1]
  exact NX.go (i+1,x',H2) (by simp;omega) ⟨h,happ'⟩ (by simp [happ'.only,happ'.plain.all,LV.only])
 ·have:i=l.length:=by omega
  subst this
  rw [List.take_length] at happ
  have hz:=happ.fz
  simp [happ.plain.all,hz.1]
  exact hz.2
structure MapB (es:List (Value × LV)) (M:Nat->Bool):Prop where
 get:∀ k:Nat,a1c (.int .i64 k) es=if M k=true then some (.d (.k (.bool true))) else none
 key:∀ (a:Value) (b:LV),(a,b) ∈ es->(KK.sc (Sc.int .i64)).has a=true
 nb:∀ n,nbs n (es.map (·.2))
 nat:∃ ks:List Nat,ks.Nodup/\es.map (·.1)=ks.map fun k:Nat=>Value.int .i64 k
theorem c8d (k:Nat) (v:LV):∀ (es:List (Value × LV)) (ks:List Nat),es.map (·.1)=ks.map (fun k:Nat=>Value.int .i64 k)->(mput (.int .i64 k) v es).map (·.1)=(if k ∈ ks then ks else ks ++ [k]).map fun k:Nat=>Value.int .i64 k
 | [],[],_=>by simp [mput]
 | [],j :: ks,h=>by simp at h
 | e :: es,[],h=>by simp at h
 | (a,b) :: es,j :: ks,h=>by
  simp only [List.map_cons,List.cons.injEq] at h
  obtain ⟨rfl,h⟩:=h
  have ih:=c8d k v es ks h
  simp only [mput,a4f]
  by_cases e:(k:Int)=j
  ·have e':k=j:=by omega
   subst e'
   simp [h]
  ·have e':¬ k=j:=by omega
   have h1:(k ∈ j :: ks)=(k ∈ ks):=by simp [e']
   simp only [e,decide_false,Bool.false_eq_true,if_false,List.map_cons,ih,h1]
   split <;> rfl
theorem MapB.put {es:List (Value × LV)} {M:Nat->Bool} (h:MapB es M) (k:Nat):MapB (mput (.int .i64 k) (.d (.k (.bool true))) es) (a4q M k):=by
 have hg:∀ (es:List (Value × LV)),(∀ (a:Value) (b:LV),(a,b) ∈ es->(KK.sc (Sc.int .i64)).has a=true)->∀ j:Nat,a1c (.int .i64 j) (mput (.int .i64 k) (.d (.k (.bool true))) es)=if j=k then some (.d (.k (.bool true))) else a1c (.int .i64 j) es:=by
  intro es
  induction es with
  | nil =>
   intro _ j
   simp only [mput,a1c,a4f]
   by_cases e:j=k
   ·subst e;simp
   ·have e2:¬ (j:Int)=k:=by omega
    simp [e,e2]
  | cons a es ih =>
   obtain ⟨a,b⟩:=a
   intro hk j
   have ha:=hk a b (by simp)
   cases a with
   | int kk n =>
    have:kk=.i64:=by simpa [KK.has,Sc.has,eq_comm] using ha
    subst this
    simp only [mput,a4f]
    by_cases e1:(k:Int)=n
    ·simp only [e1,decide_true,if_true,a1c,a4f]
     by_cases e2:j=k
     ·subst e2;simp [e1]
     ·have:¬ (j:Int)=n:=by omega
      simp [e2,this]
    ·simp only [e1,decide_false,Bool.false_eq_true,if_false,a1c,a4f]
     by_cases e3:(j:Int)=n
     ·have:¬ j=k:=by omega
      simp [e3,this]
     ·simp only [e3,decide_false,Bool.false_eq_true,if_false]
      exact ih (fun a b hab=>hk a b (by simp [hab])) j
   | _=>simp [KK.has,Sc.has] at ha
 have hm:∀ (es:List (Value × LV)) (a:Value) (b:LV),(a,b) ∈ mput (.int .i64 k) (.d (.k (.bool true))) es->(a=.int .i64 k/\b=.d (.k (.bool true))) \/ (a,b) ∈ es:=by
  intro es
  induction es with
  | nil=>intro a b hab;simp [mput] at hab;exact .inl hab
  | cons x es ih =>
   intro a b hab
   simp only [mput] at hab
   split at hab
   ·rcases List.mem_cons.1 hab with q | q
    ·cases q;exact .inl ⟨rfl,rfl⟩
    ·exact .inr (by simp [q])
   ·rcases List.mem_cons.1 hab with q | q
    ·exact .inr (by simp [q])
    ·rcases ih a b q with r | r
     ·exact .inl r
     ·exact .inr (by simp [r])
 have hnb:∀ n (es:List (Value × LV)),nbs n (es.map (·.2)) ↔ ∀ a b,(a,b) ∈ es->b.nb n:=by
  intro n es
  induction es with
  | nil=>simp [nbs]
  | cons x es ih =>
   simp only [List.map_cons,nbs,ih,List.mem_cons]
   constructor
   ·rintro ⟨h1,h2⟩ a b (q | q)
    ·rw [<- q] at h1;exact h1
    ·exact h2 a b q
   ·exact fun h=>⟨h x.1 x.2 (.inl rfl),fun a b q=>h a b (.inr q)⟩
 refine ⟨fun j=>?_,fun a b hab=>?_,fun n=>?_,?_⟩
 rotate_left 3
 ·obtain ⟨ks,h1,h2⟩:=h.nat
  refine ⟨if k ∈ ks then ks else ks ++ [k],?_,c8d k _ es ks h2⟩
  split
  ·exact h1
  ·rename_i q
   rw [List.nodup_append]
   exact ⟨h1,by simp,fun a ha b hb=>by simp at hb;subst hb;intro z;subst z;exact q ha⟩
 ·rw [hg es h.key j,h.get j]
  unfold a4q
  by_cases e:j=k <;> simp [e]
 ·rcases hm es a b hab with ⟨rfl,_⟩ | q
  ·rfl
  ·exact h.key a b q
 ·rw [hnb]
  intro a b hab
  rcases hm es a b hab with ⟨_,rfl⟩ | q
  ·simp [LV.nb]
  ·exact (hnb n es).1 (h.nb n) a b q
theorem MapB.nil:MapB [] (fun _=>false):=⟨fun k=>rfl,fun a b h=>absurd h List.not_mem_nil,fun n=>trivial,[],by simp,rfl⟩
def b6j (e:Exp):Prop:=e.op=2 \/ e.op=3
def f6n (S:Nat->Nat->Prop) (mo d:Nat) (M:Nat->Bool) (H:GH):CE->GH->Prop:=fun ce H'=>(∃ v,ce=.ret v)/\∃ es' M',H'=H.set mo (.map es')/\MapB es' M'/\LookPost S M M' d
def d2x (p:Prog) (n no nl:Nat):List LV:=[.ip ((a0h p).map .d) 0,.ip [.gp n 0] 0,.gp no 0,.gp nl 0]
def e0j (p:Prog) (n no nl:Nat):LV:=.fn (.func 169) [] (d2x p n no nl)
def c7h (p:Prog):Prop:=∀ (i:Nat) (h:i < p.defs.length),∀ e ∈ allE p.defs[i].exp,b6j e->0<=idx (a0d p) e.name
theorem GH.a6g {H:GH} {n:Nat} {o:GO} (h:H.obj n=some o):H.set n o=H:=by
 obtain ⟨f,k⟩:=H
 simp only [GH.set] at h |-
 congr 1;funext m;simp only [upd];split
 ·rename_i e;subst e;exact h.symm
 ·rfl
theorem GH.b6q {H:GH} {n m:Nat} {a b:GO} (h:n ≠ m):(H.set n a).set m b=(H.set m b).set n a:=by
 simp only [GH.set];congr 1;funext k;simp only [upd]
 split
 ·rename_i e;subst e;rw [if_neg (Ne.symm h)]
 ·rfl
theorem nbH.set {H:GH} (h:nbH H) {n:Nat} {o:GO} (hn:n < H.next) (ho:o.nb H.next):nbH (H.set n o):=by
 refine ⟨fun m hm=>?_,fun m o' ho'=>?_⟩
 ·have hm':H.next<=m:=hm
  rw [GH.a0f,if_neg (by omega)];exact h.none m hm'
 ·rw [GH.a0f] at ho'
  split at ho'
  ·cases ho';exact ho
  ·exact h.nb m o' ho'
theorem c6k {H0 H H':GH} (h1:H'.next<=H.next) (h2:∀ m,m < H'.next->H'.obj m=H.obj m) (h3:nbH H') (h4:H0.next<=H'.next):Drop H0 H H':=⟨h1,h4,h2,h3.none,fun n o ho=>.inr (h3.nb n o ho)⟩
theorem e1w (p:Prog) (hp:c7h p) (n m1 m2 m3 no nl mo:Nat) (hne:m1 ≠ mo/\m2 ≠ mo/\m3 ≠ mo) (ahead nodes:Int):∀ (u:Nat) (M:Nat->Bool) (d:Nat) (hd:d < p.defs.length) (H:GH) (es:List (Value × LV)),unm p.defs.length M=u ->
  Sco H n m1 m2 m3 p.srcs (a0d p) ahead nodes->H.obj no=some (.box [.gm mo])->H.obj nl=some (.box [e0j p n no nl])->H.obj mo=some (.map es)->MapB es M ->
  a0j prog 169 ([lvI d] ++ d2x p n no nl) H (f6n (a3p p) mo d M H):=by
 intro u
 induction u using Nat.strongRecOn with
 | _ u ih =>
  intro M d hd H es hu hs hno hnl hmo hM
  have cc:=a4i (r:=none) (f:=169) (p:=kds [] [] [])
  have ccR:∀ l,(cxF (some l) 169 (kds [] [] [])).ok prog:=fun l=>a4i
  refine a0j.a1j (a4i (r:=none) (f:=169) (p:=kds [] [] [])) func169 rfl call169 (by rw [ntmps169];simp [d2x]) rfl fun hf hw=>?_
  have hnod:=b0r p.defs[d].exp
  simp [a0c] at hnod
  simp [ntmps169,results169,d2x,a0h,rDef,a0c,hd,List.getElem?_eq_getElem hd]
  refine EC.afun hnod ?_
  simp
  refine AW.at (c:=cxF none 169 (kds [] [] [])) ⟨[(1,.ip ((a0h p).map .d) 0),(2,.ip [.gp n 0] 0),(3,.gp no 0),(4,.gp nl 0),(14,a4z p.defs[d].exp)],[],H⟩ (by simp [a0h,a4z,LV.only,a0c]) ?_
  have a0:=hw.lt hs.sc
  have a1:=hw.lt hno
  have a2:=hw.lt hnl
  have a3:=hw.lt hmo
  have a4:=hw.lt hs.o1
  have a5:=hw.lt hs.o2
  have a6:=hw.lt hs.o3
  have ne:=hs.ne
  have b1:n ≠ mo:=fun e=>by have:=hs.sc;rw [e,hmo] at this;cases this
  have b2:no ≠ mo:=fun e=>by rw [e,hmo] at hno;cases hno
  have b3:nl ≠ mo:=fun e=>by rw [e,hmo] at hnl;cases hnl
  refine AWp.rangeFunc rfl rfl (f:=164) (first:=[]) (cap:=[.ip ((rExp p.defs[d].exp).map .d) 0]) (by simp [a4z]) (by simp [a4z])
   [(1,.ip ((a0h p).map .d) 0),(2,.ip [.gp n 0] 0),(3,.gp no 0),(4,.gp nl 0)] (by simp [allL]) (by simp [allL,LV.nb,nbs,a0,a1,a2]) (by simp [nbs,LV.nb]) ?_
  simp only [LS.s_mk,List.nil_append,List.singleton_append]
  generalize hx:LP.mk _ _ _ _ _ _ _=x
  have hxf:x.f=169:=by rw [<- hx]
  have hxd:x.d=H.next:=by rw [<- hx]
  have hxe:∀ t,(x.env t).nb (H.next+2):=by
   rw [<- hx]
   intro t
   refine c5v ?_ t
   simp [allL,LV.nb,nbs];omega
  obtain ⟨J,hJ⟩:∃ J:Nat->GH->Prop,J=fun i H'=>∃ es' M',H'.obj (H.next+1)=some (x.go .ready none)/\H'.obj H.next=some .dfr/\(∀ m,m < H.next->m ≠ mo->H'.obj m=H.obj m)/\H'.obj mo=some (.map es')/\MapB es' M' /\
   LookInv (a3p p) M M' d (fun k=>∃ e ∈ (allE p.defs[d].exp).take i,b6j e/\idx (a0d p) e.name=(k:Int)):=⟨_,rfl⟩
  have hI:Iter prog (H.next+1) (H.next+2) (a7i p.defs[d].exp) J (fun _=>False) (fun _ _=>False):=by
   refine ⟨fun {i H1 H2} hj hag _=>?_,fun h=>h.elim,fun h=>h.elim,fun {i H1} hj m o hm ho=>?_,fun h=>h.elim,fun h=>h.elim,?_⟩
   ·rw [hJ] at hj |-
    obtain ⟨es',M',q1,q2,q3,q4,q5,q6⟩:=hj
    exact ⟨es',M',by rw [hag _ (by omega)];exact q1,by rw [hag _ (by omega)];exact q2,fun m hm hne=>by rw [hag _ (by omega)];exact q3 m hm hne,by rw [hag _ (by omega)];exact q4,q5,q6⟩
   ·rw [hJ] at hj
    obtain ⟨es',M',q1,q2,q3,q4,q5,q6⟩:=hj
    by_cases e1:m=H.next+1
    ·subst e1;rw [q1] at ho;cases ho
     exact ⟨by rw [hxd];omega,hxe⟩
    ·by_cases e2:m=H.next
     ·subst e2;rw [q2] at ho;cases ho;trivial
     ·by_cases e3:m=mo
      ·subst e3;rw [q4] at ho;cases ho;exact q5.nb _
      ·rw [q3 m (by omega) e3] at ho
       exact GO.a3g (by omega) (hw.nb m o ho)
   ·intro i H1 r hr hN hz1 hj
    rw [hJ] at hj
    obtain ⟨es',M',q1,q2,q3,q4,q5,q6⟩:=hj
    obtain ⟨e,he,rfl⟩:∃ e,(allE p.defs[d].exp)[i]?=some e/\r=lv (rExp e):=by
     simp only [a7i,List.getElem?_map,Option.map_eq_some_iff] at hr
     obtain ⟨e,h1,h2⟩:=hr
     exact ⟨e,h1,h2.symm⟩
    refine a2v.ofN (c:=fun l=>cxF (some l) 169 (kds [] [] [])) ccR (fun l=>by simp [hxf]) q1 ⟨_,by rw [hxf];exact func169⟩ (by rw [<- hx];rfl) (by rw [<- hx];simp) fun hz l=>?_
    have xa:=(congrArg LP.asn hx).symm
    have xb:=(congrArg LP.body hx).symm
    have xe:=(congrArg LP.env hx).symm
    have xp:=(congrArg LP.ps hx).symm
    have xn:=(congrArg LP.nt hx).symm
    dsimp only at xa xb xe xp xn
    rw [xa,xb,xe,xp,xn]
    clear xa xb xe xp xn hx
    simp [a0c,putAll]
    refine ⟨q1,?_⟩
    generalize hob:x.go .busy none=ob
    have c0:=q3 n (by omega) b1
    have c1:=q3 no (by omega) b2
    have c2:=q3 nl (by omega) b3
    have c3:∀ m,m < H.next->(H1.set (H.next+1) ob).obj m=H1.obj m:=fun m hm=>by rw [GH.a0f,if_neg (by omega)]
    have hn1:H.next+1 < H1.next:=by omega
    have htk:(allE p.defs[d].exp).take (i+1)=(allE p.defs[d].exp).take i ++ [e]:=by
     rw [List.take_add_one,he];rfl
    have hemem:e ∈ allE p.defs[d].exp:=List.mem_of_getElem? he
    have hsame:(H1.set (H.next+1) ob).set (H.next+1) (x.go .ready none)=H1:=by rw [GH.a2n,GH.a6g q1]
    refine AW.ev (ccR l) ?_
    simp
    refine ⟨fun n2 n3 hz2=>⟨⟨.busy,none,by rw [GH.a0n,hob]⟩,H1,?_,GH.same.refl,?_⟩,fun href=>?_⟩
    ·rw [hsame];exact hz1.drop (Nat.le_refl _)
    ·rw [hJ]
     refine ⟨es',M',q1,q2,q3,q4,q5,q6.same fun k hk=>?_⟩
     obtain ⟨e',h1,h2,h3⟩:=hk
     rw [htk,List.mem_append] at h1
     rcases h1 with h1 | h1
     ·exact .inl ⟨e',h1,h2,h3⟩
     ·simp only [List.mem_singleton] at h1
      subst h1
      rcases h2 with h2 | h2
      ·exact absurd h2 n2
      ·exact absurd h2 n3
    have hr:b6j e:=by unfold b6j;omega
    have hix:=hp d hd e hemem hr
    have hixl:=b9l (a0d p) e.name
    obtain ⟨kn,hkn⟩:∃ kn:Nat,idx (a0d p) e.name=(kn:Int):=⟨(idx (a0d p) e.name).toNat,by omega⟩
    have hkl:kn < p.defs.length:=by rw [hkn] at hixl;simp [a0d] at hixl;exact hixl
    have hnum:numD (a0d p) e.name=(kn:Int):=by unfold numD;rw [if_neg (by omega),hkn]
    have hstep:a3p p d kn:=⟨hd,e,hemem,hr,hkn⟩
    have hdone:∀ k:Nat,(∃ e ∈ (allE p.defs[d].exp).take (i+1),b6j e/\idx (a0d p) e.name=(k:Int))->(∃ e ∈ (allE p.defs[d].exp).take i,b6j e/\idx (a0d p) e.name=(k:Int)) \/ k=kn:=fun k hk=>by
     obtain ⟨e',h1,h2,h3⟩:=hk
     rw [htk,List.mem_append] at h1
     rcases h1 with h1 | h1
     ·exact .inl ⟨e',h1,h2,h3⟩
     ·simp only [List.mem_singleton] at h1
      subst h1
      exact .inr (by omega)
    have o0:(H1.set (H.next+1) ob).obj n=some (scp [.gm m1,.gm m2,.gm m3] ahead nodes):=by rw [c3 _ a0,c0];exact hs.sc
    have o1:(H1.set (H.next+1) ob).obj m2=some (.map (a3e (a0d p) 0)):=by rw [c3 _ a5,q3 _ a5 hne.2.1];exact hs.o2
    have o2:(H1.set (H.next+1) ob).obj no=some (.box [.gm mo]):=by rw [c3 _ a1,c1];exact hno
    have o3:(H1.set (H.next+1) ob).obj nl=some (.box [e0j p n no nl]):=by rw [c3 _ a2,c2];exact hnl
    have o4:(H1.set (H.next+1) ob).obj mo=some (.map es'):=by rw [c3 _ a3];exact q4
    refine AW.draw (ccR l) [] (.q 5<|.q 0<|.q 1<|.q 2<|.q 3<|.q 4<|.q 6<|.q 7<|.q 8<|.done) (by kernel_rfl) ?_
    have hkey:=eq_true q5.key
    have hlk:∀ m,m < H.next->m < (H1.set (H.next+1) ob).next:=fun m hm=>by rw [GH.a0l];omega
    cases hmk:M' kn with
    | true =>
     simp [o0,o1,o2,o3,o4,scp,b2e,a6u,hnum,q5.get,hmk,hkey]
     refine fun hz2=>⟨⟨.busy,none,by rw [GH.a0n,hob]⟩,H1,?_,GH.same.refl,?_⟩
     ·rw [hsame];exact hz1.drop (Nat.le_refl _)
     ·rw [hJ]
      exact ⟨es',M',q1,q2,q3,q4,q5,q6.same fun k hk=>(hdone k hk).imp id fun e=>by rw [e];exact hmk⟩
    | false =>
     have hoth:∀ (X:GO) (m:Nat),m < H.next->m ≠ mo->((H1.set (H.next+1) ob).set mo X).obj m=H.obj m:=fun X m hm hne=>by rw [GH.a0f,if_neg hne,c3 m hm,q3 m hm hne]
     have o5:∀ X:GO,((H1.set (H.next+1) ob).set mo X).obj nl=some (.box [e0j p n no nl]):=fun X=>by rw [hoth X _ a2 b3];exact hnl
     have hput:=q5.put kn
     have hlt:unm p.defs.length (a4q M' kn) < u:=by
      have h1:=b2n (n:=p.defs.length) hkl hmk
      have h2:=d4t (n:=p.defs.length) q6.sub
      omega
     have hcall:=ih _ hlt (a4q M' kn) kn hkl ((H1.set (H.next+1) ob).set mo (.map (mput (.int .i64 kn) (.d (.k (.bool true))) es'))) _ rfl
      ⟨by rw [hoth _ _ a0 b1];exact hs.sc,by rw [hoth _ _ a4 hne.1];exact hs.o1,by rw [hoth _ _ a5 hne.2.1];exact hs.o2,by rw [hoth _ _ a6 hne.2.2];exact hs.o3⟩
      (by rw [hoth _ _ a1 b2];exact hno) (o5 _) GH.a0n hput
     have hl4:∀ X m,m < H.next->m < ((H1.set (H.next+1) ob).set mo X).next:=fun X m hm=>by rw [GH.a0l,GH.a0l];omega
     simp [d2x,a0h] at hcall
     simp [o0,o1,o2,o3,o4,o5,scp,b2e,a6u,hnum,q5.get,hmk,hkey,e0j,d2x,a0h]
     refine ⟨⟨hl4 _ _ a0,hl4 _ _ a1,hl4 _ _ a2⟩,EC.of hcall (fun v H2 hR=>?_) (fun v H2 hR=>?_)⟩
     ·obtain ⟨_,es2,M2,hH2,k1,k2⟩:=hR
      rw [GH.a2n] at hH2
      subst hH2
      simp
      have hn1:H.next+1 ≠ mo:=by omega
      have hback:((H1.set (H.next+1) ob).set mo (.map es2)).set (H.next+1) (x.go .ready none)=H1.set mo (.map es2):=by
       rw [GH.b6q (Ne.symm hn1),GH.a2n,GH.a6g q1]
      have hz3:nbH (H1.set mo (.map es2)):=hz1.set (by omega) (k1.nb _)
      refine fun hz2=>⟨⟨.busy,none,by rw [GH.a0f,if_neg hn1,GH.a0n,hob]⟩,H1.set mo (.map es2),?_,⟨rfl,fun m hm=>by rw [GH.a0f,if_neg (by omega)]⟩,?_⟩
      ·rw [hback];exact hz3.drop (Nat.le_refl _)
      ·rw [hJ]
       refine ⟨es2,M2,by rw [GH.a0f,if_neg hn1];exact q1,by rw [GH.a0f,if_neg (by omega)];exact q2,fun m hm hne'=>by rw [GH.a0f,if_neg hne'];exact q3 m hm hne',GH.a0n,k1,q6.step hstep k2 hdone⟩
     ·obtain ⟨⟨_,q⟩,_⟩:=hR
      cases q
  have hj0:J 0 ((H.add .dfr).add (x.go .ready none)):=by
   rw [hJ]
   refine ⟨es,M,by rw [GH.a0b,GH.a0a,if_pos rfl],by rw [GH.a0b,GH.a0a,if_neg (by omega),GH.a0b,if_pos rfl],fun m hm _=>by rw [GH.a0b,GH.a0a,if_neg (by omega),GH.a0b,if_neg (by omega)],
    by rw [GH.a0b,GH.a0a,if_neg (by omega),GH.a0b,if_neg (by omega)];exact hmo,hM,LookInv.start fun k hk=>?_⟩
   obtain ⟨e,he,_⟩:=hk
   simp at he
  have hall:=b8l hI (by omega) ((H.add .dfr).add (x.go .ready none)) (by rw [GH.a0a,GH.a0a];omega) hj0
  refine hall.mono fun ce H2 hR=>?_
  obtain ⟨hs2,hR⟩:=hR
  cases ce with
  | pan x=>exact hR.elim
  | ret v =>
   rcases hR with hR | hR
   ·rw [hJ] at hR
    obtain ⟨es2,M2,q1,q2,q3,q4,q5,q6⟩:=hR
    refine ⟨.ready,none,q1,by simp,?_⟩
    simp [c8s,hxd]
    have hne1:H.next ≠ H.next+1:=by omega
    refine fun hz=>⟨by rw [GH.a0f,if_neg hne1];exact q2,H.set mo (.map es2),?_,⟨_,rfl⟩,es2,M2,rfl,q5,q6.end fun k hk=>?_⟩
    ·have hz3:=hw.set (o:=.map es2) a3 (q5.nb _)
     refine c6k ?_ (fun m hm=>?_) hz3 (by rw [GH.a0l];exact Nat.le_refl _)
     ·have h1:=hs2.next
      simp only [GH.a0a] at h1
      simp only [GH.a0l]
      omega
     ·have hm':m < H.next:=hm
      simp only [a7e,GH.a0f]
      rw [if_neg (show ¬ m=H.next by omega),if_neg (show ¬ m=H.next+1 by omega)]
      split
      ·rename_i e;subst e;exact q4.symm
      ·rename_i e;exact (q3 m hm' e).symm
    ·obtain ⟨h1,e,h2,h3,h4⟩:=hk
     exact ⟨e,by rw [List.take_length];exact h2,h3,h4⟩
   ·exact hR.elim
end Go.Aft
end
section
set_option maxRecDepth 20000
namespace Go.Aft
open Go.Proofs.Tryz
open Classical in
noncomputable def reachB (p:Prog) (d:Nat):Nat->Bool:=fun k=>decide (Path (a3p p) d k)
theorem MapB.congr {es:List (Value × LV)} {M M':Nat->Bool} (h:MapB es M) (he:∀ k,M k=M' k):MapB es M':=by
 have:M=M':=funext he
 rw [<- this];exact h
theorem nbH.add {H:GH} (h:nbH H) {o:GO} (ho:o.nb (H.next+1)):nbH (H.add o):=by
 refine ⟨fun m hm=>?_,fun m o' ho'=>?_⟩
 ·have hm':H.next+1<=m:=hm
  rw [GH.a0b,if_neg (by omega)];exact h.none m (by omega)
 ·rw [GH.a0b] at ho'
  split at ho'
  ·cases ho';exact ho
  ·exact GO.a3g (Nat.le_succ _) (h.nb m o' ho')
theorem b4d (p:Prog) (hp:c7h p) (n m1 m2 m3:Nat) (ahead nodes:Int) (d:Nat) (hd:d < p.defs.length) (H:GH) (hs:Sco H n m1 m2 m3 p.srcs (a0d p) ahead nodes) :
  a0j prog 100 [.gp n 0,lv (a0h p),lvI d] H fun ce H'=>∃ es,ce=.ret (.gm H.next)/\H'=H.add (.map es)/\MapB es (reachB p d):=by
 have cc:=a0g (p:=kds [3,4] [7,8] [])
 refine a0j.a1j (a0g (p:=kds [3,4] [7,8] [])) func100 rfl call100 (by rw [ntmps100];simp) rfl fun hf hw=>?_
 have a0:=hw.lt hs.sc
 have a4:=hw.lt hs.o1
 have a5:=hw.lt hs.o2
 have a6:=hw.lt hs.o3
 have ne:=hs.ne
 have g1:∀ (X Y Z:GO),(((H.add X).add Y).add Z).obj H.next=some X:=fun X Y Z=>by rw [GH.a0b,if_neg (by simp only [GH.a0a];omega),GH.a0b,if_neg (by simp only [GH.a0a];omega),GH.a0b,if_pos rfl]
 have g2:∀ (X Y Z:GO),(((H.add X).add Y).add Z).obj (H.next+1)=some Y:=fun X Y Z=>by rw [GH.a0b,if_neg (by simp only [GH.a0a];omega),GH.a0b,if_pos (by simp only [GH.a0a])]
 have g3:∀ (X Y Z:GO),(((H.add X).add Y).add Z).obj (H.next+2)=some Z:=fun X Y Z=>by rw [GH.a0b,if_pos (by simp only [GH.a0a])]
 have g4:∀ (X Y Z:GO) (m:Nat),m < H.next->(((H.add X).add Y).add Z).obj m=H.obj m:=fun X Y Z m hm=>by
  rw [GH.a0b,if_neg (by simp only [GH.a0a];omega),GH.a0b,if_neg (by simp only [GH.a0a];omega),GH.a0b,if_neg (by omega)]
 have s1:∀ (X Y:GO) (Y':GO),((H.add X).add Y).set (H.next+1) Y'=(H.add X).add Y':=fun X Y Y'=>by
  have:=GH.a1v (H:=H.add X) (a:=Y) (b:=Y');simpa [GH.a0a] using this
 have s2:∀ (X Y Z:GO) (Z':GO),(((H.add X).add Y).add Z).set (H.next+2) Z'=((H.add X).add Y).add Z':=fun X Y Z Z'=>by
  have:=GH.a1v (H:=(H.add X).add Y) (a:=Z) (b:=Z');simpa [GH.a0a] using this
 have h1:∀ (X Y:GO),((H.add X).add Y).obj (H.next+1)=some Y:=fun X Y=>by rw [GH.a0b,if_pos (by simp only [GH.a0a])]
 simp [ntmps100,results100,a0h,GH.a0a,s1,s2,h1,g1,g2,g3]
 refine ⟨by omega,by omega,?_⟩
 have hl:=e1w p hp n m1 m2 m3 (H.next+1) (H.next+1+1) H.next ⟨by omega,by omega,by omega⟩ ahead nodes _ (fun _=>false) d hd (((H.add (.map [])).add (.box [.gm H.next])).add (.box [e0j p n (H.next+1) (H.next+1+1)])) [] rfl
  ⟨by rw [g4 _ _ _ _ a0];exact hs.sc,by rw [g4 _ _ _ _ a4];exact hs.o1,by rw [g4 _ _ _ _ a5];exact hs.o2,by rw [g4 _ _ _ _ a6];exact hs.o3⟩ (g2 _ _ _) (g3 _ _ _) (g1 _ _ _) MapB.nil
 simp [d2x,e0j,a0h] at hl
 refine EC.of hl (fun v H2 hR=>?_) (fun v H2 hR=>?_)
 ·obtain ⟨_,es2,M2,rfl,k1,k2⟩:=hR
  simp [GH.a0f,g2,LR]
  have hM:=k1.congr (M':=reachB p d) fun k=>by
   rw [Bool.eq_iff_iff,k2.all];simp [reachB]
  refine fun hz=>⟨H.add (.map es2),?_,by rw [GH.a0a];omega,es2,rfl,hM⟩
  refine c6k (by simp [GH.a0l,GH.a0a]) (fun m hm=>?_) (hw.add (k1.nb _)) (by rw [GH.a0a];omega)
  have hm':m < H.next+1:=hm
  rw [GH.a0f]
  by_cases e:m=H.next
  ·subst e;rw [if_pos rfl,GH.a0b,if_pos rfl]
  ·rw [if_neg e,g4 _ _ _ _ (by omega),GH.a0b,if_neg e]
 ·obtain ⟨⟨_,q⟩,_⟩:=hR
  cases q
theorem d2w (n:Nat) (H:GH) (R:DM->GH->Prop) (h:R .ret H):b0p prog 152 [.gp n 0] H .ret R:=by
 refine b0p.a4l cx0_ok func152 rfl call152 rfl rfl rfl (by rw [ntmps152];simp) (by rw [ntmps152];omega) rfl fun hw=>?_
 simp [runX,recV,ntmps152]
 refine EV.sound cx0_ok ?_
 simp [c9q,recM]
 exact ⟨H,a0m (Nat.le_refl _) (fun _ _=>rfl) hw,h⟩
theorem a5w (n:Nat) (c:List LV) (H:GH) (h1:H.obj n=some (.box c)) (hl:c.length=1) (R:DM->GH->Prop)
  (h:R (.rec_ unformed) (H.set n (.box [.d (.k (.pointer none))]))):b0p prog 152 [.gp n 0] H (.pan unformed) R:=by
 refine b0p.a4l cx0_ok func152 rfl call152 rfl rfl rfl (by rw [ntmps152];simp) (by rw [ntmps152];omega) rfl fun hw=>?_
 simp [runX,recV,ntmps152,unformed]
 refine EV.sound cx0_ok ?_
 obtain ⟨x,rfl⟩:∃ x,c=[x]:=by
  match c,hl with
  | [x],_=>exact ⟨x,rfl⟩
 simp [c9q,recM,h1]
 have lt:∀ n o,H.obj n=some o->n < H.next:=fun n o ho=>by
  rcases Nat.lt_or_ge n H.next with q | q
  ·exact q
  ·rw [hw n q] at ho;cases ho
 exact ⟨_,c6l (d4p (Nat.le_refl _) hw fun _ _ q=>.inl q) (lt _ _ h1) (by simp [nbs,LV.nb]),h⟩
end Go.Aft
end
