import Derived.Test.YthinedikejlgmaaGreatA41
import Derived.Test.YthinedikejlgmaaGreatA40
set_option linter.all false
section
set_option maxRecDepth 20000
namespace Go.Aft
open Go.Proofs.Tryz
def a4c (g:Exp->Option Bag):List Exp->Option (List Bag)
 | []=>some []
 | e :: es=>match g e with
  | none=>none
  | some b=>match a4c g es with
   | none=>none
   | some bs=>some (b :: bs)
theorem d6z (p:Prog) (W:World') (top:Int):∀ l:List Exp,a6e p W top l=a4c (expM p W top) l
 | []=>by rw [a6e,a4c]
 | e :: es=>by
  rw [a6e,a4c]
  cases expM p W top e with
  | none=>rfl
  | some b =>
   simp only [d6z p W top es]
   cases a4c (expM p W top) es <;> rfl
theorem c2d (g:Exp->Option Bag) (x:Exp):∀ l:List Exp,a4c g (l ++ [x])=match a4c g l with
  | none=>none
  | some bs=>match g x with
   | none=>none
   | some b=>some (bs ++ [b])
 | []=>by
  simp only [List.nil_append,a4c]
 | e :: es=>by
  rw [List.cons_append,a4c,a4c]
  cases g e with
  | none=>rfl
  | some b =>
   simp only [c2d g x es]
   cases a4c g es with
   | none=>rfl
   | some bs =>
    simp only
    cases g x <;> rfl
theorem c2e {g:Exp->Option Bag}:∀ {l:List Exp} {x:Exp},x ∈ l->g x=none->a4c g l=none
 | e :: es,x,h,hx=>by
  rw [a4c]
  rcases List.mem_cons.1 h with q | q
  ·subst q;rw [hx]
  ·cases g e with
   | none=>rfl
   | some b=>simp only [c2e q hx]
theorem a9q {g:Exp->Option Bag}:∀ {l:List Exp} {bs:List Bag},a4c g l=some bs->bs.length=l.length
 | [],bs,h=>by rw [a4c] at h;cases h;rfl
 | e :: es,bs,h=>by
  rw [a4c] at h
  cases q:g e with
  | none=>rw [q] at h;cases h
  | some b =>
   rw [q] at h
   cases q2:a4c g es with
   | none=>rw [q2] at h;cases h
   | some bs' =>
    rw [q2] at h;cases h
    simp [a9q q2]
theorem b8h {g:Exp->Option Bag} {P:Bag->Prop}:∀ {l:List Exp} {bs:List Bag},a4c g l=some bs->(∀ x ∈ l,∀ b,g x=some b->P b)->∀ b ∈ bs,P b
 | [],bs,h,_=>by rw [a4c] at h;cases h;simp
 | e :: es,bs,h,hp=>by
  rw [a4c] at h
  cases q:g e with
  | none=>rw [q] at h;cases h
  | some b =>
   rw [q] at h
   cases q2:a4c g es with
   | none=>rw [q2] at h;cases h
   | some bs' =>
    rw [q2] at h;cases h
    intro y hy
    rcases List.mem_cons.1 hy with e1 | e1
    ·subst e1;exact hp e (by simp) _ q
    ·exact b8h q2 (fun x hx=>hp x (by simp [hx])) y e1
def BagR (o:Option Bag) (H:GH) (ce:CE) (H':GH):Prop:=H'=H/\match o with
 | some b=>ce=.ret (bagL b)
 | none=>ce=.pan tooMuch
theorem e7y (l:List Bag):∀ r ∈ l.map rBag,r.length=1:=fun r hr=>by obtain ⟨_,_,rfl⟩:=List.mem_map.1 hr;rfl
theorem c5d (g:Exp->Option Bag) (l:List Exp) (hl:l.length<=1000) (F:FuncId) (cap:List LV) (H:GH) (hcap:nbs H.next cap) (hF:∀ x ∈ l,∀ H',H.next<=H'.next->(∀ m,m < H.next->H'.obj m=H.obj m)->a0j prog F ([lv (rExp x)] ++ cap) H' (BagR (g x) H')) :
  a0j prog 141 [sl (l.map rExp),.fn (.func F) [] cap] H fun ce H'=>H'=H/\match a4c g l with
   | some bs=>ce=.ret (a9a bs)
   | none=>ce=.pan tooMuch:=by
 have cc:=cx0_ok
 refine a0j.a1j cx0_ok func141 rfl call141 (by rw [ntmps141];simp) rfl fun hf hw=>?_
 simp [ntmps141,results141] at hf |-
 refine AW.a0w cc (fun a:Nat × LV × GH=>⟨[(1,.fn (.func F) [] cap),(5,a.2.1),(8,.d (.sl (l.map rExp))),(9,lvI l.length),(10,lvI a.1)],[],a.2.2⟩) (fun a=>l.length - a.1) (fun a=>a.1<=l.length/\∃ bs,a4c g (l.take a.1)=some bs/\AppX 30 1 H a.2.1 (bs.map rBag) a.2.2) (0,.d (.k (.slice none 0 0)),H) ⟨⟨by simp,[],by simp [a4c],.nil⟩,by simp [LV.only,a3c,a1r _ hcap]⟩ ?_
 rintro ⟨i,x,H'⟩ ⟨hi,bs,hbs,happ⟩
 simp only at hi hbs happ
 simp
 refine ⟨fun h=>?_,fun h=>?_⟩
 ·obtain ⟨e,hee⟩:∃ e,l[i]=e:=⟨_,rfl⟩
  have hem:e ∈ l:=hee ▸ List.getElem_mem h
  have htk:l.take (i+1)=l.take i ++ [e]:=by rw [<- a0p h,hee]
  have hd:=hF e hem H' happ.nx happ.ob
  have hbl:=a9q hbs
  have hbl2:bs.length<=1000:=by rw [hbl];simp;omega
  simp [a0c] at hd
  simp [h,List.getElem?_eq_getElem h,hee,a0c,happ.plain.all]
  refine ⟨a2w happ.nx _ hcap,EC.of hd (fun v H2 hR=>?_) (fun v H2 hR=>?_)⟩
  ·obtain ⟨rfl,hR⟩:=hR
   cases q:g e with
   | none=>rw [q] at hR;cases hR
   | some b =>
    rw [q] at hR
    cases hR
    simp [happ.plain.all,bagL]
    refine APK.appX (ys:=[rBag b]) tyE53 rfl tyE30 (by simp) (x:=x) (by simp) happ (by simp [rBag,rowsOf]) (by simp) (e7y _) (fun r hr=>by simp only [List.mem_singleton] at hr;subst hr;rfl) (by simp;omega) (by simp) fun x' H3 happ' _ _=>?_
    simp [happ'.plain.all,happ'.only,wrap_succ (n:=9223372036854775807) (show i < 9223372036854775807 by omega)]
    refine NX.go (i+1,x',H3) (by simp only;omega) ⟨h,bs ++ [b],?_,by rw [List.map_append];exact happ'⟩ (by simp [happ'.only,happ'.plain.all,LV.only,a3c,a1r _ hcap])
    rw [htk,c2d,hbs,q]
  ·obtain ⟨rfl,hR⟩:=hR
   cases q:g e with
   | some b=>rw [q] at hR;cases hR
   | none =>
    rw [q] at hR
    cases hR
    rw [c2e hem q]
    simp
    exact fun hz=>⟨a0m happ.nx happ.ob hw.none,trivial⟩
 ·have:i=l.length:=by omega
  subst this
  rw [List.take_length] at hbs
  rw [hbs]
  simp [happ.plain.all,happ.fz]
  exact fun hz=>a0m happ.nx happ.ob hw.none
theorem f3m {n:Nat} {top:Int} {e:Exp} {H:GH} (hn:n < H.next) {o:Option Bag} (h:a0j prog 79 [.gp n 0,lv (rExp e),lvI top] H (BagR o H)):a0j prog 142 ([lv (rExp e)] ++ [.ip [.gp n 0] 0,.ip [lvI top] 0]) H (BagR o H):=by
 have cc:=a0g (p:=kds [3] [] [])
 refine a0j.a1j (a0g (p:=kds [3] [] [])) func142 rfl call142 (by rw [ntmps142];simp) rfl fun hf hw=>?_
 simp [a0c] at h
 simp [ntmps142,results142,a0c]
 refine ⟨hn,EC.of h (fun v H2 hR=>?_) (fun v H2 hR=>?_)⟩
 ·obtain ⟨rfl,hR⟩:=hR
  cases o with
  | none=>cases hR
  | some b =>
   cases hR
   simp [bagL,BagR]
   exact fun hz=>a1s hz
 ·obtain ⟨rfl,hR⟩:=hR
  cases o with
  | some b=>cases hR
  | none =>
   cases hR
   simp [BagR]
   exact fun hz=>⟨a1s hz,trivial⟩
def e6o:List (Value × LV):=(List.range 15).map fun i=>(Value.int .i64 ((i:Nat)+1),.fn (.func (185+i)) [] [])
theorem e6n {op:Int} (h:1<=op/\op<=15):a1c (.int .i64 op) e6o=some (.fn (.func (184+op.toNat)) [] []):=by
 have hcases:op=1 \/ op=2 \/ op=3 \/ op=4 \/ op=5 \/ op=6 \/ op=7 \/ op=8 \/ op=9 \/ op=10 \/ op=11 \/ op=12 \/ op=13 \/ op=14 \/ op=15:=by omega
 rcases hcases with rfl | rfl | rfl | rfl | rfl | rfl | rfl | rfl | rfl | rfl | rfl | rfl | rfl | rfl | rfl <;> rfl
theorem e6m:∀ (a:Value) (b:LV),(a,b) ∈ e6o->(KK.sc (Sc.int .i64)).has a=true:=fun a b h=>by
 obtain ⟨x,_,q⟩:=List.mem_map.1 h
 cases q;rfl
theorem d5g {op:Int} {x:Shp} (h:a1l op=some x) (h1:1<=op/\op<=15):x.kids<=2:=by
 have hcases:op=1 \/ op=2 \/ op=3 \/ op=4 \/ op=5 \/ op=6 \/ op=7 \/ op=8 \/ op=9 \/ op=10 \/ op=11 \/ op=12 \/ op=13 \/ op=14 \/ op=15:=by omega
 rcases hcases with rfl | rfl | rfl | rfl | rfl | rfl | rfl | rfl | rfl | rfl | rfl | rfl | rfl | rfl | rfl
 all_goals
  simp [a1l] at h
  subst h
  decide
structure WldX (H:GH) (n ms mn mv ma:Nat) (p:Prog) (W:World'):Prop where
 wld:Wld H n ms mn mv ma p W
 oa:H.obj ma=some (.map e6o)
theorem WldX.mono {H H':GH} {n ms mn mv ma:Nat} {p:Prog} {W:World'} (h:WldX H n ms mn mv ma p W) (hw:nbH H) (ho:∀ m,m < H.next->H'.obj m=H.obj m):WldX H' n ms mn mv ma p W:=by
 obtain ⟨⟨ob,⟨es,os,hes⟩,⟨en,on,hen⟩,ov,dl⟩,oa⟩:=h
 exact ⟨⟨by rw [ho _ (hw.lt ob)];exact ob,⟨es,by rw [ho _ (hw.lt os)];exact os,hes⟩,⟨en,by rw [ho _ (hw.lt on)];exact on,hen⟩,by rw [ho _ (hw.lt ov)];exact ov,dl⟩,by rw [ho _ (hw.lt oa)];exact oa⟩
theorem b6v {e k:Exp} (h:k ∈ e.kids):SizeOf.sizeOf k < SizeOf.sizeOf e:=by
 obtain ⟨op,name,n,fold,a0k,kids⟩:=e
 simp only [Exp.kids] at h
 have:=List.sizeOf_lt_of_mem h
 simp only [Exp.mk.sizeOf_spec];omega
theorem e4y (p:Prog) (W:World') (top:Int) (e:Exp):expM p W top e=match a4c (expM p W top) e.kids with
  | none=>none
  | some ks=>if b0f (a1i (actM p W e.op e.name e.n e.fold e.a0k ks) top) then some (a1i (actM p W e.op e.name e.n e.fold e.a0k ks) top) else none:=by
 obtain ⟨op,name,n,fold,a0k,kids⟩:=e
 rw [expM,d6z]
 simp only [Exp.kids,Exp.op,Exp.name,Exp.n,Exp.fold,Exp.a0k]
 cases a4c (expM p W top) kids <;> rfl
def b5j (p:Prog) (e:Exp):Prop:=∀ x ∈ allE e,NodeOk p x
theorem d0f {k:Exp}:∀ {l:List Exp},k ∈ l->∀ x ∈ allE k,x ∈ a0y l
 | y :: l,h,x,hx=>by
  rw [a0y,List.mem_append]
  rcases List.mem_cons.1 h with q | q
  ·subst q;exact .inl hx
  ·exact .inr (d0f q x hx)
theorem b5j.self {p:Prog} {e:Exp} (h:b5j p e):NodeOk p e:=h e (by obtain ⟨op,name,n,fold,a0k,kids⟩:=e;rw [allE];simp)
theorem b5j.kid {p:Prog} {e k:Exp} (h:b5j p e) (hk:k ∈ e.kids):b5j p k:=fun x hx=>h x (by
 obtain ⟨op,name,n,fold,a0k,kids⟩:=e
 rw [allE]
 exact List.mem_cons_of_mem _ (d0f hk x hx))
theorem b4y {p:Prog} {W:World'} (hs:∀ b ∈ W.srcs,a1u b) (hd:∀ b ∈ W.defs,a1u b) {top:Int} (ht:top<=200):∀ (N:Nat) (e:Exp),SizeOf.sizeOf e < N->b5j p e->∀ b,expM p W top e=some b->a1u b
 | 0,e,h,_,_,_=>absurd h (by omega)
 | N+1,e,h,he,b,hb=>by
  rw [e4y] at hb
  cases q:a4c (expM p W top) e.kids with
  | none=>rw [q] at hb;cases hb
  | some ks =>
   rw [q] at hb
   simp only at hb
   split at hb
   ·rename_i hf
    cases hb
    have hks:∀ b ∈ ks,a1u b:=b8h q fun x hx b hb=>b4y hs hd ht N x (by have:=b6v hx;omega) (he.kid hx) b hb
    exact f1z ht (d0g hs hd e he.self ks (a9q q) hks).2 hf
   ·cases hb
theorem b7b {p:Prog} {W:World'} (hs:∀ b ∈ W.srcs,a1u b) (hd:∀ b ∈ W.defs,a1u b) {n ms mn mv ma:Nat} {top:Int} (ht:top<=200):∀ (N:Nat) (e:Exp),SizeOf.sizeOf e < N->b5j p e->∀ H,WldX H n ms mn mv ma p W ->
  a0j prog 79 [.gp n 0,lv (rExp e),lvI top] H (BagR (expM p W top e) H)
 | 0,e,h,_,_,_=>absurd h (by omega)
 | N+1,e,h,he,H,hW=>by
  have cc:=a0g (p:=kds [3,4,5] [] [])
  refine a0j.a1j (a0g (p:=kds [3,4,5] [] [])) func79 rfl call79 (by rw [ntmps79];simp) rfl fun hf hw=>?_
  have hnl:=hw.lt hW.wld.ob
  obtain ⟨x,h1,h2,h3,h4,h5⟩:=c7d he.self.ok
  have hop:1<=e.op/\e.op<=15:=Classical.byContradiction fun hn=>by
   unfold a1l at h1
   repeat (rw [if_neg (by omega)] at h1)
   cases h1
  have hkl:e.kids.length<=1000:=by
   have:=d5g h1 hop
   omega
  have hch:=c5d (expM p W top) e.kids hkl 142 [.ip [.gp n 0] 0,.ip [lvI top] 0] H (by simp [nbs,LV.nb];exact hnl) (fun k hk H' hn' ho'=>f3m (by omega) (b7b hs hd ht N k (by have:=b6v hk;omega) (he.kid hk) H' (hW.mono hw ho')))
  rw [e4y]
  simp [ntmps79,results79,a0c]
  refine ⟨hnl,EC.of hch (fun v H2 hR=>?_) (fun v H2 hR=>?_)⟩
  rotate_left
  ·obtain ⟨rfl,hR⟩:=hR
   cases q:a4c (expM p W top) e.kids with
   | some ks=>rw [q] at hR;cases hR
   | none =>
    rw [q] at hR
    cases hR
    simp [BagR]
    exact fun hz=>⟨a1s hz,trivial⟩
  obtain ⟨rfl,hR⟩:=hR
  cases q:a4c (expM p W top) e.kids with
  | none=>rw [q] at hR;cases hR
  | some ks =>
   rw [q] at hR
   cases hR
   have hks:∀ b ∈ ks,a1u b:=b8h q fun x hx b hb=>b4y hs hd ht N x (by have:=b6v hx;omega) (he.kid hx) b hb
   have hact:=fun G (hG:WldX G n ms mn mv ma p W)=>e1q hG.wld hd e he.self ks (a9q q) hks
   have hit:=d0g hs hd e he.self ks (a9q q) hks
   obtain ⟨A,hA⟩:∃ A,actM p W e.op e.name e.n e.fold e.a0k ks=A:=⟨_,rfl⟩
   rw [hA] at hit
   simp only [hA] at hact |-
   have ob:=hW.wld.ob
   have oa:=hW.oa
   have hkey:=eq_true e6m
   have hget:=e6n hop
   have hact2:=hact H2 hW
   simp [a0c] at hact2
   simp
   refine AW.draw cc [(12,.n)] (.q 4<|.q 9<|.q 0<|.q 1<|.q 2<|.q 3<|.q 5<|.q 6<|.q 7<|.q 8<|.f (.cons 10 (.q 11<|.q 12<|.q 13<|.done) (.cons 11 (.f<|.one 10<|.q 12<|.q 13<|.done) (.nil)))) (by kernel_rfl) ?_
   simp [ob,oa,hkey,hget,a0c]
   have hsum:∀ l':List Item,l'.Perm A->AFun prog 135 [.d (.sl (l'.map a0i)),lvI top] (sl ((a1i A top).map a0i)):=fun l' hp=>by
    have:=b8s l' top (by rw [hp.length_eq];omega) (fun x hx=>by have:=(hit.2 x (hp.mem_iff.1 hx)).1;omega)
    rw [c6y hp] at this
    exact this
   obtain ⟨B,hB⟩:∃ B,a1i A top=B:=⟨_,rfl⟩
   rw [hB] at hsum
   have hmany:=a8x B (fun x=>decide (1000000 < x.n)) 143 (fun x _=>e9h x)
   refine ⟨⟨hnl,ECn.of hact2 (fun v H3 hR _=>?_) (fun x H3 env hR _=>by obtain ⟨⟨_,_,q⟩,_⟩:=hR;cases q)⟩,hnl,ECn.of hact2 (fun v H3 hR _=>?_) (fun x H3 env hR _=>by obtain ⟨⟨_,_,q⟩,_⟩:=hR;cases q)⟩
   all_goals
    obtain ⟨⟨l',hp,q⟩,rfl⟩:=hR
    cases q
    simp [bagL]
    refine FC.afun (hsum l' hp) ?_
    simp at hmany
    simp
    refine ⟨fun hl=>⟨hl,EC.afun hmany ?_⟩,fun hl=>?_⟩
    ·have hd1:decide (300 < (B.length:Int))=false:=by simp;omega
     simp [hd1,cond]
     refine ⟨fun x hx hm hz=>⟨H3,a1s hz,?_⟩,fun hm hz=>⟨H3,a1s hz,?_⟩⟩
     ·have hf0:b0f B=false:=by
       rw [Bool.eq_false_iff];intro q
       simp only [b0f,Bool.and_eq_true,decide_eq_true_eq,List.all_eq_true] at q
       have:=q.2 x hx;omega
      rw [hA,hB,hf0]
      exact ⟨rfl,rfl⟩
     ·have hf1:b0f B=true:=by
       simp only [b0f,Bool.and_eq_true,decide_eq_true_eq,List.all_eq_true]
       exact ⟨by omega,hm⟩
      rw [hA,hB,hf1]
      exact ⟨rfl,rfl⟩
    ·have hd1:decide (300 < (B.length:Int))=true:=by simp;omega
     simp [hd1,cond]
     refine fun hz=>⟨H3,a1s hz,?_⟩
     have hf0:b0f B=false:=by
      rw [Bool.eq_false_iff];intro q
      simp only [b0f,Bool.and_eq_true,decide_eq_true_eq,List.all_eq_true] at q
      omega
     rw [hA,hB,hf0]
     exact ⟨rfl,rfl⟩
end Go.Aft
end
section
set_option maxRecDepth 20000
namespace Go.Aft
open Go.Proofs.Tryz
def farS (p:Prog) (g:List Nat) (v:Int) (e:Exp):Int:=if e.op=3/\idx (a0d p) e.name ∈ natI g then minI v e.n else v
def farL (p:Prog) (g:List Nat) (l:List Exp) (v:Int):Int:=l.foldl (farS p g) v
def farM (p:Prog) (g:List Nat):Int:=g.foldl (fun v d=>farL p g (allE (p.defs.getD d default).exp) v) 201
def farC (g:List Nat) (n no nl:Nat):List LV:=[.ip [rowN g] 0,.ip [.gp n 0] 0,.gp no 0,.gp nl 0]
theorem c3s:∀ (l:List Exp) (i:Nat) (h:i < l.length),a0y (l.take (i+1))=a0y (l.take i) ++ allE l[i]
 | e :: l,0,h=>by simp [a0y]
 | e :: l,i+1,h=>by
  simp only [List.take_succ_cons,a0y,List.getElem_cons_succ,c3s l i (by simpa using h),List.append_assoc]
theorem f4c (e:Exp):allE e=e :: a0y e.kids:=by obtain ⟨op,name,n,fold,a0k,kids⟩:=e;rw [allE];rfl
theorem d6y {p:Prog} {W:World'} {n ms mn mv ma no nl:Nat} {g:List Nat} {H:GH} (hW:WldX H n ms mn mv ma p W) (hw0:nbH H) (h1:H.next<=no) (h2:H.next<=nl) (hne:no ≠ nl) :
  ∀ (N:Nat) (e:Exp),SizeOf.sizeOf e < N->b5j p e->∀ (G:GH) (v:Int),(∀ m,m < H.next->G.obj m=H.obj m)->G.obj no=some (.box [lvI v])->G.obj nl=some (.box [.fn (.func 200) [] (farC g n no nl)]) ->
   a0j prog 200 ([lv (rExp e)] ++ farC g n no nl) G fun ce H'=>(∃ x,ce=.ret x)/\H'=G.set no (.box [lvI (farL p g (allE e) v)])
 | 0,e,h,_,_,_,_,_,_=>absurd h (by omega)
 | N+1,e,h,he,G,v,hG,hno,hnl=>by
  have cc:=a0g (p:=kds [5] [] [])
  have hkl:e.kids.length<=1000:=by
   obtain ⟨x,q1,q2,q3,q4,q5⟩:=c7d he.self.ok
   have hop:1<=e.op/\e.op<=15:=Classical.byContradiction fun hn=>by
    unfold a1l at q1
    repeat (rw [if_neg (by omega)] at q1)
    cases q1
   have:=d5g q1 hop
   omega
  refine a0j.a3a (a0g (p:=kds [5] [] [])) func200 rfl call200 (by rw [ntmps200];simp [farC]) rfl fun hf hw=>?_
  have hWG:=hW.mono hw0 hG
  have ob:=hWG.wld.ob
  obtain ⟨en,on,hen⟩:=hWG.wld.on
  have lno:=hw.lt hno
  have lnl:=hw.lt hnl
  have lob:=hw.lt ob
  have hkey:=eq_true hen.key
  have hco:=fun k=>b5w (natI g) k
  have hal:allE e=e :: a0y e.kids:=f4c e
  have hfs:farL p g (allE e) v=farL p g (a0y e.kids) (farS p g v e):=by rw [hal];rfl
  rw [hfs]
  simp [ntmps200,results200,farC,a0c]
  refine AW.seq cc ?_
  simp
  refine AW.join (c:=cxK (kds [5] [] [])) (fun a:Int=>⟨[(4,.gp nl 0),(5,.ip ((rExp e).map .d) 0)],[],G.set no (.box [lvI a])⟩) (fun a=>a=farS p g v e) (AW.ev cc ?_) ?_
  ·simp
   refine AW.draw cc [(12,.n)] (.q 0<|.q 1<|.q 2<|.q 3<|.q 9<|.q 4<|.q 5<|.q 6<|.q 7<|.q 8<|.q 10<|.q 11<|.q 12<|.q 13<|.done) (by kernel_rfl) ?_
   have hidG:G.set no (.box [.d (.k (.int .i64 v))])=G:=GH.a6g hno
   by_cases h3:e.op=3
   ·have hid:=he.self.df (.inr h3)
    have hget:=hen.get e.name hid
    have hmx:max (idx (a0d p) e.name) 0=idx (a0d p) e.name:=by omega
    simp [a0c,h3,ob,on,hkey,hget,hmx]
    refine ⟨by simp [rowN,LV.nb],FCg.afun (fun _=>hco _) ?_⟩
    simp
    refine ⟨fun hin=>?_,fun hin=>?_⟩
    ·simp [hno,lno]
     exact JN.go (farS p g v e) rfl (by simp [a0c,farS,h3,hin])
    ·exact JN.go (farS p g v e) rfl (by simp [a0c,farS,h3,hin,hidG])
   ·have h3':(e.op == 3)=false:=by simpa using h3
    simp [a0c,h3',ob,on,hkey]
    refine FCg.afun (v:=.d (.k (.bool false))) (fun q=>by cases q) ?_
    simp
    exact JN.go (farS p g v e) rfl (by simp [a0c,farS,h3,hidG])
  ·intro v1 hv1
   rw [<- hv1]
   have hs0:∀ X Y,(G.set no X).set no Y=G.set no Y:=fun X Y=>GH.a2n
   refine AW.seq cc ?_
   simp [a0c]
   refine AW.block (c:=cxK (kds [5] [] [])) ?_
   refine AW.a0w cc (fun i:Nat=>⟨[(4,.gp nl 0),(27,sl (e.kids.map rExp)),(28,lvI e.kids.length),(29,lvI i)],[],G.set no (.box [lvI (farL p g (a0y (e.kids.take i)) v1)])⟩) (fun i=>e.kids.length - i) (fun i=>i<=e.kids.length) 0 ⟨Nat.zero_le _,by simp [a0y,farL]⟩ ?_
   intro i hi
   simp
   refine ⟨fun hl=>?_,fun hl=>?_⟩
   ·obtain ⟨k,hk⟩:∃ k,e.kids[i]=k:=⟨_,rfl⟩
    have hkm:k ∈ e.kids:=hk ▸ List.getElem_mem hl
    have hat:=c3s e.kids i hl
    rw [hk] at hat
    have hih:=d6y hW hw0 h1 h2 hne N k (by have:=b6v hkm;omega) (he.kid hkm) (G.set no (.box [lvI (farL p g (a0y (e.kids.take i)) v1)])) (farL p g (a0y (e.kids.take i)) v1) (fun m hm=>by rw [GH.a0f,if_neg (by omega)];exact hG m hm) GH.a0n (by rw [GH.a0f,if_neg (Ne.symm hne)];exact hnl)
    have hgl:∀ X,(G.set no X).obj nl=some (.box [.fn (.func 200) [] (farC g n no nl)]):=fun X=>by rw [GH.a0f,if_neg (Ne.symm hne)];exact hnl
    have hwi:=wrap_succ (n:=9223372036854775807) (show i < 9223372036854775807 by omega)
    simp [a0c,farC] at hih
    simp [hl,List.getElem?_eq_getElem hl,hk,a0c,hgl,farC]
    have hfa:farL p g (a0y (e.kids.take (i+1))) v1=farL p g (allE k) (farL p g (a0y (e.kids.take i)) v1):=by rw [hat,farL,List.foldl_append];rfl
    refine ⟨⟨by simp [rowN,LV.nb],by rw [GH.a0l];exact lob,by rw [GH.a0l];exact lno,by rw [GH.a0l];exact lnl⟩,EC.of hih (fun v2 H2 hR=>?_) (fun v2 H2 hR=>by obtain ⟨⟨_,q⟩,_⟩:=hR;cases q)⟩
    obtain ⟨_,hE⟩:=hR
    rw [hE]
    clear hE
    simp [GH.a2n]
    exact NX.go (i+1) (by omega) hl (by simp [hwi,hfa])
   ·have:i=e.kids.length:=by omega
    subst this
    rw [List.take_length]
    exact fun hz=>hz.drop (by rw [GH.a0l];exact Nat.le_refl _)
theorem e8n {p:Prog} {W:World'} {n ms mn mv ma:Nat} {g:List Nat} {H:GH} (hW:WldX H n ms mn mv ma p W) (he:∀ (d:Nat) (h:d < p.defs.length),b5j p p.defs[d].exp) (hg:∀ d ∈ g,d < p.defs.length) (hgl:g.length<=6) :
  a0j prog 139 [.gp n 0,rowN g] H fun ce H'=>ce=.ret (lvI (farM p g))/\H'=H:=by
 have cc:=a0g (p:=kds [2,3] [5,6] [])
 refine a0j.a3a (a0g (p:=kds [2,3] [5,6] [])) func139 rfl call139 (by rw [ntmps139];simp) rfl fun hf hw=>?_
 have lob:=hw.lt hW.wld.ob
 simp [ntmps139,results139,rowN]
 refine AW.seq cc ?_
 simp
 refine AW.seq cc ?_
 simp [GH.a0b,GH.a0a,GH.a1v]
 refine AW.seq cc ?_
 simp [GH.a0b,GH.a0a,GH.a1v]
 refine AW.seq cc ?_
 simp [GH.a0b,GH.a0a,GH.a1v]
 refine ⟨⟨by omega,by omega⟩,?_⟩
 obtain ⟨HH,hHH⟩:∃ HH:Int->GH,HH=fun v=>(H.add (.box [lvI v])).add (.box [.fn (.func 200) [] (farC g n H.next (H.next+1))]):=⟨_,rfl⟩
 have hn:∀ v,(HH v).next=H.next+2:=fun v=>by rw [hHH];rfl
 have hno:∀ v,(HH v).obj H.next=some (.box [lvI v]):=fun v=>by rw [hHH];simp only;rw [GH.a0b,GH.a0a,if_neg (by omega),GH.a0b,if_pos rfl]
 have hnl:∀ v,(HH v).obj (H.next+1)=some (.box [.fn (.func 200) [] (farC g n H.next (H.next+1))]):=fun v=>by rw [hHH];simp only;rw [GH.a0b,GH.a0a,if_pos rfl]
 have hlo:∀ v m,m < H.next->(HH v).obj m=H.obj m:=fun v m hm=>by rw [hHH];simp only;rw [GH.a0b,GH.a0a,if_neg (by omega),GH.a0b,if_neg (by omega)]
 have hst:∀ v u,(HH v).set H.next (.box [lvI u])=HH u:=fun v u=>by
  rw [hHH];simp only [GH.set,GH.add];congr 1;funext m;unfold upd;split <;> simp_all
 have h0:((H.add (.box [.d (.k (.int .i64 201))])).add (.box [.d (.k .nilFunc)])).set (H.next+1) (.box [.fn (.func 200) [] [.ip [.d (.sl ((natI g).map rI))] 0,.ip [.gp n 0] 0,.gp H.next 0,.gp (H.next+1) 0]])=HH 201:=by
  rw [hHH]
  have:∀ (A:GH) (a b:GO),(A.add a).set A.next b=A.add b:=fun A a b=>GH.a1v
  exact this (H.add (.box [.d (.k (.int .i64 201))])) _ _
 rw [h0]
 obtain ⟨ex,hex⟩:∃ ex:Nat->List Exp,ex=fun d=>allE (p.defs.getD d default).exp:=⟨_,rfl⟩
 refine AW.seq cc ?_
 simp
 refine AW.a0w cc (fun i:Nat=>⟨[(2,.ip [.gp n 0] 0),(5,.gp H.next 0),(6,.gp (H.next+1) 0),(10,rowN g),(11,lvI g.length),(12,lvI i)],[],HH ((g.take i).foldl (fun v d=>farL p g (ex d) v) 201)⟩) (fun i=>g.length - i) (fun i=>i<=g.length) 0 ⟨Nat.zero_le _,by simp [rowN,natI]⟩ ?_
 intro i hi
 have hwi:=wrap_succ (n:=9223372036854775807) (show i < 9223372036854775807 by omega)
 simp [rowN]
 refine ⟨fun h=>?_,fun h=>?_⟩
 ·obtain ⟨d,hd⟩:∃ d,g[i]=d:=⟨_,rfl⟩
  have hdm:d ∈ g:=hd ▸ List.getElem_mem h
  have hdl:=hg d hdm
  have htk:g.take (i+1)=g.take i ++ [d]:=by rw [<- a0p h,hd]
  have hgk:(natI g)[i]?=some (d:Int):=by simp [natI,List.getElem?_eq_getElem h,hd]
  obtain ⟨v,hv⟩:∃ v,(g.take i).foldl (fun v d=>farL p g (ex d) v) 201=v:=⟨_,rfl⟩
  have hv2:(g.take (i+1)).foldl (fun v d=>farL p g (ex d) v) 201=farL p g (ex d) v:=by rw [htk,List.foldl_append,hv];rfl
  have hed:ex d=allE p.defs[d].exp:=by rw [hex];simp [List.getD,List.getElem?_eq_getElem hdl]
  have hlk:=d6y hW hw (no:=H.next) (nl:=H.next+1) (g:=g) (Nat.le_refl _) (by omega) (by omega) _ p.defs[d].exp (Nat.lt_succ_self _) (he d hdl) (HH v) v (hlo v) (hno v) (hnl v)
  have obv:(HH v).obj n=H.obj n:=hlo v n lob
  have ob:=hW.wld.ob
  rw [hst,<- hed] at hlk
  simp [a0c,farC] at hlk
  rw [hv]
  simp [h,hgk,rI]
  refine ⟨by simpa [natI] using h,?_⟩
  refine AW.draw cc [] (.q 6<|.q 0<|.q 1<|.q 2<|.q 3<|.q 4<|.q 5<|.q 7<|.q 8<|.q 9<|.f<|.one 10<|.done) (by kernel_rfl) ?_
  simp [hnl,obv,ob,hdl,List.getElem?_eq_getElem hdl,rDef,a0c,farC]
  refine ⟨⟨by simp [rowN,LV.nb],by rw [hn];omega,by rw [hn];omega,by rw [hn];omega⟩,ECn.of hlk (fun v2 H2 hR _=>?_) (fun x H2 env hR _=>by obtain ⟨⟨_,q⟩,_⟩:=hR;cases q)⟩
  obtain ⟨_,hE⟩:=hR
  rw [hE]
  clear hE
  simp
  exact NX.go (i+1) (by omega) h (by simp [hwi,hv2,rowN])
 ·have:i=g.length:=by omega
  subst this
  rw [List.take_length]
  have hfm:g.foldl (fun v d=>farL p g (ex d) v) 201=farM p g:=by rw [hex];rfl
  rw [hfm]
  refine AW.ev cc ?_
  simp [hno]
  exact fun _=>a0m (by rw [hn];omega) (hlo _) hw.none
end Go.Aft
end
section
set_option maxRecDepth 20000
namespace Go.Aft
open Go.Proofs.Tryz
def a5a (l:List Event) (src:Int):List Item:=(l.filter fun e=>decide (e.src=src)).map fun e=>⟨e.rec_,1⟩
def b6g (l:List Event) (src:Int):Bag:=a1i (a5a l src) 200
theorem c1s (l:List Event) (e:Event) (src:Int):a5a (l ++ [e]) src=a5a l src ++ (if e.src=src then [⟨e.rec_,1⟩] else []):=by
 unfold a5a
 rw [List.filter_append,List.map_append,List.filter_cons]
 by_cases q:e.src=src <;> simp [q]
theorem a9i (l:List Event) (src:Int):(a5a l src).length<=l.length:=by
 unfold a5a;rw [List.length_map];exact List.length_filter_le _ _
theorem c8h (l:List Event) (src:Int) (hl:l.length<=1000):AFun prog 69 [sl (l.map a0t),lvI src] (bagL (b6g l src)):=by
 intro H
 have cc:=a0g (p:=kds [] [] [])
 refine a0j.a1j (a0g (p:=kds [] [] [])) func69 rfl call69 (by rw [ntmps69];simp) rfl fun hf hw=>?_
 simp [ntmps69,results69] at hf |-
 refine AW.a0w cc (fun s:Nat × LV × GH=>⟨[(1,lvI src),(5,s.2.1),(8,sl (l.map a0t)),(9,lvI l.length),(10,lvI s.1)],[],s.2.2⟩) (fun s=>l.length - s.1)
  (fun s=>s.1<=l.length/\AppX 86 4 H s.2.1 ((a5a (l.take s.1) src).map a0i) s.2.2) (0,.d (.k (.slice none 0 0)),H) ⟨⟨Nat.zero_le _,by simpa [a5a] using AppX.nil⟩,by simp⟩ ?_
 rintro ⟨i,y,H2⟩ ⟨hi,happ⟩
 simp only at hi happ
 simp
 refine ⟨fun h=>?_,fun h=>?_⟩
 ·obtain ⟨x,hxe⟩:∃ x,l[i]=x:=⟨_,rfl⟩
  have htk:l.take (i+1)=l.take i ++ [x]:=by rw [<- a0p h,hxe]
  have hw':=wrap_succ (n:=9223372036854775807) (show i < 9223372036854775807 by omega)
  have hsn:=c1s (l.take i) x src
  rw [<- htk] at hsn
  have hsl:(a5a (l.take i) src).length<=1000:=Nat.le_trans (a9i _ _) (by simp;omega)
  simp [h,List.getElem?_eq_getElem h,hxe,a0t,rRec,happ.plain.all]
  refine ⟨fun q=>?_,fun q=>?_⟩
  ·refine APK.appX (ys:=[a0i ⟨x.rec_,1⟩]) tyE29 rfl tyE86 (by simp) (x:=y) (by simp) happ (by simp [a0i,rowsOf]) (by simp) (a1b _) (fun r hr=>by simp only [List.mem_singleton] at hr;subst hr;rfl) (by simp;omega) (by simp) fun x' H3 happ' _ _=>?_
   simp [happ'.plain.all,happ'.only,hw']
   refine NX.go (i+1,x',H3) (by simp only;omega) ⟨h,?_⟩ (by simp [happ'.only])
   rw [hsn,if_pos q,List.map_append];exact happ'
  ·rw [if_neg q,List.append_nil] at hsn
   exact NX.go (i+1,y,H2) (by simp only;omega) ⟨h,by rw [hsn];exact happ⟩ (by simp [happ.only,hw'])
 ·have:i=l.length:=by omega
  subst this
  rw [List.take_length] at happ
  have hsl:=a9i l src
  have hsu:=b8s (a5a l src) 200 (by omega) (fun x hx=>by obtain ⟨e,_,rfl⟩:=List.mem_map.1 hx;simp)
  simp at hsu
  simp [happ.plain.all]
  refine ⟨happ.nb,EC.afun (AFun.fzA (v:=sl ((a1i (a5a l src) 200).map a0i)) (by simp only [fzs,fz,happ.fz];exact hsu)) ?_⟩
  simp [bagL,b6g]
  exact fun hz=>a0m happ.nx happ.ob hw.none
def b0k (a b:Event):Bool:=decide (a.rec_.at_ < b.rec_.at_ \/ a.rec_.at_=b.rec_.at_/\(a.src < b.src \/ a.src=b.src/\a.id < b.id))
def evN (e:Event):News:=⟨1,e.src,e.id,1,e.rec_⟩
theorem d2t (e:Event):AFun prog 132 [lv (a0t e)] (lv (a1w (evN e))):=by
 refine AFun.body (a0g (p:=kds [1] [] [])) func132 rfl call132 (by rw [ntmps132];simp) rfl fun hf H=>?_
 simp [ntmps132,results132,a0t,rRec,a1w,evN]
theorem d2s (a b:Event):AFun prog 133 [lv (a0t a),lv (a0t b)] (.d (.k (.bool (b0k a b)))):=by
 refine AFun.body (a0g (p:=kds [2,3] [] [])) func133 rfl call133 (by rw [ntmps133];simp) rfl fun hf H=>?_
 have h:=b1m [a.rec_.at_,a.src,a.id] [b.rec_.at_,b.src,b.id]
 have hr:List.range' 0 3=[0,1,2]:=rfl
 simp [rI] at h
 simp [ntmps133,results133,a0t,rRec,hr]
 refine EC.afun h ?_
 simp
 rw [Bool.eq_iff_iff]
 simp only [b0k,decide_eq_true_eq]
 simp only [lexC,cmpI]
 repeat' split
 all_goals omega
theorem e2t (l:List News):∀ r ∈ l.map a1w,r.length=7:=fun r hr=>by obtain ⟨_,_,rfl⟩:=List.mem_map.1 hr;rfl
theorem c5c (l:List Event) (hl:l.length<=1000):AFun prog 131 [sl (l.map a0t),.fn (.func 132) [] []] (sl ((l.map evN).map a1w)):=by
 intro H
 have cc:=cx0_ok
 refine a0j.a1j cx0_ok func131 rfl call131 (by rw [ntmps131];simp) rfl fun hf hw=>?_
 simp [ntmps131,results131] at hf |-
 refine AW.a0w cc (fun a:Nat × LV × GH=>⟨[(1,.fn (.func 132) [] []),(5,a.2.1),(8,.d (.sl (l.map a0t))),(9,lvI l.length),(10,lvI a.1)],[],a.2.2⟩) (fun a=>l.length - a.1) (fun a=>a.1<=l.length/\AppX 184 7 H a.2.1 (((l.take a.1).map evN).map a1w) a.2.2) (0,.d (.k (.slice none 0 0)),H) ⟨⟨by simp,.nil⟩,by simp [LV.only,a3c]⟩ ?_
 rintro ⟨i,x,H'⟩ ⟨hi,happ⟩
 simp only at hi happ
 simp
 refine ⟨fun h=>?_,fun h=>?_⟩
 ·have hd:=d2t l[i]
  simp [a0t,rRec,a1w] at hd
  simp [h,List.getElem?_eq_getElem h,a0t,rRec,happ.plain.all]
  refine EC.afun hd ?_
  simp [happ.plain.all]
  refine APK.appX (ys:=[a1w (evN l[i])]) tyE180 rfl tyE184 (by simp) (x:=x) (by simp) happ (by simp [a1w,rRec,rowsOf]) (by simp) (e2t _) (fun r hr=>by simp only [List.mem_singleton] at hr;subst hr;rfl) (by simp;omega) (by simp) fun x' H3 happ' _ _=>?_
  rw [show ((l.take i).map evN).map a1w ++ [a1w (evN l[i])]=((l.take (i+1)).map evN).map a1w by rw [<- a0p h,List.map_append,List.map_append];rfl] at happ'
  simp [happ'.plain.all,happ'.only,wrap_succ (n:=9223372036854775807) (show i < 9223372036854775807 by omega)]
  exact NX.go (i+1,x',H3) (by simp only;omega) ⟨h,happ'⟩ (by simp [happ'.only,happ'.plain.all,LV.only,a3c])
 ·have:i=l.length:=by omega
  subst this
  rw [List.take_length] at happ
  simp [happ.plain.all,happ.fz]
  exact fun hz=>a0m happ.nx happ.ob hw.none
end Go.Aft
end
section
set_option maxRecDepth 20000
namespace Go.Aft
open Go.Proofs.Tryz
def f2h (p:Prog) (srcs:List Bag) (top:Int) (defs:List Bag) (d:Nat):Option (List Bag):=match expM p ⟨srcs,defs⟩ top (p.defs.getD d default).exp with
 | none=>none
 | some b=>some (defs.set d b)
def c4t (p:Prog) (srcs:List Bag) (top:Int):List Nat->List Bag->Option (List Bag)
 | [],defs=>some defs
 | d :: g,defs=>match f2h p srcs top defs d with
  | none=>none
  | some defs'=>c4t p srcs top g defs'
def c6q (p:Prog) (srcs:List Bag) (far:Int) (g:List Nat):Nat->Int->List Bag->Option (List Bag)
 | 0,_,defs=>some defs
 | f+1,top,defs=>match c4t p srcs top g defs with
  | none=>none
  | some defs'=>if top=200 then some defs' else c6q p srcs far g f (minI (top+far) 200) defs'
def f1p (p:Prog) (srcs:List Bag) (g:List Nat) (defs:List Bag):Option (List Bag):=c6q p srcs (farM p g) g 202 (minI (farM p g - 1) 200) defs
def a6v (p:Prog) (srcs:List Bag):List (List Nat)->List Bag->Option (List Bag)
 | [],defs=>some defs
 | g :: gs,defs=>match f1p p srcs g defs with
  | none=>none
  | some defs'=>a6v p srcs gs defs'
def c0p (p:Prog) (l:List Event):List Bag:=(List.range p.srcs.length).map fun i=>b6g l (i:Nat)
noncomputable def knownM (p:Prog) (l:List Event):Option (List Bag):=a6v p (c0p p l) (b0c p.defs.length (pathB p)) (List.replicate p.defs.length [])
theorem e0q (n:Nat) (H:GH) (R:DM->GH->Prop) (h:R .ret H):b0p prog 137 [.gp n 0] H .ret R:=by
 refine b0p.a4l cx0_ok func137 rfl call137 rfl rfl rfl (by rw [ntmps137];simp) (by rw [ntmps137];omega) rfl fun hw=>?_
 simp [runX,recV,ntmps137]
 refine EV.sound cx0_ok ?_
 simp [c9q,recM]
 exact ⟨H,a0m (Nat.le_refl _) (fun _ _=>rfl) hw,h⟩
theorem b4u (n:Nat) (c:List LV) (H:GH) (h1:H.obj n=some (.box c)) (hl:c.length=1) (R:DM->GH->Prop)
  (h:R (.rec_ tooMuch) (H.set n (.box [.d (.k (.pointer none))]))):b0p prog 137 [.gp n 0] H (.pan tooMuch) R:=by
 refine b0p.a4l cx0_ok func137 rfl call137 rfl rfl rfl (by rw [ntmps137];simp) (by rw [ntmps137];omega) rfl fun hw=>?_
 simp [runX,recV,ntmps137,tooMuch]
 refine EV.sound cx0_ok ?_
 obtain ⟨x,rfl⟩:∃ x,c=[x]:=by
  match c,hl with
  | [x],_=>exact ⟨x,rfl⟩
 simp [c9q,recM,h1]
 have lt:∀ n o,H.obj n=some o->n < H.next:=fun n o ho=>by
  rcases Nat.lt_or_ge n H.next with q | q
  ·exact q
  ·rw [hw n q] at ho;cases ho
 exact ⟨_,c6l (d4p (Nat.le_refl _) hw fun _ _ q=>.inl q) (lt _ _ h1) (by simp [nbs,LV.nb]),h⟩
theorem e3q (H:GH):a0j prog 138 [] H fun ce H'=>ce=.ret (.gm H.next)/\H'=H.add (.map e6o):=by
 refine a0j.a1j cx0_ok func138 rfl call138 (by rw [ntmps138];simp) rfl fun hf hw=>?_
 simp [ntmps138,results138,GH.a0b,GH.a0a,GH.a1v,KK.has,Sc.has,mput,a4f]
 exact fun hz=>hz.drop (by rw [GH.a0a];omega)
end Go.Aft
end
