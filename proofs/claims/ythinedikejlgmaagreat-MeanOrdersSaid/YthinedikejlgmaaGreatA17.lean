import Derived.Test.YthinedikejlgmaaGreatA16
set_option linter.all false
namespace Go.Aft
mutual
theorem d5d {k:Nat} {cs:List LV}:∀ (x:LV),x.noLp=true->x.sub k cs=x
 | .fn f first cap,h=>by
  simp only [LV.noLp,Bool.and_eq_true] at h
  simp only [LV.sub,a3u _ h.1,a3u _ h.2]
 | .ip xs off,h=>by simp only [LV.noLp] at h;simp only [LV.sub,a3u _ h]
 | .agg xs,h=>by simp only [LV.noLp] at h;simp only [LV.sub,a3u _ h]
 | .tup xs,h=>by simp only [LV.noLp] at h;simp only [LV.sub,a3u _ h]
 | .gd g x,h=>by simp only [LV.noLp] at h;simp only [LV.sub,d5d x h]
 | .lp _ _,h=>by simp [LV.noLp] at h
 | .d _,h | .gp _ _,h | .ep _ _ _ _,h | .osl _ _,h | .gm _,h | .vs _ _ _ _ _,h | .vp _ _ _,h | .yl _,h | .any,h=>by simp [LV.sub]
theorem a3u {k:Nat} {cs:List LV}:∀ (xs:List LV),a5u xs=true->subs k cs xs=xs
 | [],_=>by simp [subs]
 | x :: xs,h=>by
  simp only [a5u,Bool.and_eq_true] at h
  simp only [subs,d5d x h.1,a3u xs h.2]
end
mutual
theorem e3j {n:Nat} {keep:List Nat}:∀ (x:LV),x.nb n->x.only keep
 | .fn f first cap,h=>by unfold LV.nb at h;unfold LV.only;exact ⟨a1r _ h.1,a1r _ h.2⟩
 | .ip xs off,h=>by unfold LV.nb at h;unfold LV.only;exact a1r _ h
 | .agg xs,h=>by unfold LV.nb at h;unfold LV.only;exact a1r _ h
 | .tup xs,h=>by unfold LV.nb at h;unfold LV.only;exact a1r _ h
 | .gd g x,h=>by unfold LV.nb at h;unfold LV.only;exact fun e=>e3j x (h e)
 | .lp _ _,h=>by simp [LV.nb] at h
 | .d _,h | .gp _ _,h | .ep _ _ _ _,h | .osl _ _,h | .gm _,h | .vs _ _ _ _ _,h | .vp _ _ _,h | .yl _,h | .any,h=>by simp [LV.only]
theorem a1r {n:Nat} {keep:List Nat}:∀ (xs:List LV),nbs n xs->a3c keep xs
 | [],_=>by simp [a3c]
 | x :: xs,h=>by unfold nbs at h;unfold a3c;exact ⟨e3j x h.1,a1r xs h.2⟩
end
mutual
def DV.fits:DV->Prop
 | .k _=>True
 | .sl xs=>xs.length<=maxLen/\rowsFit xs
def rowFits:List DV->Prop
 | []=>True
 | c :: cs=>c.fits/\rowFits cs
def rowsFit:List (List DV)->Prop
 | []=>True
 | r :: rs=>rowFits r/\rowsFit rs
end
mutual
theorem d4q {M:Mem}:∀ (d:DV) (x:Value),DR M d x->d.fits
 | .k v,x,h=>by unfold DV.fits;trivial
 | .sl xs,x,h=>by
  unfold DR at h;unfold DV.fits
  obtain ⟨a,cap,sz,_,h1,h2,_,h3⟩:=h
  refine ⟨Nat.le_trans h1 h2,?_⟩
  rcases h3 with rfl | ⟨b,o,_,h3⟩
  ·unfold rowsFit;trivial
  ·exact e6t b o xs h3
theorem e6w {M:Mem}:∀ (b o:Nat) (r:List DV),RC M b o r->rowFits r
 | b,o,[],h=>by unfold rowFits;trivial
 | b,o,c :: cs,h=>by
  unfold RC at h;unfold rowFits
  obtain ⟨⟨v,_,h1⟩,h2⟩:=h
  exact ⟨d4q c v h1,e6w b (o+1) cs h2⟩
theorem e6t {M:Mem}:∀ (b o:Nat) (xs:List (List DV)),RR M b o xs->rowsFit xs
 | b,o,[],h=>by unfold rowsFit;trivial
 | b,o,r :: rs,h=>by
  unfold RR at h;unfold rowsFit
  exact ⟨e6w b o r h.1,e6t b _ rs h.2⟩
end
mutual
def LV.fits:LV->Prop
 | .d x=>x.fits
 | .fn _ first cap=>a6w first/\a6w cap
 | .ip cs _=>a6w cs
 | .agg cs=>a6w cs
 | .tup cs=>a6w cs
 | .osl _ xs=>(DV.sl xs).fits
 | _=>True
def a6w:List LV->Prop
 | []=>True
 | c :: cs=>LV.fits c/\a6w cs
end
mutual
theorem e7b {G:Gh} {nx:Nat} {lm:Nat->Option Nat}:∀ (x:LV) (v:Value),LR G nx lm x v->x.fits
 | .d x,v,h=>by unfold LR at h;unfold LV.fits;exact d4q x v h
 | .lp k off,v,h=>by unfold LV.fits;trivial
 | .gp m off,v,h=>by unfold LV.fits;trivial
 | .ep xs es i off,v,h=>by unfold LV.fits;trivial
 | .osl m xs,v,h=>by unfold LR at h;unfold LV.fits;exact d4q _ v h.2.1
 | .vs _ _ _ _ _,v,h=>by unfold LV.fits;trivial
 | .vp _ _ _,v,h=>by unfold LV.fits;trivial
 | .yl _,v,h=>by unfold LV.fits;trivial
 | .ip cs off,v,h=>by unfold LR at h;unfold LV.fits;obtain ⟨b,_,h2⟩:=h;exact e7f b 0 cs h2
 | .gm m,v,h=>by unfold LV.fits;trivial
 | .fn f first cap,v,h=>by
  unfold LR at h;unfold LV.fits
  obtain ⟨fs,cs,h1,h2,h3⟩:=h
  exact ⟨b1i _ _ h2,b1i _ _ h3⟩
 | .agg cs,v,h=>by unfold LR at h;unfold LV.fits;obtain ⟨vs,h1,h2⟩:=h;exact b1i _ _ h2
 | .tup cs,v,h=>by unfold LR at h;unfold LV.fits;obtain ⟨vs,h1,h2⟩:=h;exact b1i _ _ h2
 | .gd g raw,v,h=>by unfold LV.fits;trivial
 | .any,v,_=>by unfold LV.fits;trivial
theorem b1i {G:Gh} {nx:Nat} {lm:Nat->Option Nat}:∀ (xs:List LV) (vs:List Value),LRs G nx lm xs vs->a6w xs
 | [],vs,h=>by unfold a6w;trivial
 | c :: cs,vs,h=>by
  unfold LRs at h;unfold a6w
  obtain ⟨v,r,h1,h2,h3⟩:=h
  exact ⟨e7b c v h2,b1i cs r h3⟩
theorem e7f {G:Gh} {nx:Nat} {lm:Nat->Option Nat}:∀ (b o:Nat) (xs:List LV),IR G nx lm b o xs->a6w xs
 | b,o,[],h=>by unfold a6w;trivial
 | b,o,c :: cs,h=>by
  unfold IR at h;unfold a6w
  obtain ⟨⟨v,h1,h1',h2⟩,h3⟩:=h
  exact ⟨e7b c v h2,e7f b (o+1) cs h3⟩
end
@[simp] theorem rowFits_append:∀ {a b:List DV},rowFits (a ++ b)=(rowFits a/\rowFits b)
 | [],b=>by simp [rowFits]
 | x :: a,b=>by simp [rowFits,rowFits_append (a:=a) (b:=b),and_assoc]
theorem a7a.fits {P:Program} {f:FuncId} {args:List LV} {H:GH} {R:CE->GH->Prop} (h:a6w args->a7a P f args H R):a7a P f args H R :=
 fun G w vs h1 h2 h3=>h (b1i _ _ h3) G w vs h1 h2 h3
theorem a0j.body {P:Program} {c:Cx} (hc:c.ok P) {f:FuncId} {fn:Func} {code:Code} (hf:P.funcs[f]?=some fn) (hb:fn.body=some code) (he:Enters P f) {args:List LV} (hn:args.length<=fn.ntmps) (hrd:c.rd.b8j f=true) {H:GH} {R:CE->GH->Prop}
  (h:a6w args->(∀ n,H.next<=n->H.obj n=none)->@EV P c ⟨code⟩ ⟨a3k 0 args,noS,H,fn.ntmps,[]⟩ ⟨e5y P c fn.results.toList H R⟩):a0j P f args H R :=
 ⟨he,a7a.fits fun hfit=>a7a.a4l hc hf hb hn hrd fun hw=>EV.sound hc (h hfit hw)⟩
theorem AFun.body {P:Program} {c:Cx} (hc:c.ok P) {f:FuncId} {fn:Func} {code:Code} (hf:P.funcs[f]?=some fn) (hb:fn.body=some code) (he:Enters P f) {args:List LV} (hn:args.length<=fn.ntmps) (hrd:c.rd.b8j f=true) {v:LV}
  (h:a6w args->∀ H:GH,@EV P c ⟨code⟩ ⟨a3k 0 args,noS,H,fn.ntmps,[]⟩ ⟨e6a c fn.results.toList H v⟩):AFun P f args v :=
 fun H=>⟨he,a7a.fits fun hfit=>(AFun.a4l hc hf hb he hn hrd (fun H=>EV.sound hc (h hfit H)) H).2⟩
theorem a0j.d3w {P:Program} {c:Cx} (hc:c.ok P) {f:FuncId} {fn:Func} {code:Code} (hf:P.funcs[f]?=some fn) (hb:fn.body=some code) (he:Enters P f) {args:List LV} (hn:args.length<=fn.ntmps) (hrd:c.rd.b8j f=true) {H:GH} {R:CE->GH->Prop}
  (h:a6w args->(∀ n,H.next<=n->H.obj n=none)->@AW P c.rd ⟨code⟩ ⟨a3k 0 args,noS,H,fn.ntmps,[]⟩ ⟨e5y P c fn.results.toList H R⟩):a0j P f args H R :=
 ⟨he,a7a.fits fun hfit=>a7a.a4l hc hf hb hn hrd fun hw=>h hfit hw⟩
theorem AFun.d3w {P:Program} {c:Cx} (hc:c.ok P) {f:FuncId} {fn:Func} {code:Code} (hf:P.funcs[f]?=some fn) (hb:fn.body=some code) (he:Enters P f) {args:List LV} (hn:args.length<=fn.ntmps) (hrd:c.rd.b8j f=true) {v:LV}
  (h:a6w args->∀ H:GH,@AW P c.rd ⟨code⟩ ⟨a3k 0 args,noS,H,fn.ntmps,[]⟩ ⟨e6a c fn.results.toList H v⟩):AFun P f args v :=
 fun H=>⟨he,a7a.fits fun hfit=>(AFun.a4l hc hf hb he hn hrd (fun H=>h hfit H) H).2⟩
@[simp] theorem noS_apply {k:Nat}:noS k=none:=rfl
def envL (l:List (Nat × LV)):Nat->LV:=fun t=>match l with
 | []=>.any
 | (j,v) :: r=>if t=j then v else envL r t
def boxL (l:List (Nat × List LV)):Nat->Option (List LV):=fun t=>match l with
 | []=>none
 | (j,v) :: r=>if t=j then some v else boxL r t
@[simp] theorem envL_nil {t:Nat}:envL [] t=.any:=by simp [envL]
@[simp] theorem envL_cons {t j:Nat} {v:LV} {r:List (Nat × LV)}:envL ((j,v) :: r) t=if t=j then v else envL r t:=by rw [envL]
@[simp] theorem boxL_nil {t:Nat}:boxL [] t=none:=by simp [boxL]
@[simp] theorem boxL_cons {t j:Nat} {v:List LV} {r:List (Nat × List LV)}:boxL ((j,v) :: r) t=if t=j then some v else boxL r t:=by rw [boxL]
theorem d3m {l:List (Nat × LV)} {t:Nat}:envL l t=.any \/ (t,envL l t) ∈ l:=by
 induction l with
 | nil=>simp
 | cons p r ih =>
  obtain ⟨j,v⟩:=p
  rw [envL_cons]
  by_cases h:t=j
  ·subst h;simp
  ·rw [if_neg h];exact ih.imp id (List.mem_cons_of_mem _)
theorem d3t {l:List (Nat × List LV)} {t:Nat}:boxL l t=none \/ ∃ cs,boxL l t=some cs/\(t,cs) ∈ l:=by
 induction l with
 | nil=>simp
 | cons p r ih =>
  obtain ⟨j,v⟩:=p
  rw [boxL_cons]
  by_cases h:t=j
  ·subst h;exact .inr ⟨v,by simp,List.mem_cons_self ..⟩
  ·rw [if_neg h];exact ih.imp id fun ⟨cs,a,b⟩=>⟨cs,a,List.mem_cons_of_mem _ b⟩
theorem e5x {l:List (Nat × List LV)} {t:Nat} (h:boxL l t=none):∀ cs,(t,cs) ∉ l:=by
 induction l with
 | nil=>simp
 | cons p r ih =>
  obtain ⟨j,v⟩:=p
  rw [boxL_cons] at h
  split at h
  ·cases h
  ·rename_i hne
   intro cs hcs
   rcases List.mem_cons.1 hcs with q | q
   ·cases q;exact hne rfl
   ·exact ih h cs q
structure LS where
 e:List (Nat × LV)
 b:List (Nat × List LV)
 H:GH
def LS.s (x:LS) (nt:Nat) (df:List AD):S:=⟨envL x.e,boxL x.b,x.H,nt,df⟩
@[simp] theorem LS.s_mk {e:List (Nat × LV)} {b:List (Nat × List LV)} {H:GH} {nt:Nat} {df:List AD}:(⟨e,b,H⟩:LS).s nt df = ⟨envL e,boxL b,H,nt,df⟩:=rfl
def eqL (keep:List Nat) (env:Nat->LV):List (Nat × LV)->Prop
 | []=>True
 | (t,v) :: r=>env t=v/\v.only keep/\eqL keep env r
def eqB (keep:List Nat) (L:Nat->Option (List LV)):List (Nat × List LV)->Prop
 | []=>True
 | (t,v) :: r=>L t=some v/\a3c keep v/\eqB keep L r
def LS.at (x:LS) (nt:Nat) (df:List AD) (s:S):Prop:=eqL (x.b.map (·.1)) s.env x.e/\eqB (x.b.map (·.1)) s.L x.b/\s.H=x.H/\s.nt=nt/\s.df=df
theorem e5g {keep:List Nat} {env:Nat->LV}:∀ {l:List (Nat × LV)},eqL keep env l->∀ p ∈ l,env p.1=p.2/\p.2.only keep
 | (t,v) :: r,h,p,hp=>by
  rcases List.mem_cons.1 hp with rfl | hp
  ·exact ⟨h.1,h.2.1⟩
  ·exact e5g h.2.2 p hp
theorem e5i {keep:List Nat} {env:Nat->Option (List LV)}:∀ {l:List (Nat × List LV)},eqB keep env l->∀ p ∈ l,env p.1=some p.2/\a3c keep p.2
 | (t,v) :: r,h,p,hp=>by
  rcases List.mem_cons.1 hp with rfl | hp
  ·exact ⟨h.1,h.2.1⟩
  ·exact e5i h.2.2 p hp
theorem Sim.at {E:Ent} {s:S} {a:Act} {w:World} {x:LS} (h:Sim E s a w) (hx:x.at s.nt s.df s):Sim E (x.s s.nt s.df) a w:=by
 obtain ⟨h2,G,lm,h1,hM,hxx,henv,_⟩:=h
 obtain ⟨he,hb,hH,_,_⟩:=hx
 obtain ⟨e,b,H⟩:=x
 subst hH
 have he:=e5g he
 have hb:=e5i hb
 refine ⟨h2,G,b1s (b.map (·.1)) lm,h1,⟨hM.imm,hM.immOwn,hM.fresh,fun k hn=>?_,fun k cs hs=>?_,hM.nmd⟩,hxx,fun t=>?_,rfl⟩
 ·unfold b1s
  by_cases e:k ∈ b.map (·.1)
  ·exfalso
   obtain ⟨⟨k',cs⟩,hp,rfl⟩:=List.mem_map.1 e
   exact e5x hn cs hp
  ·rw [if_neg e]
 ·simp only [LS.s] at hs
  rcases d3t (l:=b) (t:=k) with q | ⟨cs',q,hp⟩
  ·rw [q] at hs;cases hs
  ·rw [q] at hs;cases hs
   obtain ⟨q1,q2⟩:=hb _ hp
   obtain ⟨b',vs,r1,r2,r3,r4⟩:=hM.loc k cs q1
   exact ⟨b',vs,by unfold b1s;rw [if_pos (List.mem_map.2 ⟨_,hp,rfl⟩)];exact r1,r2,r3,a8s _ _ r4 q2⟩
 ·simp only [LS.s]
  rcases d3m (l:=e) (t:=t) with q | q
  ·rw [q];simp [LR]
  ·obtain ⟨q1,q2⟩:=he _ q
   simp only at q1 q2
   rw [<- q1] at q2 |-;exact c0j _ _ (henv t) q2
theorem AWp.at {P:Program} {rd:RD} {x:Code} {s:S} {Q:AE->S->Prop} (y:LS) (hy:y.at s.nt s.df s) (h:AWp P rd x (y.s s.nt s.df) Q):AWp P rd x s Q:=fun E a w hs=>h E a w (hs.at hy)
structure Plain (x:LV):Prop where
 un:x.un=x
 unP:x.unP
 cells:x.cells=[x]
 one:x.one=true
theorem Plain.all {x:LV} (h:Plain x):x.un=x/\x.unP/\x.cells=[x]/\x.one=true:=⟨h.un,h.unP,h.cells,h.one⟩
theorem App.plain {e:TypeId} {sz:Nat} {H0 H:GH} {x:LV} {rows:List (List DV)} (h:App e sz H0 x rows H):Plain x:=by
 rcases h with ⟨_,rfl,_⟩ | ⟨rfl,_⟩ <;> exact ⟨rfl,trivial,rfl,rfl⟩
theorem App.only {e:TypeId} {sz:Nat} {H0 H:GH} {x:LV} {rows:List (List DV)} (h:App e sz H0 x rows H) {k:List Nat}:x.only k:=by
 rcases h with ⟨_,rfl,_⟩ | ⟨rfl,_⟩ <;> simp [LV.only]
theorem App.fz {e:TypeId} {sz:Nat} {H0 H:GH} {x:LV} {rows:List (List DV)} (h:App e sz H0 x rows H):Go.Aft.fz x=.d (.sl rows)/\H0.next<=H.next/\∀ m,m < H0.next->H.obj m=H0.obj m:=by
 rcases h with ⟨rfl,rfl,rfl⟩ | ⟨rfl,h1,h2,h3⟩
 ·exact ⟨by simp [Go.Aft.fz],Nat.le_refl _,fun _ _=>rfl⟩
 ·exact ⟨by simp [Go.Aft.fz],by omega,h3⟩
section
variable {c:Cx} {s:S} {K:KT} {dst:Option Nat}
theorem APK.ev {x:Array Operand} {y:Array TypeId} (h:@RK (opX c.ty c.eqt c.pub s dst (.call ⟨.builtin .append,x,y⟩)) s dst K):@APK c x y s dst K:=h
theorem APK.app {T e:TypeId} {d ed:TyD} {a b:Operand} {H0:GH} {rows ys:List (List DV)} (hT:c.ty T=some d) (hd:d.k=.sl e) (he:c.ty e=some ed) (hsz:ed.sz ≠ 0)
  {x:LV} (ha:s.get a=x) (happ:App e ed.sz H0 x rows s.H) (hb:rowsOf (s.arg b)=some ys) (hbp:s.argP b) (hr:∀ r ∈ rows,r.length=ed.sz) (hy:∀ r ∈ ys,r.length=ed.sz)
  (hl:(rows.length+ys.length) * ed.bt<=140737488355328/\rows.length+ys.length<=140737488355328) (hv:∀ t,dst=some t->c.pub t ≠ .vec)
  (hk:∀ x' H',App e ed.sz H0 x' (rows ++ ys) H'->@AP K (({ s with H:=H' }:S).put dst x')):@APK c #[a,b] #[T,T] s dst K:=by
 obtain ⟨k,sz,z,bt⟩:=d
 simp only at hd;subst hd
 obtain ⟨hap,happ⟩:s.argP a/\App e ed.sz H0 (s.arg a) rows s.H:=by
  unfold S.argP S.arg;rw [ha]
  refine ⟨?_,?_⟩
  ·rcases happ with ⟨_,rfl,_⟩ | ⟨rfl,_⟩ <;> trivial
  ·rcases id happ with ⟨_,rfl,_⟩ | ⟨rfl,_⟩ <;> exact happ
 rcases happ with ⟨rfl,e1,e2⟩ | ⟨e1,e2,e3,e4⟩
 ·have hvec:a3z c.ty c.pub s dst .append [T,T] [a,b]=none:=by
   simp only [a3z,hT,he,e1,if_true,Option.bind_some,if_neg hsz]
   cases dst with
   | none=>rfl
   | some t=>simp [hv t rfl]
  refine APK.ev ?_
  simp only [opX,hvec,Option.none_or,c0e,hT,he,e1,hb,if_true,Option.bind_some,if_neg hsz,RK_some]
  simp only [List.length_nil,Nat.zero_add] at hl
  refine ⟨⟨hap,hbp,hy,hl⟩,?_⟩
  rw [<- e2] at hk
  exact hk _ _ (.first (by simp))
 ·have hvec:a3z c.ty c.pub s dst .append [T,T] [a,b]=none:=by
   simp only [a3z,hT,he,e1,if_true,Option.bind_some,if_neg hsz]
  refine APK.ev ?_
  simp only [opX,hvec,Option.none_or,c0e,hT,he,e1,e3,hb,if_true,Option.bind_some,if_neg hsz,and_self,RK_some]
  refine ⟨⟨hap,hbp,trivial,hr,hy,hl⟩,?_⟩
  exact hk _ _ (.more e2 e4 (by simp))
theorem APK.d0d {α:Type} (f:α->List DV) (l new:List α) {T e:TypeId} {d ed:TyD} {a b:Operand} {H0:GH} (hT:c.ty T=some d) (hd:d.k=.sl e) (he:c.ty e=some ed) (hsz:ed.sz ≠ 0) (hf:∀ a,(f a).length=ed.sz)
  {x:LV} (ha:s.get a=x) (happ:App e ed.sz H0 x (l.map f) s.H) (hb:rowsOf (s.arg b)=some (new.map f)) (hbp:s.argP b)
  (hl:(l.length+new.length) * ed.bt<=140737488355328/\l.length+new.length<=140737488355328) (hv:∀ t,dst=some t->c.pub t ≠ .vec)
  (hk:∀ x' H',App e ed.sz H0 x' ((l ++ new).map f) H'->@AP K (({ s with H:=H' }:S).put dst x')):@APK c #[a,b] #[T,T] s dst K :=
 APK.app hT hd he hsz ha happ hb hbp (fun r hr=>by obtain ⟨x,_,rfl⟩:=List.mem_map.1 hr;exact hf x) (fun r hr=>by obtain ⟨x,_,rfl⟩:=List.mem_map.1 hr;exact hf x) (by simpa using hl) hv fun x' H' h=>hk x' H' (by rw [List.map_append];exact h)
end
section
variable {P:Program} {c:Cx} {x y:Code} {s:S} {Q:QT} {α:Type}
class LB where
 n:Nat
class LSp (α:Type) where
 st:α->LS
 m:α->Nat
 I:α->Prop
inductive NX {α:Type} [X:LSp α] [b:LB] (nt:Nat) (df:List AD) (s:S):Prop
 | mk (a:α) (h1:X.m a < b.n) (h2:X.I a) (h3:(X.st a).at nt df s)
inductive JN {α:Type} [X:LSp α] (nt:Nat) (df:List AD) (s:S):Prop
 | mk (a:α) (h2:X.I a) (h3:(X.st a).at nt df s)
theorem NX.go {α:Type} {st:α->LS} {m:α->Nat} {I:α->Prop} {n nt:Nat} {df:List AD} {s:S} (a:α) (h1:m a < n) (h2:I a) (h3:(st a).at nt df s):@NX α ⟨st,m,I⟩ ⟨n⟩ nt df s:=@NX.mk α ⟨st,m,I⟩ ⟨n⟩ nt df s a h1 h2 h3
theorem JN.go {α:Type} {st:α->LS} {m:α->Nat} {I:α->Prop} {nt:Nat} {df:List AD} {s:S} (a:α) (h2:I a) (h3:(st a).at nt df s):@JN α ⟨st,m,I⟩ nt df s:=@JN.mk α ⟨st,m,I⟩ nt df s a h2 h3
theorem AW.a0w (hc:c.ok P) (st:α->LS) (m:α->Nat) (I:α->Prop) (a₀:α) (h₀:I a₀/\(st a₀).at s.nt s.df s)
  (round:∀ a,I a->@EV P c ⟨x⟩ ((st a).s s.nt s.df) ⟨@TH ⟨fun s'=>@NX α ⟨st,m,I⟩ ⟨m a⟩ s.nt s.df s'⟩ Q⟩):@AW P c.rd ⟨.loop x⟩ s Q:=by
 refine AWp.loop (fun n s'=>∃ a,m a=n/\I a/\(st a).at s.nt s.df s') ⟨m a₀,a₀,rfl,h₀.1,h₀.2⟩ fun n s' ⟨a,hm,hI,hat⟩=>?_
 obtain ⟨_,_,_,q1,q2⟩:=id hat
 refine AWp.at (st a) (by rw [q1,q2];exact hat) ?_
 rw [q1,q2]
 refine (EV.sound hc (round a hI)).mono fun e s2 q=>?_
 cases e with
 | normal=>obtain ⟨a',h1,h2,h3⟩:=q;exact ⟨m a',hm ▸ h1,a',rfl,h2,h3⟩
 | _=>exact q
theorem AW.ev (hc:c.ok P) (h:@EV P c ⟨x⟩ s Q):@AW P c.rd ⟨x⟩ s Q:=EV.sound hc h
theorem AW.seq (hc:c.ok P) (h:@EV P c ⟨x⟩ s ⟨@TH ⟨fun s'=>@AW P c.rd ⟨y⟩ s' Q⟩ Q⟩):@AW P c.rd ⟨.seq x y⟩ s Q:=AWp.seq (EV.sound hc h)
theorem AW.seqW (h:@AW P c.rd ⟨x⟩ s ⟨@TH ⟨fun s'=>@AW P c.rd ⟨y⟩ s' Q⟩ Q⟩):@AW P c.rd ⟨.seq x y⟩ s Q:=AWp.seq h
theorem AW.block {i:Nat} (h:@AW P c.rd ⟨x⟩ s ⟨@BL i Q⟩):@AW P c.rd ⟨.block i x⟩ s Q:=AWp.block h
theorem AW.at (z:LS) (hz:z.at s.nt s.df s) (h:@AW P c.rd ⟨x⟩ (z.s s.nt s.df) Q):@AW P c.rd ⟨x⟩ s Q:=AWp.at z hz h
theorem AW.join (st:α->LS) (I:α->Prop)
  (h:@AW P c.rd ⟨x⟩ s ⟨@TH ⟨fun s'=>@JN α ⟨st,fun _=>0,I⟩ s.nt s.df s'⟩ Q⟩) (k:∀ a,I a->@AW P c.rd ⟨y⟩ ((st a).s s.nt s.df) Q):@AW P c.rd ⟨.seq x y⟩ s Q:=by
 refine AWp.seq (AWp.mono h fun e s' q=>?_)
 cases e with
 | normal =>
  obtain ⟨a,hI,hat⟩:=q
  obtain ⟨_,_,_,q1,q2⟩:=id hat
  refine AWp.at (st a) (by rw [q1,q2];exact hat) ?_
  rw [q1,q2]
  exact k a hI
 | _=>exact q
theorem AW.e0i (hc:c.ok P) (st:α->LS) (m:α->Nat) (I:α->Prop) (a₀:α) (h₀:I a₀/\(st a₀).at s.nt s.df s)
  (round:∀ a,I a->@AW P c.rd ⟨x⟩ ((st a).s s.nt s.df) ⟨@TH ⟨fun s'=>@NX α ⟨st,m,I⟩ ⟨m a⟩ s.nt s.df s'⟩ Q⟩):@AW P c.rd ⟨.loop x⟩ s Q:=by
 refine AWp.loop (fun n s'=>∃ a,m a=n/\I a/\(st a).at s.nt s.df s') ⟨m a₀,a₀,rfl,h₀.1,h₀.2⟩ fun n s' ⟨a,hm,hI,hat⟩=>?_
 obtain ⟨_,_,_,q1,q2⟩:=id hat
 refine AWp.at (st a) (by rw [q1,q2];exact hat) ?_
 rw [q1,q2]
 refine AWp.mono (round a hI) fun e s2 q=>?_
 cases e with
 | normal=>obtain ⟨a',h1,h2,h3⟩:=q;exact ⟨m a',hm ▸ h1,a',rfl,h2,h3⟩
 | _=>exact q
end
attribute [simp] LS.at eqL eqB a6w LV.fits DV.fits rowFits maxLen
end Go.Aft
