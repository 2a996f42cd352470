import Derived.Test.YthinedikejlgmaaGreatA11
import Derived.RangeFuncLeaves
set_option linter.all false
section
namespace Go.Aft
def a3k:Nat->List LV->Nat->LV
 | _,[]=>fun _=>.any
 | k,x :: xs=>upd (a3k (k+1) xs) k x
def b5m (ty:TypeId->Option TyD) (s:S):ResultVar->Option LV
 | .tmp t=>some (s.env t)
 | .cell a T =>
  match ty T with
  | none=>none
  | some d =>
   match s.env a with
   | .lp k off=>(s.L k).bind fun cs=>a2d d (cs.drop off)
   | .gp n off=>match s.H.obj n with
    | some (.box cs)=>a2d d (cs.drop off)
    | _=>none
   | _=>none
def a9k (ty:TypeId->Option TyD) (s:S):List ResultVar->Option (List LV)
 | []=>some []
 | r :: rs=>(b5m ty s r).bind fun v=>(a9k ty s rs).map fun vs=>v :: vs
def b7p (ty:TypeId->Option TyD) (s:S) (rs:List ResultVar):Option LV :=
 match rs with
 | [r]=>b5m ty s r
 | rs=>(a9k ty s rs).map .tup
mutual
def fz:LV->LV
 | .osl _ xs=>.d (.sl xs)
 | .d (.k (.slice none 0 0))=>.d (.sl [])
 | .agg cs=>.agg (fzs cs)
 | .tup cs=>.tup (fzs cs)
 | x=>x
def fzs:List LV->List LV
 | []=>[]
 | x :: xs=>fz x :: fzs xs
end
mutual
theorem f4g {G:Gh} {nx:Nat} {lm:Nat->Option Nat}:∀ (x:LV) (v:Value),LR G nx lm x v->LR G nx lm (fz x) v
 | .osl n xs,v,h=>by unfold LR at h;rw [fz];unfold LR;exact h.2.1
 | .agg cs,v,h=>by unfold LR at h;rw [fz];unfold LR;obtain ⟨vs,h1,h2⟩:=h;exact ⟨vs,h1,c3w cs vs h2⟩
 | .tup cs,v,h=>by unfold LR at h;rw [fz];unfold LR;obtain ⟨vs,h1,h2⟩:=h;exact ⟨vs,h1,c3w cs vs h2⟩
 | .d x,v,h=>by
  unfold fz
  split
  ·rename_i e;cases e
  ·rename_i e
   cases e
   unfold LR DR at h |-
   exact ⟨none,0,0,h.1,by simp,by simp,by simp,.inl rfl⟩
  ·rename_i e;cases e
  ·rename_i e;cases e
  ·exact h
 | .lp k off,v,h=>by simpa [fz] using h
 | .gp m off,v,h=>by simpa [fz] using h
 | .ep xs es i off,v,h=>by simpa [fz] using h
 | .gm m,v,h=>by simpa [fz] using h
 | .vs _ _ _ _ _,v,h=>by simpa [fz] using h
 | .vp _ _ _,v,h=>by simpa [fz] using h
 | .yl _,v,h=>by simpa [fz] using h
 | .ip _ _,v,h=>by simpa [fz] using h
 | .fn f a b,v,h=>by simpa [fz] using h
 | .gd g raw,v,h=>by simpa [fz] using h
 | .any,v,h=>by simpa [fz] using h
theorem c3w {G:Gh} {nx:Nat} {lm:Nat->Option Nat}:∀ (xs:List LV) (vs:List Value),LRs G nx lm xs vs->LRs G nx lm (fzs xs) vs
 | [],vs,h=>by simpa [fzs] using h
 | x :: xs,vs,h=>by
  unfold LRs at h;unfold fzs LRs
  obtain ⟨v,r,h1,h2,h3⟩:=h
  exact ⟨v,r,h1,f4g x v h2,c3w xs r h3⟩
end
inductive DM where
 | ret | pan (x:LV) | rec_ (x:LV)
def DMR (G:Gh) (nx:Nat):DM->FrameMode->Prop
 | .ret,u=>u=.returning
 | .pan x,u=>∃ v,u=.panicking [{ v:=v,recovered:=false }]/\LR G nx noL x v
 | .rec_ x,u=>∃ v,u=.panicking [{ v:=v,recovered:=true }]/\LR G nx noL x v
def d1f:DM->DM
 | .rec_ _=>.ret
 | m=>m
def b0p (P:Program) (f:FuncId) (args:List LV) (H:GH) (m:DM) (R:DM->GH->Prop):Prop :=
 Enters P f/\∀ G w vs u,MR G noL noS H w->b0o G->LRs G H.next noL args vs->DMR G H.next m u ->
  CallsDIn Fence.wide 0 P f vs.toArray u w fun e u' w'=>∃ v m' H' G',e=.returned v/\R m' H'/\DMR G' H'.next m' u'/\MR G' noL noS H' w'/\b0o G'/\Ext ⟨G,H,w⟩ G' H' w'
def a3h (P:Program) (c:Cx) (rs:List ResultVar) (s:S) (H0:GH) (R:CE->GH->Prop):List AD->DM->GH->Prop
 | [],.ret,H=>∃ r,b7p c.ty { s with H:=H } rs=some r/\∃ H',Drop H0 H H'/\(fz r).nb H'.next/\R (.ret (fz r)) H'
 | [],.pan x,H=>∃ H',Drop H0 H H'/\x.nb H'.next/\R (.pan x) H'
 | [],.rec_ _,_=>False
 | .mark n :: ds,m,H=>H.obj n=some .dfr/\a3h P c rs s H0 R ds m (H.del n)
 | .call f args cap :: ds,m,H=>nbs H.next (args ++ cap)/\b0p P f (args ++ cap) H m fun m' H'=>a3h P c rs s H0 R ds (d1f m') H'
def e5y (P:Program) (c:Cx) (rs:List ResultVar) (H0:GH) (R:CE->GH->Prop):AE->S->Prop
 | .normal,s | .ret,s=>a3h P c rs s H0 R s.df .ret s.H
 | .pan x,s=>a3h P c rs s H0 R s.df (.pan x) s.H
 | _,_=>False
def c5e:List AD->GH->Prop
 | [],_=>True
 | .mark n :: ds,H=>H.obj n=some .dfr/\c5e ds (H.del n)
 | _,_=>False
def b4o:List AD->GH->GH
 | .mark n :: ds,H=>b4o ds (H.del n)
 | _,H=>H
def e6a (c:Cx) (rs:List ResultVar) (H0:GH) (v:LV):AE->S->Prop
 | .normal,s | .ret,s=>c5e s.df s.H/\(b7p c.ty { s with H:=b4o s.df s.H } rs).map fz=some v/\v.nb H0.next/\H0.next<=s.H.next/\∀ n,n < H0.next->(b4o s.df s.H).obj n=H0.obj n
 | _,_=>False
section
variable {P:Program} {c:Cx} {E:Ent} {s:S} {a:Act} {w:World}
theorem b0w:∀ (xs:List LV) (k t:Nat),a3k k xs t=if k<=t then xs.getD (t - k) .any else .any
 | [],k,t=>by simp [a3k]
 | x :: xs,k,t=>by
  simp only [a3k,upd]
  rw [b0w xs (k+1) t]
  by_cases e:t=k
  ·subst e;simp
  ·rw [if_neg e]
   by_cases h:k<=t
   ·rw [if_pos (show k+1<=t by omega),if_pos h,show t - k=(t - (k+1))+1 from by omega];simp
   ·rw [if_neg (by omega),if_neg h]
theorem c1w (hty:TyOk P c.ty) {G:Gh} {lm:Nat->Option Nat} (hM:MR G lm s.L s.H w) (henv:∀ t,LR G s.H.next lm (s.env t) (a.tmps.getD t undef)) {r:ResultVar} {v:LV} (h:b5m c.ty s r=some v) :
  ∃ v',((match r with | .tmp t=>pure (a.tmps.getD t undef) | .cell x t=>do loadVar t (<- asAddr (a.tmps.getD x undef))):Sem Value).run P w=.ok v' w/\LR G s.H.next lm v v':=by
 cases r with
 | tmp t=>simp [b5m] at h;subst h;exact ⟨_,rfl,henv t⟩
 | cell x T =>
  simp only [b5m] at h
  cases hT:c.ty T with
  | none=>rw [hT] at h;cases h
  | some d =>
   rw [hT] at h
   simp only at h
   have hx:=henv x
   split at h
   ·rename_i k off e
    rw [e] at hx;unfold LR at hx
    obtain ⟨b,hb,hv⟩:=hx
    cases hL:s.L k with
    | none=>rw [hL] at h;cases h
    | some cs =>
     rw [hL] at h
     simp only [Option.bind_some] at h
     obtain ⟨b',vs,g1,g2,g3,g4⟩:=hM.loc k cs hL
     have:b'=b:=by rw [g1] at hb;exact Option.some.inj hb
     subst this
     obtain ⟨v',q1,q2⟩:=a3d (hty T d hT) (a6m g3 (off:=off)) (a2u g4 off) h
     exact ⟨v',by simp [hv,asAddr,q1],q2⟩
   ·rename_i n off e
    rw [e] at hx;unfold LR at hx
    split at h
    ·rename_i cs hL
     obtain ⟨_,g2,vs,g3,g4⟩:=hM.nmd n _ hL
     obtain ⟨v',q1,q2⟩:=a3d (hty T d hT) (a6m g3 (off:=off)) (a2u g4 off) h
     exact ⟨v',by simp [hx.2,asAddr,q1],a0v (Nat.le_refl _) (Gh.le_refl _ _) (fun _ _ e=>by cases e) _ _ q2⟩
    ·cases h
   ·cases h
theorem c1x (hty:TyOk P c.ty) {G:Gh} {lm:Nat->Option Nat} (hM:MR G lm s.L s.H w) (henv:∀ t,LR G s.H.next lm (s.env t) (a.tmps.getD t undef)):∀ {rs:List ResultVar} {vs:List LV},a9k c.ty s rs=some vs ->
  ∃ us,(rs.mapM (fun r:ResultVar=>(match r with | .tmp t=>pure (a.tmps.getD t undef) | .cell x t=>do loadVar t (<- asAddr (a.tmps.getD x undef)):Sem Value))).run P w=.ok us w/\LRs G s.H.next lm vs us
 | [],vs,h=>by simp [a9k] at h;subst h;exact ⟨[],by simp,by simp [LRs]⟩
 | r :: rs,vs,h=>by
  simp only [a9k] at h
  cases hr:b5m c.ty s r with
  | none=>rw [hr] at h;cases h
  | some v =>
   rw [hr] at h
   cases hrs:a9k c.ty s rs with
   | none=>rw [hrs] at h;cases h
   | some vs' =>
    rw [hrs] at h;simp at h;subst h
    obtain ⟨v',h1,h2⟩:=c1w (P:=P) hty hM henv hr
    obtain ⟨us,h3,h4⟩:=c1x hty hM henv hrs
    refine ⟨v' :: us,?_,by unfold LRs;exact ⟨v',us,rfl,h2,h4⟩⟩
    rw [List.mapM_cons]
    simp only [Sem.run_bind,h1,Result.andThen_ok,h3]
    rfl
theorem c7g (hty:TyOk P c.ty) {G:Gh} {lm:Nat->Option Nat} (hM:MR G lm s.L s.H w) (henv:∀ t,LR G s.H.next lm (s.env t) (a.tmps.getD t undef)) {fn:Func} {v:LV} (h:b7p c.ty s fn.results.toList=some v) :
  ∃ v',(results fn a.tmps).run P w=.ok v' w/\LR G s.H.next lm v v':=by
 let g:ResultVar->Sem Value:=fun r=>match r with | .tmp t=>pure (a.tmps.getD t undef) | .cell x t=>do loadVar t (<- asAddr (a.tmps.getD x undef))
 have hdef:results fn a.tmps=(fn.results.mapM g) >>= fun vs=>(pure (if h:vs.size=1 then vs[0] else .tuple vs):Sem Value):=rfl
 have key:∀ us:List Value,(fn.results.toList.mapM g).run P w=.ok us w->(results fn a.tmps).run P w=.ok (if h:us.toArray.size=1 then us.toArray[0] else .tuple us.toArray) w:=by
  intro us hus
  rw [hdef,Array.mapM_eq_mapM_toList]
  simp only [Sem.run_bind,Sem.run_map,hus,Result.andThen_ok]
  rfl
 unfold b7p at h
 split at h
 ·rename_i r e
  obtain ⟨v',h1,h2⟩:=c1w (P:=P) hty hM henv h
  refine ⟨v',?_,h2⟩
  have:=key [v'] (by
   rw [e,List.mapM_cons,List.mapM_nil]
   have h1':(g r).run P w=.ok v' w:=h1
   simp only [Sem.run_bind,h1',Result.andThen_ok]
   rfl)
  rw [this];simp
 ·rename_i rs hne
  simp only [Option.map_eq_some_iff] at h
  obtain ⟨vs,h1,rfl⟩:=h
  obtain ⟨us,h2,h3⟩:=c1x (P:=P) hty hM henv h1
  refine ⟨.tuple us.toArray,?_,by unfold LR;exact ⟨us,rfl,h3⟩⟩
  have hl:us.length=fn.results.toList.length:=by
   have e1:=a0u h3
   have e2:∀ {rs:List ResultVar} {vs:List LV},a9k c.ty s rs=some vs->vs.length=rs.length:=by
    intro rs
    induction rs with
    | nil=>intro vs h;simp [a9k] at h;simp [<- h]
    | cons r rs ih =>
     intro vs h
     simp only [a9k] at h
     cases hr:b5m c.ty s r with
     | none=>rw [hr] at h;cases h
     | some v =>
      rw [hr] at h
      cases hrs:a9k c.ty s rs with
      | none=>rw [hrs] at h;cases h
      | some vs'=>rw [hrs] at h;simp at h;subst h;simp [ih hrs]
   rw [e1,e2 h1]
  rw [key us h2]
  rw [dif_neg]
  simp only [List.size_toArray]
  intro q
  rw [q] at hl
  obtain ⟨r,hr⟩:=List.length_eq_one_iff.1 hl.symm
  exact hne r hr
theorem a0m {H0 H:GH} (h1:H0.next<=H.next) (h2:∀ n,n < H0.next->H.obj n=H0.obj n) (h3:∀ n,H0.next<=n->H0.obj n=none):Drop H0 H H0 :=
 ⟨h1,Nat.le_refl _,fun n hn=>(h2 n hn).symm,h3,fun n o ho=>.inl ho⟩
theorem a4d (hc:c.ok P) {fn:Func} {G0:Gh} {H0:GH} {w0:World} (hM0:MR G0 noL noS H0 w0) (hNL:b0o G0) {R:CE->GH->Prop} {s:S} {tmps:Array Value} {lm:Nat->Option Nat} :
  ∀ (ds:List AD) (m:DM) (H:GH) (G:Gh) (w:World) (cs:List Deferred) (u:FrameMode),MR G lm s.L H w->Ext ⟨G0,H0,w0⟩ G H w->(∀ t,LR G H.next lm (s.env t) (tmps.getD t undef))->DFRs G H.next ds cs->DMR G H.next m u ->
   a3h P c fn.results.toList s H0 R ds m H->LeavesInM Fence.wide 0 P fn tmps (e1l G0 H0 w0 R) cs u w
 | [],m,H,G,w,cs,u,hM,hx,henv,hd,hu,h=>by
  cases hd
  have fin:∀ (x:LV) (v:Value) (H':GH),Drop H0 H H'->x.nb H'.next->LR G H.next lm x v->MR (a5g H'.next G) noL noS H' w/\b0o (a5g H'.next G)/\Ext ⟨G0,H0,w0⟩ (a5g H'.next G) H' w/\LR (a5g H'.next G) H'.next noL x v:=by
   intro x v H' hd hnb hv
   have:=c0i hM (E:=⟨G0,H0,w0⟩) (fun n o ho=>(hM0.nmd n o ho).2) hNL hx hd
   exact ⟨this.1,this.2.1,this.2.2,c6i (a6d _ _ hv hnb)⟩
  cases m with
  | ret =>
   cases hu
   obtain ⟨r,hr,H',hd,hnb,hR⟩:=h
   obtain ⟨v,h1,h2⟩:=c7g (P:=P) (s:={ s with H:=H }) (a:=⟨tmps,[]⟩) hc.ty hM henv hr
   obtain ⟨q1,q2,q3,q4⟩:=fin (fz r) v H' hd hnb (f4g r v h2)
   exact ⟨v,h1,.ret (fz r),H',_,hR,⟨v,rfl,q4⟩,q1,q2,q3⟩
  | pan x =>
   obtain ⟨v,rfl,hv⟩:=hu
   obtain ⟨H',hd,hnb,hR⟩:=h
   have hv':LR G H.next lm x v:=a0v (Nat.le_refl _) (Gh.le_refl _ _) (fun _ _ e=>by cases e) _ _ hv
   obtain ⟨q1,q2,q3,q4⟩:=fin x v H' hd hnb hv'
   exact ⟨.pan x,H',_,hR,⟨v,rfl,q4⟩,q1,q2,q3⟩
  | rec_ x=>exact h.elim
 | .mark n :: ds,m,H,G,w,cs,u,hM,hx,henv,hd,hu,h=>by
  obtain ⟨d,r,rfl,⟨h1,rfl⟩,h2⟩:=hd
  obtain ⟨hn,h⟩:=h
  obtain ⟨q1,q2,q3⟩:=hM.nmd n _ hn
  have hlt:=heap_lt q3
  refine ⟨?_,.inl ⟨G.nm n,setB w (G.nm n) (.deferred none),rfl,?_,?_⟩⟩
  ·cases m <;> first | (cases hu;simp;done) | (obtain ⟨v,rfl,_⟩:=hu;simp)
  ·have hset:(setObj (G.nm n) (.deferred none)).run P w=.ok () (setB w (G.nm n) (.deferred none)):=by simp [setObj,Sem.run,q3,setB]
   have hget:(getObj (G.nm n)).run P w=.ok (.deferred (some [])) w:=by simp [getObj,Sem.run,q3]
   simp only [Instr.takeDeferred,Sem.run_bind,hget,Result.andThen_ok,hset]
   rfl
  ·exact a4d hc hM0 hNL ds m (H.del n) G _ r u (hM.f3y n hn _ q2 (by simp)) (hx.f3y n _ q2) henv h2 hu h
 | .call f args cap :: ds,m,H,G,w,cs,u,hM,hx,henv,hd,hu,h=>by
  obtain ⟨d,r,rfl,⟨xs,ys,rfl,h1,h1'⟩,h2⟩:=hd
  obtain ⟨hnb,hE,h⟩:=h
  refine ⟨?_,.inr ⟨by simp [Fence.wide],.func f,ys.toArray,f,(xs ++ ys).toArray,rfl,?_,fun _ _=>trivial,?_⟩⟩
  ·cases m <;> first | (cases hu;simp;done) | (obtain ⟨v,rfl,_⟩:=hu;simp)
  ·simp only [invoke]
   have:=hE (xs.toArray ++ ys.toArray) w
   rw [this];simp
  ·obtain ⟨hM2,hNL2⟩:=c6g hM
   have hall:=a2g h1 h1'
   have hall2:LRs (a6b G) H.next noL (args ++ cap) (xs ++ ys):=a1d (Nat.le_refl _) (a8n _ G) (fun _ _ e=>e) _ _ hall
   have hu2:DMR (a6b G) H.next m u:=by
    cases m <;> first | exact hu | (obtain ⟨v,e,hv⟩:=hu;exact ⟨v,e,a0v (Nat.le_refl _) (a8n _ G) (fun _ _ e=>e) _ _ hv⟩)
   have hcall:=h (a6b G) w _ u hM2 hNL2 hall2 hu2
   refine ⟨hcall.1,fun c₀ cs hm hr=>?_⟩
   obtain ⟨e,u',w',fr,⟨v,m',H',G',rfl,hR,hu',hM',hNL',hx'⟩,hsteps,hk,hf,hgo⟩:=hcall.2 c₀ cs hm hr
   refine ⟨_,u',w',fr,?_,hsteps,hk,hf,hgo⟩
   obtain ⟨hMb,hxb,hle⟩:=c6h hM hx hM' hNL' hx'
   have hb:=a6o H'.next G G'
   refine a4d hc hM0 hNL ds (d1f m') H' _ w' r (settle u') hMb hxb (fun t=>a0v hx'.nx hle (fun _ _ e=>e) _ _ (henv t)) (a1g hx'.nx hle _ _ h2) ?_ hR
   cases m' with
   | ret=>cases hu';rfl
   | pan x=>obtain ⟨v,rfl,hv⟩:=hu';exact ⟨v,rfl,a0v (Nat.le_refl _) hb (fun _ _ e=>e) _ _ hv⟩
   | rec_ x=>obtain ⟨v,rfl,hv⟩:=hu';rfl
theorem b6c {f:FuncId} {fn:Func} {rd:RD} {code:Code} {args:Array Value} {w:World} {R:Ending->World->Prop} (hf:P.funcs[f]?=some fn) (hb:fn.body=some code) (hrd:rd.b8j f=true)
  (h:wpA P rd code (bodyPostM Fence.wide 0 P fn R) { tmps:=args ++ Array.replicate (fn.ntmps - args.size) undef,defers:=[] } w):Calls P f args w R:=by
 simp only [RD.b8j,Bool.and_eq_true,Option.isNone_iff_eq_none] at hrd
 refine (callsIn_wide (n:=0)).1 ⟨trivial,fun cs hr=>?_⟩
 let b:Frame:={ (default:Frame) with fn:=f,kind:=.normal,roundOf:=none }
 have henter:Frame.enter P f args .normal=b.atR { tmps:=args ++ Array.replicate (fn.ntmps - args.size) undef,defers:=[] } [.code code]:=by
  simp [Frame.enter,Frame.atR,hf,hb,b]
 obtain ⟨e,a',w',hq,harr⟩:=h b [] cs hrd.1.symm (fun g hg=>by have:=hrd.2;rw [hg] at this;simpa using Eq.symm (by simpa using this))
 rw [<- henter] at harr
 cases e with
 | normal =>
  obtain ⟨e',w'',fr',hR,hs,hfn,hl⟩:=leaves_stepsInM a'.defers .returning w' { b.atR a' [] with mode:=.returning } cs rfl rfl rfl hf rfl trivial hr hq
  exact ⟨e',w'',fr',hR,ComesIn.of_steps (StepsIn.trans harr (.one (fenced_wide P _) (stepR_end rfl))) hs,hfn,hl⟩
 | ret =>
  obtain ⟨todo,hs₀⟩:=harr.1 rfl
  obtain ⟨e',w'',fr',hR,hs,hfn,hl⟩:=leaves_stepsInM a'.defers .returning w' { b.atR a' todo with mode:=.returning } cs rfl rfl rfl hf rfl trivial hr hq
  exact ⟨e',w'',fr',hR,ComesIn.of_steps hs₀ hs,hfn,hl⟩
 | panic chain =>
  obtain ⟨todo,hs₀⟩:=harr
  obtain ⟨e',w'',fr',hR,hs,hfn,hl⟩:=leaves_stepsInM a'.defers (.panicking chain) w' { b.atR a' todo with mode:=.panicking chain } cs rfl rfl rfl hf rfl trivial hr hq
  exact ⟨e',w'',fr',hR,ComesIn.of_steps hs₀ hs,hfn,hl⟩
 | exit id=>exact hq.elim
 | goto l=>exact hq.elim
 | outgrown=>exact ⟨.outgrown,w',b,hq,harr.resolve_left (by simp [b]),rfl,trivial⟩
theorem a7a.a4l (hc:c.ok P) {f:FuncId} {fn:Func} {code:Code} (hf:P.funcs[f]?=some fn) (hb:fn.body=some code) {args:List LV} (hn:args.length<=fn.ntmps) {rd:RD} (hrd:rd.b8j f=true) {H:GH} {R:CE->GH->Prop}
  (h:(∀ n,H.next<=n->H.obj n=none)->AWp P rd code ⟨a3k 0 args,noS,H,fn.ntmps,[]⟩ (e5y P c fn.results.toList H R)):a7a P f args H R:=by
 intro G w vs hM hNL hargs
 have hnone:∀ n,H.next<=n->H.obj n=none:=fun n hn=>by
  cases ho:H.obj n with
  | none=>rfl
  | some o=>have:=(hM.nmd n o ho).1;omega
 have hlen:=a0u hargs
 refine b6c hf hb hrd (a4a (h hnone ⟨G,H,w⟩ _ w ?_) ?_)
 ·refine ⟨by simp;omega,G,noL,rfl,hM,Ext.refl G H w hNL,fun t=>?_,rfl⟩
  simp only
  rw [b0w,if_pos (Nat.zero_le _),Nat.sub_zero]
  by_cases ht:t < args.length
  ·have hx:args[t]?=some (args.getD t .any):=by simp [List.getD,List.getElem?_eq_getElem ht]
   obtain ⟨v,h1,h2⟩:=a6y hargs t _ hx
   have:(vs.toArray ++ Array.replicate (fn.ntmps - vs.toArray.size) undef).getD t undef=v:=by
    rw [Array.getD_eq_getD_getElem?,Array.getElem?_append_left (by simp;omega)]
    simp [h1]
   rw [this];exact h2
  ·have:args.getD t .any=.any:=by simp [List.getD,List.getElem?_eq_none (Nat.le_of_not_lt ht)]
   rw [this];simp [LR]
 ·rintro e a' w' ⟨ae,s',q,r⟩
  obtain ⟨g2,G',lm',g1,hM',hx',henv',he⟩:=r
  cases ae with
  | normal=>cases he;exact a4d hc hM hNL s'.df .ret s'.H G' w' _ _ hM' hx' henv' g1 rfl q
  | ret=>cases he;exact a4d hc hM hNL s'.df .ret s'.H G' w' _ _ hM' hx' henv' g1 rfl q
  | exit i=>exact q.elim
  | goto l=>exact q.elim
  | pan x =>
   obtain ⟨v',rfl,hv⟩:=he
   exact a4d hc hM hNL s'.df (.pan x) s'.H G' w' _ _ hM' hx' henv' g1 ⟨v',rfl,hv⟩ q
theorem b3e {rs:List ResultVar} {H0:GH} {R:CE->GH->Prop}:∀ (ds:List AD) (m:DM) (H:GH),c5e ds H->a3h P c rs s H0 R [] m (b4o ds H)->a3h P c rs s H0 R ds m H
 | [],m,H,_,h=>h
 | .mark n :: ds,m,H,hm,h=>⟨hm.1,b3e ds m _ hm.2 h⟩
 | .call .. :: ds,m,H,hm,h=>hm.elim
theorem b5r:∀ (ds:List AD) (H:GH),(b4o ds H).next=H.next
 | [],H=>rfl
 | .mark n :: ds,H=>b5r ds (H.del n)
 | .call .. :: ds,H=>rfl
theorem AFun.a4l (hc:c.ok P) {f:FuncId} {fn:Func} {code:Code} (hf:P.funcs[f]?=some fn) (hb:fn.body=some code) (he:Enters P f) {args:List LV} (hn:args.length<=fn.ntmps) {rd:RD} (hrd:rd.b8j f=true) {v:LV}
  (h:∀ H:GH,AWp P rd code ⟨a3k 0 args,noS,H,fn.ntmps,[]⟩ (e6a c fn.results.toList H v)):AFun P f args v:=by
 intro H
 refine ⟨he,a7a.a4l hc hf hb hn hrd fun hnone=>(h H).mono fun e s q=>?_⟩
 have key:e6a c fn.results.toList H v .ret s->a3h P c fn.results.toList s H (fun ce H'=>ce=.ret v/\H'=H) s.df .ret s.H:=fun q=>by
  obtain ⟨r,h1,rfl⟩:=Option.map_eq_some_iff.1 q.2.1
  exact b3e _ _ _ q.1 ⟨r,h1,H,a0m (by rw [b5r];exact q.2.2.2.1) q.2.2.2.2 hnone,q.2.2.1,rfl,rfl⟩
 cases e with
 | normal=>exact key q
 | ret=>exact key q
 | exit i=>exact q.elim
 | goto l=>exact q.elim
 | pan x=>exact q.elim
end
end Go.Aft
end
section
namespace Go.Aft
def TK.okB:TK->TypeDesc->Bool
 | .agg fs,.struct f=>f.toList.map (fun f=>(f.offset,f.type)) == fs
 | .arr n e,.array m e'=>m == n && e' == e
 | .sl e,.slice e'=>e' == e
 | .map k e,.map k' e'=>k' == k && e' == e
 | .str,.string=>true
 | .int k,.int k'=>decide (k'=k)
 | .bool,.bool=>true
 | .ptr e,.pointer e'=>e' == e
 | .iface p,.interface ms=>p == ms.isEmpty
 | .func,.func ..=>true
 | .tup,.tuple _=>true
 | _,_=>false
theorem TK.a0x {k:TK} {d:TypeDesc} (h:k.okB d=true):k.ok d:=by
 cases k <;> cases d <;> simp_all [TK.okB,TK.ok]
def vEq:Value->Value->Bool
 | .int k a,.int j b=>decide (k=j) && a == b
 | .string a,.string b=>a.size == 0 && b.size == 0
 | .bool a,.bool b=>a == b
 | .slice none 0 0,.slice none 0 0=>true
 | .pointer none,.pointer none=>true
 | .map none,.map none=>true
 | .nilFunc,.nilFunc=>true
 | .nilIface,.nilIface=>true
 | _,_=>false
theorem f4m {a b:Value} (h:vEq a b=true):a=b:=by
 unfold vEq at h
 split at h <;> simp_all
def vsEq:List Value->List Value->Bool
 | [],[]=>true
 | a :: x,b :: y=>vEq a b && vsEq x y
 | _,_=>false
theorem e1s:∀ {x y:List Value},vsEq x y=true->x=y
 | [],[],_=>rfl
 | a :: x,b :: y,h=>by
  simp only [vsEq,Bool.and_eq_true] at h
  rw [f4m h.1,e1s h.2]
 | [],_ :: _,h=>by simp [vsEq] at h
 | _ :: _,[],h=>by simp [vsEq] at h
def TyD.chk (d:TyD) (ti:TypeInfo) (u:TypeDesc):Bool :=
 d.k.okB u && (ti.size == d.sz) && (decide (ti.bytes<=4096) && ti.bytes == d.bt) && d.zero.all Value.oneCell' && (d.zero.length == d.sz) &&
 match ti.zero with
 | none=>false
 | some z=>vsEq z.cells.toList d.zero && (if d.k.isAgg then (match z with | .agg _=>true | _=>false) else z.oneCell')
theorem TyD.a0x {P:Program} {t:TypeId} {d:TyD} {ti:TypeInfo} {u:TypeDesc} (h1:P.types[t]?=some ti) (h2:P.underlying t=some u) (h:d.chk ti u=true):d.ok P t:=by
 unfold TyD.chk at h
 cases hz:ti.zero with
 | none=>rw [hz] at h;simp at h
 | some z =>
  rw [hz] at h
  simp only [Bool.and_eq_true,decide_eq_true_eq,beq_iff_eq,List.all_eq_true] at h
  obtain ⟨⟨⟨⟨⟨g1,g2⟩,g3,g3'⟩,g4⟩,g5⟩,g6,g7⟩:=h
  have hi:P.info? t=some ti:=by
   unfold Tables.info?
   rw [if_pos (Array.getElem?_eq_some_iff.1 h1).1];exact h1
  refine ⟨⟨u,h2,TK.a0x g1⟩,⟨ti,z,hi,g2,hz,e1s g6,g3,g3'⟩,g4,g5,fun z' hz'=>?_⟩
  rw [hi] at hz'
  simp only [Option.map_some,Option.some.injEq,hz] at hz'
  subst hz'
  by_cases ha:d.k.isAgg=true
  ·rw [if_pos ha] at g7 |-
   split at g7
   ·exact ⟨_,rfl⟩
   ·cases g7
  ·rw [if_neg ha] at g7 |-;exact g7
def tyOf (tab:List (Nat × TyD)) (t:TypeId):Option TyD:=tab.lookup t
theorem f4f {P:Program} {tab:List (Nat × TyD)} (h:∀ p ∈ tab,p.2.ok P p.1):TyOk P (tyOf tab):=by
 intro t d hd
 unfold tyOf at hd
 have:(t,d) ∈ tab:=by
  induction tab with
  | nil=>simp at hd
  | cons p ps ih =>
   obtain ⟨k,v⟩:=p
   rw [List.lookup_cons] at hd
   by_cases e:t == k
   ·rw [e] at hd;simp at hd;simp at e;subst e;subst hd;simp
   ·rw [show (t == k)=false from by simpa using e] at hd
    exact List.mem_cons_of_mem _ (ih (fun p hp=>h p (List.mem_cons_of_mem _ hp)) hd)
 exact h _ this
theorem e0x {α:Type} {P:α->Prop}:∀ p ∈ ([]:List α),P p:=fun p h=>by cases h
theorem a0e {α:Type} {P:α->Prop} {a:α} {l:List α} (h:P a) (t:∀ p ∈ l,P p):∀ p ∈ a :: l,P p:=fun p hp=>by
 rcases List.mem_cons.1 hp with rfl | hp
 ·exact h
 ·exact t p hp
end Go.Aft
end
