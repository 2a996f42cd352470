import Derived.Test.YthinedikejlgmaaGreatA21
import Derived.Test.YthinedikejlgmaaGreatA23
set_option linter.all false
section
set_option maxRecDepth 20000
namespace Go.Aft
open Go.Proofs.Tryz
theorem a5l {ks:List Sc} {vs:List Value} (h:hasAll (.int .i64 :: ks) vs=true):∃ a us,vs=.int .i64 a :: us/\hasAll ks us=true:=by
 cases vs with
 | nil=>simp [hasAll] at h
 | cons v us =>
  simp only [hasAll,Bool.and_eq_true] at h
  cases v <;> simp [Sc.has] at h
  obtain ⟨rfl,h⟩:=h
  exact ⟨_,us,rfl,h⟩
theorem a7n {vs:List Value} (h:hasAll [] vs=true):vs=[]:=by
 cases vs with
 | nil=>rfl
 | cons v us=>simp [hasAll] at h
def f0r (m:Nat) (t:TypeId) (ks:List Sc):Prop:=∀ (d:Nat) (xs ys:List Value) (off:Nat) (w:World),hasAll ks ((xs.drop off).take ks.length)=true->hasAll ks ((ys.drop off).take ks.length)=true ->
 ∃ a b,(∀ w,(part t xs.toArray off).run prog w=.ok a w)/\(∀ w,(part t ys.toArray off).run prog w=.ok b w)/\(Op.equalIn (d+m+1) t a b).run prog w=.ok (allEq ((xs.drop off).take ks.length) ((ys.drop off).take ks.length)) w/\∀ em w,(Instr.checkKey em (d+m+1) t a).run prog w=.ok () w
theorem take1 {xs:List Value} {off:Nat} {v:Value} (h:(xs.drop off).take 1=[v]):xs[off]?=some v:=by
 have:=congrArg (fun l=>l[0]?) h
 simpa using this
theorem b5c {m:Nat} {t:TypeId} (hu:prog.underlying t=some (.int .i64)):f0r m t [.int .i64]:=by
 intro d xs ys off w h1 h2
 obtain ⟨a,us,e1,e2⟩:=a5l h1
 obtain ⟨b,us',e3,e4⟩:=a5l h2
 have:=a7n e2;subst this
 have:=a7n e4;subst this
 have x1:=take1 e1
 have x2:=take1 e3
 have ha:∀ w,(isAgg t).run prog w=.ok false w:=fun w=>by simp [isAgg,run_underlying hu]
 refine ⟨.int .i64 a,.int .i64 b,fun w=>by simp [part,ha,x1],fun w=>by simp [part,ha,x2],?_⟩
 have r:=run_equalIn_int w (d+m) t .i64 .i64 a b hu
 rw [show ([Sc.int IntKind.i64]:List Sc).length=1 from rfl] at *
 rw [e1,e3,r]
 refine ⟨by simp [allEq,scEq],fun em w=>?_⟩
 simp [Instr.checkKey,run_underlying hu]
theorem b0x:∀ {ks:List Sc} {vs:List Value},hasAll ks vs=true->vs.length=ks.length
 | [],vs,h=>by rw [a7n h];rfl
 | k :: ks,[],h=>by simp [hasAll] at h
 | k :: ks,v :: vs,h=>by simp only [hasAll,Bool.and_eq_true] at h;simp [b0x h.2]
theorem a5e:∀ {ks js:List Sc} {vs us:List Value},vs.length=ks.length->(hasAll (ks ++ js) (vs ++ us)=true ↔ hasAll ks vs=true/\hasAll js us=true)
 | [],js,[],us,_=>by simp [hasAll]
 | k :: ks,js,v :: vs,us,h=>by simp only [List.cons_append,hasAll,Bool.and_eq_true,a5e (Nat.succ.inj h),and_assoc]
theorem b6e:∀ {a b c d:List Value},a.length=c.length->allEq (a ++ b) (c ++ d)=(allEq a c && allEq b d)
 | [],b,[],d,_=>by simp [allEq]
 | x :: a,b,y :: c,d,h=>by simp only [List.cons_append,allEq,b6e (Nat.succ.inj h),Bool.and_assoc]
inductive Row (m:Nat):Nat->List Field->List Sc->Prop
 | nil (off:Nat):Row m off [] []
 | cons (off : Nat) (f : Field) (ks : List Sc) (fs : List Field) (js : List Sc) (h1 : f.name ≠ "_") (h2 : f.offset = off) (h3 : f0r m f.type ks) (h : Row m (off + ks.length) fs js) : Row m off (f :: fs) (ks ++ js)
theorem Row.run {m off:Nat} {fs:List Field} {ks:List Sc} (h:Row m off fs ks):∀ (d:Nat) (xs ys:List Value) (w:World),hasAll ks ((xs.drop off).take ks.length)=true->hasAll ks ((ys.drop off).take ks.length)=true ->
  (Op.eqFields (d+m+1) xs.toArray ys.toArray fs).run prog w=.ok (allEq ((xs.drop off).take ks.length) ((ys.drop off).take ks.length)) w:=by
 induction h with
 | nil off=>intro d xs ys w _ _;simp [Op.eqFields,allEq]
 | cons off f ks fs js h1 h2 h3 h ih =>
  intro d xs ys w g1 g2
  have spl:∀ zs:List Value,(zs.drop off).take (ks ++ js).length=(zs.drop off).take ks.length ++ (zs.drop (off+ks.length)).take js.length:=fun zs=>by
   rw [List.length_append,List.take_add,List.drop_drop]
  have len:∀ zs:List Value,hasAll (ks ++ js) ((zs.drop off).take (ks ++ js).length)=true->((zs.drop off).take ks.length).length=ks.length:=fun zs g=>by
   have:=b0x g
   simp only [List.length_take,List.length_append] at this |-;omega
  have l1:=len xs g1
  have l2:=len ys g2
  rw [spl] at g1 g2 |-
  rw [spl]
  rw [a5e l1] at g1
  rw [a5e l2] at g2
  obtain ⟨a,b,p1,p2,p3,p4⟩:=h3 d xs ys off w g1.1 g2.1
  rw [b6e (by rw [l1,l2])]
  simp only [Op.eqFields,h1,ne_eq,not_false_eq_true,if_true,h2,Sem.run_bind,p1,p2,p3,Result.andThen_ok]
  have:=ih d xs ys w g1.2 g2.2
  cases allEq ((xs.drop off).take ks.length) ((ys.drop off).take ks.length) with
  | false=>simp
  | true=>simp [this]
theorem Row.keys {m off:Nat} {fs:List Field} {ks:List Sc} (h:Row m off fs ks):∀ (d:Nat) (em:Bool) (xs:List Value) (w:World),hasAll ks ((xs.drop off).take ks.length)=true ->
  (forIn (m:=Sem) fs PUnit.unit fun f r=>do
   if f.name ≠ "_" then do
    let v <- part f.type xs.toArray f.offset
    Instr.checkKey em (d+m+1) f.type v
    pure (ForInStep.yield PUnit.unit)
   else pure (ForInStep.yield PUnit.unit)).run prog w=.ok PUnit.unit w:=by
 induction h with
 | nil off=>intro d em xs w _;simp
 | cons off f ks fs js h1 h2 h3 h ih =>
  intro d em xs w g1
  have spl:∀ zs:List Value,(zs.drop off).take (ks ++ js).length=(zs.drop off).take ks.length ++ (zs.drop (off+ks.length)).take js.length:=fun zs=>by
   rw [List.length_append,List.take_add,List.drop_drop]
  have l1:((xs.drop off).take ks.length).length=ks.length:=by
   have:=b0x g1
   simp only [List.length_take,List.length_append] at this |-;omega
  rw [spl,a5e l1] at g1
  obtain ⟨a,b,p1,p2,p3,p4⟩:=h3 d xs xs off w g1.1 g1.1
  have:=ih d em xs w g1.2
  simp only [List.forIn_cons,h1,ne_eq,not_false_eq_true,if_true,h2,Sem.run_bind,p1,p4,Result.andThen_ok,Sem.run_pure]
  exact this
theorem b2q {ks:List Sc} {xs:List Value} (h:hasAll ks xs=true):(xs.drop 0).take ks.length=xs:=by
 rw [<- b0x h];simp
theorem a5m {m:Nat} {t:TypeId} {ks:List Sc} (ht:prog.underlying t=some (.struct (prog.fieldsOf t))) (hp:prog.stoodInHeld t=false) (hr:Row m 0 (prog.fieldsOf t).toList ks) (d:Nat) {xs ys:List Value} (w:World) (h1:hasAll ks xs=true) (h2:hasAll ks ys=true) :
  (Op.equalIn (d+m+2) t (.agg xs.toArray) (.agg ys.toArray)).run prog w=.ok (allEq xs ys) w:=by
 rw [run_equalIn_agg w (d+m+1) t _ _ ht hp]
 have:=hr.run d xs ys w (by rw [b2q h1];exact h1) (by rw [b2q h2];exact h2)
 rw [b2q h1,b2q h2] at this
 exact this
theorem a5k {m:Nat} {t:TypeId} {ks:List Sc} (ht:prog.underlying t=some (.struct (prog.fieldsOf t))) (hr:Row m 0 (prog.fieldsOf t).toList ks) (d:Nat) {xs:List Value} (em:Bool) (w:World) (h1:hasAll ks xs=true) :
  (Instr.checkKey em (d+m+2) t (.agg xs.toArray)).run prog w=.ok () w:=by
 have:=hr.keys d em xs w (by rw [b2q h1];exact h1)
 rw [Instr.checkKey]
 simp only [Sem.run_bind,run_underlying ht,Result.andThen_ok]
 rw [<- Array.forIn_toList,this]
 rfl
theorem b5b {m:Nat} {t:TypeId} {ks:List Sc} (ht:prog.underlying t=some (.struct (prog.fieldsOf t))) (hp:prog.stoodInHeld t=false) (hr:Row m 0 (prog.fieldsOf t).toList ks) (hz:∀ w,(sizeOf t).run prog w=.ok ks.length w):f0r (m+1) t ks:=by
 intro d xs ys off w h1 h2
 have ha:∀ w,(isAgg t).run prog w=.ok true w:=fun w=>by simp [isAgg,run_underlying ht]
 have hx:∀ zs:List Value,zs.toArray.extract off (off+ks.length)=((zs.drop off).take ks.length).toArray:=fun zs=>by
  simp [List.extract_eq_take_drop]
 refine ⟨.agg ((xs.drop off).take ks.length).toArray,.agg ((ys.drop off).take ks.length).toArray,fun w=>by simp [part,ha,hz,hx],fun w=>by simp [part,ha,hz,hx],?_⟩
 exact ⟨a5m ht hp hr d w h1 h2,fun em w=>a5k ht hr d em w h1⟩
def offs:List (TypeId × List Sc)->Nat->List (Bool × Nat × TypeId)
 | [],_=>[]
 | (t,ks) :: l,off=>(false,off,t) :: offs l (off+ks.length)
theorem Row.of {m : Nat} : ∀ (l : List (TypeId × List Sc)) (off : Nat) (fs : List Field), fs.map (fun f => (f.name == "_", f.offset, f.type)) = offs l off -> (∀ p ∈ l, f0r m p.1 p.2) -> Row m off fs (l.map (·.2)).flatten
 | [],off,fs,h,_=>by
  simp only [offs,List.map_eq_nil_iff] at h;subst h;exact .nil off
 | (t,ks) :: l,off,[],h,_=>by simp [offs] at h
 | (t,ks) :: l,off,f :: fs,h,hc=>by
  simp only [List.map_cons,offs,List.cons.injEq,Prod.mk.injEq] at h
  obtain ⟨⟨h1,h2,h3⟩,h4⟩:=h
  rw [List.map_cons,List.flatten_cons]
  exact .cons off f ks fs _ (by simpa using h1) h2 (by rw [h3];exact hc (t,ks) (by simp)) (Row.of l _ fs h4 fun p hp=>hc p (List.mem_cons_of_mem _ hp))
theorem f0w:Row 0 0 (prog.fieldsOf 291).toList [.int .i64,.int .i64]:=Row.of [(3,[.int .i64]),(3,[.int .i64])] 0 _ (by kernel_rfl) (by simp;exact b5c underlying3)
theorem row27 {m:Nat}:Row m 0 (prog.fieldsOf 27).toList [.int .i64,.int .i64,.int .i64]:=Row.of [(3,[.int .i64]),(3,[.int .i64]),(3,[.int .i64])] 0 _ (by kernel_rfl) (by simp;exact b5c underlying3)
theorem und27:prog.underlying 27=some (.struct (prog.fieldsOf 27)):=by kernel_rfl
theorem und86:prog.underlying 86=some (.struct (prog.fieldsOf 86)):=by kernel_rfl
theorem und184:prog.underlying 184=some (.struct (prog.fieldsOf 184)):=by kernel_rfl
theorem und291:prog.underlying 291=some (.struct (prog.fieldsOf 291)):=by kernel_rfl
theorem si27:prog.stoodInHeld 27=false:=by kernel_rfl
theorem si86:prog.stoodInHeld 86=false:=by kernel_rfl
theorem si184:prog.stoodInHeld 184=false:=by kernel_rfl
theorem si291:prog.stoodInHeld 291=false:=by kernel_rfl
theorem a9j (w:World):(sizeOf 27).run prog w=.ok 3 w:=by
 have h:(prog.info? 27).map (·.size)=some 3:=by kernel_rfl
 obtain ⟨i,h1,h2⟩:=Option.map_eq_some_iff.1 h
 simp [sizeOf,typeInfo,h1,h2]
theorem f0x:Row 1 0 (prog.fieldsOf 184).toList [.int .i64,.int .i64,.int .i64,.int .i64,.int .i64,.int .i64,.int .i64]:=Row.of [(182,[.int .i64]),(3,[.int .i64]),(3,[.int .i64]),(3,[.int .i64]),(27,[.int .i64,.int .i64,.int .i64])] 0 _ (by kernel_rfl) (by
 simp
 exact ⟨b5c underlying182,b5c underlying3,b5b (m:=0) und27 si27 row27 fun w=>a9j w⟩)
theorem und82:prog.underlying 82=some (.struct (prog.fieldsOf 82)):=by kernel_rfl
theorem si82:prog.stoodInHeld 82=false:=by kernel_rfl
theorem f4r:Row 1 0 (prog.fieldsOf 82).toList [.int .i64,.int .i64,.int .i64,.int .i64,.int .i64]:=Row.of [(3,[.int .i64]),(3,[.int .i64]),(27,[.int .i64,.int .i64,.int .i64])] 0 _ (by kernel_rfl) (by
 simp
 exact ⟨b5c underlying3,b5b (m:=0) und27 si27 row27 fun w=>a9j w⟩)
theorem f4q:Row 1 0 (prog.fieldsOf 86).toList [.int .i64,.int .i64,.int .i64,.int .i64]:=Row.of [(27,[.int .i64,.int .i64,.int .i64]),(3,[.int .i64])] 0 _ (by kernel_rfl) (by
 simp
 exact ⟨b5b (m:=0) und27 si27 row27 fun w=>a9j w,b5c underlying3⟩)
def b9r (t:TypeId):Option (List Sc) :=
 if t=27 then some [.int .i64,.int .i64,.int .i64]
 else if t=86 then some [.int .i64,.int .i64,.int .i64,.int .i64]
 else if t=184 then some [.int .i64,.int .i64,.int .i64,.int .i64,.int .i64,.int .i64,.int .i64]
 else if t=291 then some [.int .i64,.int .i64]
 else if t=82 then some [.int .i64,.int .i64,.int .i64,.int .i64,.int .i64]
 else none
theorem b9p {T:TypeId} {ks:List Sc} (h:b9r T=some ks):T=27/\ks=[.int .i64,.int .i64,.int .i64] \/ T=86/\ks=[.int .i64,.int .i64,.int .i64,.int .i64] \/ T=184/\ks=[.int .i64,.int .i64,.int .i64,.int .i64,.int .i64,.int .i64,.int .i64] \/ T=291/\ks=[.int .i64,.int .i64] \/ T=82/\ks=[.int .i64,.int .i64,.int .i64,.int .i64,.int .i64]:=by
 unfold b9r at h
 split at h
 ·rename_i q;exact .inl ⟨q,(Option.some.inj h).symm⟩
 ·split at h
  ·rename_i q;exact .inr (.inl ⟨q,(Option.some.inj h).symm⟩)
  ·split at h
   ·rename_i q;exact .inr (.inr (.inl ⟨q,(Option.some.inj h).symm⟩))
   ·split at h
    ·rename_i q;exact .inr (.inr (.inr (.inl ⟨q,(Option.some.inj h).symm⟩)))
    ·split at h
     ·rename_i q;exact .inr (.inr (.inr (.inr ⟨q,(Option.some.inj h).symm⟩)))
     ·cases h
theorem e9o:EqOk prog b9r:=by
 intro T ks h xs ys w h1 h2
 have gd:∀ {T:TypeId},prog.eqGuardType prog.depth T=false->∀ x y,(eqGuard .eql T x y (.agg xs.toArray) (.agg ys.toArray)).run prog w=.ok () w/\(eqGuard .neq T x y (.agg xs.toArray) (.agg ys.toArray)).run prog w=.ok () w:=fun hg x y=>⟨run_eqGuard_agg w _ _ x y _ _ hg,run_eqGuard_agg w _ _ x y _ _ hg⟩
 rcases b9p h with ⟨rfl,rfl⟩ | ⟨rfl,rfl⟩ | ⟨rfl,rfl⟩ | ⟨rfl,rfl⟩ | ⟨rfl,rfl⟩
 ·exact ⟨a5m (m:=0) und27 si27 row27 9998 w h1 h2,gd (by kernel_rfl)⟩
 ·exact ⟨a5m (m:=1) und86 si86 f4q 9997 w h1 h2,gd (by kernel_rfl)⟩
 ·exact ⟨a5m (m:=1) und184 si184 f0x 9997 w h1 h2,gd (by kernel_rfl)⟩
 ·exact ⟨a5m (m:=0) und291 si291 f0w 9998 w h1 h2,gd (by kernel_rfl)⟩
 ·exact ⟨a5m (m:=1) und82 si82 f4r 9997 w h1 h2,gd (by kernel_rfl)⟩
theorem e5e:c6j prog b9r:=by
 intro T ks h xs w b h1
 rcases b9p h with ⟨rfl,rfl⟩ | ⟨rfl,rfl⟩ | ⟨rfl,rfl⟩ | ⟨rfl,rfl⟩ | ⟨rfl,rfl⟩
 ·exact a5k (m:=0) und27 row27 9998 b w h1
 ·exact a5k (m:=1) und86 f4q 9997 b w h1
 ·exact a5k (m:=1) und184 f0x 9997 b w h1
 ·exact a5k (m:=0) und291 f0w 9998 b w h1
 ·exact a5k (m:=1) und82 f4r 9997 b w h1
@[simp] theorem eqTab27:b9r 27=some [.int .i64,.int .i64,.int .i64]:=rfl
@[simp] theorem eqTab86:b9r 86=some [.int .i64,.int .i64,.int .i64,.int .i64]:=rfl
@[simp] theorem eqTab184:b9r 184=some [.int .i64,.int .i64,.int .i64,.int .i64,.int .i64,.int .i64,.int .i64]:=rfl
@[simp] theorem eqTab82:b9r 82=some [.int .i64,.int .i64,.int .i64,.int .i64,.int .i64]:=rfl
@[simp] theorem eqTab291:b9r 291=some [.int .i64,.int .i64]:=rfl
attribute [simp] e5j a4g hasAll Sc.has allEq scEq
def cxS (pub:Nat->Kd):Cx:=⟨tyOf a0s,b9r,pub,fun _ _=>none,RD.any⟩
@[simp] theorem cxS_ty {p:Nat->Kd}:(cxS p).ty=tyOf a0s:=rfl
@[simp] theorem cxS_eqt {p:Nat->Kd} (t:TypeId):(cxS p).eqt t=b9r t:=rfl
@[simp] theorem cxS_pub {p:Nat->Kd} (t:Nat):(cxS p).pub t=p t:=rfl
@[simp] theorem cxS_spec {p:Nat->Kd} (f:FuncId) (a:List LV):(cxS p).spec f a=none:=rfl
@[simp] theorem cxS_rd {p:Nat->Kd}:(cxS p).rd=RD.any:=rfl
theorem a6j {p:Nat->Kd}:(cxS p).ok prog:=⟨b6p,e9o,e5e,fun f args pre v h=>(by cases h),(by kernel_rfl)⟩
end Go.Aft
end
section
set_option maxRecDepth 20000
namespace Go.Aft
open Go.Proofs.Tryz
theorem c4q (n lo hi:Int):AFun prog 171 [lvI n,lvI lo,lvI hi] (.d (.k (.bool (decide (lo<=n) && decide (n<=hi))))):=by
 refine AFun.body cx0_ok func171 rfl call171 (by rw [ntmps171];simp) rfl fun _ H=>?_
 simp [ntmps171,results171]
def cntV (o:Option Int) (left:Int):Int:=match o with
 | some l=>left - l
 | none=>-1
theorem d1o (op cn:Int) (kids:List Calc) (other:Bool)
  (ih:∀ k ∈ kids,∀ depth left:Int,0<=depth->left<=1000->AFun prog 110 [lv (a1h k),.d (.k (.bool other)),lvI depth,lvI left] (lvI (cntV (a2y other k depth left) left)))
  (depth left:Int) (hd:0<=depth) (hl:left<=1000):AFun prog 110 [lv (a1h (.mk op cn kids)),.d (.k (.bool other)),lvI depth,lvI left] (lvI (cntV (a2y other (.mk op cn kids) depth left) left)):=by
 have cc:=a0g (p:=kds [4] [] [])
 refine AFun.d3w (a0g (p:=kds [4] [] [])) func110 rfl call110 (by rw [ntmps110];simp) rfl fun hf H=>?_
 simp [ntmps110,results110,a0o,Calc.op,Calc.n,Calc.kids] at hf |-
 refine AW.seq cc ?_
 simp
 refine AW.seq cc ?_
 simp
 refine ⟨fun h=>by rw [a2y,if_neg (by omega)];rfl,fun h1 h2=>?_⟩
 have hno:a3o other op cn kids.length ≠ true->cntV (a2y other (.mk op cn kids) depth left) left = -1:=fun hq=>by rw [a2y,if_neg (by rintro ⟨_,_,q⟩;exact hq q)];rfl
 refine AW.seq cc ?_
 simp
 refine AW.join (c:=cxK (kds [4] [] [])) (fun k:Int=>⟨[(1,.d (.k (.bool other))),(2,lvI depth),(3,lvI left),(4,.ip [.d (.k (.int .i64 op)),.d (.k (.int .i64 cn)),.d (.sl (kids.map a1h))] 0),(9,lvI 1),(10,lvI k)],[],H⟩)
  (fun k=>(op=1/\-1000000000<=cn/\cn<=1000000000 \/ op=2 \/ op=3 \/ op=4 \/ op=5/\other=true)/\k=0 \/ 6<=op/\op<=10/\k=2) (AW.ev cc ?_) fun k hk=>?_
 ·have hop:(op=2 \/ op=3 \/ op=4) \/ (op=6 \/ op=7 \/ op=8 \/ op=9 \/ op=10) \/ op=1 \/ op=5 \/ (op < 1 \/ 10 < op):=by omega
  rcases hop with h | h | rfl | rfl | h
  ·rcases h with rfl | rfl | rfl
   all_goals simp;exact JN.go 0 (by simp) (by simp)
  ·rcases h with rfl | rfl | rfl | rfl | rfl
   all_goals simp;exact JN.go 2 (by simp) (by simp)
  ·simp
   refine EC.afun (c4q _ _ _) ?_
   simp
   refine ⟨fun q=>?_,fun q1 q2=>JN.go 0 (by simp;omega) (by simp)⟩
   rw [hno (by simp [a3o];omega)]
  ·simp
   refine ⟨fun q=>?_,fun q=>JN.go 0 (by simp [q]) (by simp)⟩
   rw [hno (by simp [a3o,q])]
  ·have e1:op ≠ 1:=by omega
   have e2:op ≠ 2:=by omega
   have e3:op ≠ 3:=by omega
   have e4:op ≠ 4:=by omega
   have e5:op ≠ 5:=by omega
   have e6:op ≠ 6:=by omega
   have e7:op ≠ 7:=by omega
   have e8:op ≠ 8:=by omega
   have e9:op ≠ 9:=by omega
   have e10:op ≠ 10:=by omega
   simp [e1,e2,e3,e4,e5,e6,e7,e8,e9,e10]
   rw [hno (by unfold a3o;rw [if_neg e1,if_neg (by omega),if_neg e5];simp;omega)]
 ·refine AW.seq cc ?_
  simp
  have hok:∀ q:(kids.length:Int)=k,(op=1 \/ cn=0)->a3o other op cn kids.length=true:=fun q q2=>by
   unfold a3o
   split
   ·exact decide_eq_true (by omega)
   ·split
    ·exact decide_eq_true (by omega)
    ·split
     ·refine decide_eq_true ⟨?_,by omega,by omega⟩
      rcases hk with ⟨h | h | h | h | h,_⟩ | h <;> first | exact h.2 | omega
     ·exact decide_eq_true (by omega)
  refine ⟨fun q=>⟨q,fun q2=>⟨q,q2⟩⟩,fun q=>?_,fun q1 q2=>?_⟩
  ·rw [hno]
   intro hq
   unfold a3o at hq
   have hn:op ≠ 1->cn ≠ 0->False:=fun q1 q2=>by
    rw [if_neg q1] at hq
    split at hq
    ·exact q2 (of_decide_eq_true hq).1
    ·split at hq
     ·exact q2 (of_decide_eq_true hq).2.1
     ·exact q2 (of_decide_eq_true hq).2.2.1
   have hl:(kids.length:Int)=k:=by
    split at hq
    ·have:=of_decide_eq_true hq;omega
    ·split at hq
     ·have:=of_decide_eq_true hq;omega
     ·split at hq
      ·have:=of_decide_eq_true hq;omega
      ·have:=of_decide_eq_true hq;omega
   rcases q with q | q
   ·exact q hl
   ·exact hn q.1 q.2
  have hsp:a2y other (.mk op cn kids) depth left=a1m other kids (depth+1) (left - 1):=by
   rw [a2y,if_pos ⟨by omega,by omega,hok q1 (by omega)⟩]
  rw [hsp]
  have w1:IntKind.wrap .i64 (depth+1)=depth+1:=by rw [wrap64] <;> omega
  refine AW.ev cc ?_
  simp
  refine AW.a0w cc (fun a:Nat × Int=>⟨[(1,.d (.k (.bool other))),(2,lvI depth),(3,lvI left),(4,.ip [.d (.k (.int .i64 op)),.d (.k (.int .i64 cn)),.d (.sl (kids.map a1h))] 0),(9,lvI (left - a.2)),(10,lvI k),(11,lvI a.1)],[],H⟩) (fun a=>kids.length - a.1)
   (fun a=>a.1<=kids.length/\0<=a.2/\a.2<=left - 1/\a1m other kids (depth+1) (left - 1)=a1m other (kids.drop a.1) (depth+1) a.2) (0,left - 1) ⟨⟨by simp,by simp;omega,by simp,by simp⟩,by simp [show left - (left - 1)=1 by omega]⟩ ?_
  rintro ⟨i,lf⟩ ⟨hi,hl0,hl1,hI⟩
  simp only at hi hl0 hl1 hI
  simp
  refine ⟨fun h=>?_,fun h=>?_⟩
  ·have h:i < kids.length:=by omega
   have hd:=List.drop_eq_getElem_cons h
   rw [hd,a1m] at hI
   have w2:IntKind.wrap .i64 (left - (left - lf))=lf:=by rw [wrap64] <;> omega
   simp [h,List.getElem?_eq_getElem h,a0o,w1,w2]
   refine EC.afun (by simpa [a0o] using ih kids[i] (List.getElem_mem h) (depth+1) lf (by omega) (by omega)) ?_
   cases hl:a2y other kids[i] (depth+1) lf with
   | none =>
    rw [hl] at hI
    simp [cntV]
    rw [hI]
   | some l =>
    rw [hl] at hI
    have hle:=a8i _ _ _ _ hl
    have w3:IntKind.wrap .i64 (left - lf+(lf - l))=left - l:=by rw [wrap64] <;> omega
    simp [cntV,w3]
    refine ⟨fun q=>by omega,fun q=>NX.go (i+1,l) (by simp;omega) ⟨h,hle.1,by simp only;omega,hI⟩ (by simp [wrap_succ h hf.1])⟩
  ·have:kids.drop i=[]:=List.drop_eq_nil_of_le (by omega)
   rw [this,a1m] at hI
   rw [hI];simp [cntV]
theorem c1y (other:Bool):∀ (c:Calc) (depth left:Int),0<=depth->left<=1000->AFun prog 110 [lv (a1h c),.d (.k (.bool other)),lvI depth,lvI left] (lvI (cntV (a2y other c depth left) left))
 | .mk op cn kids,depth,left,hd,hl=>d1o op cn kids other (fun k hk depth left hd hl=>c1y other k depth left hd hl) depth left hd hl
end Go.Aft
end
section
set_option maxRecDepth 20000
namespace Go.Aft
open Go.Proofs.Tryz
mutual
theorem b7f {n g sz N:Nat} {rows:List (List DV)} (h:N<=n):∀ x:LV,x.nb N->x.thaw n g sz rows=x
 | .vs m g' sz' i len,hx=>by
  simp only [LV.nb] at hx
  simp only [LV.thaw]
  rw [if_neg (by rintro ⟨rfl,_⟩;omega)]
 | .fn f first cap,hx=>by simp only [LV.nb] at hx;simp only [LV.thaw,a7z h _ hx.1,a7z h _ hx.2]
 | .agg xs,hx=>by simp only [LV.nb] at hx;simp only [LV.thaw,a7z h _ hx]
 | .tup xs,hx=>by simp only [LV.nb] at hx;simp only [LV.thaw,a7z h _ hx]
 | .gd _ _,_ | .d _,_ | .lp _ _,_ | .gp _ _,_ | .ep _ _ _ _,_ | .osl _ _,_ | .gm _,_ | .vp _ _ _,_ | .yl _,_ | .ip _ _,_ | .any,_=>by simp only [LV.thaw]
theorem a7z {n g sz N:Nat} {rows:List (List DV)} (h:N<=n):∀ xs:List LV,nbs N xs->a7f n g sz rows xs=xs
 | [],_=>by simp only [a7f]
 | x :: xs,hx=>by simp only [nbs] at hx;simp only [a7f,b7f h x hx.1,a7z h xs hx.2]
end
theorem GO.b7f {n g sz N:Nat} {rows:List (List DV)} (h:N<=n) {o:GO} (ho:o.nb N):o.thaw n g sz rows=o:=by
 cases o with
 | box cs=>simp only [GO.nb] at ho;simp only [GO.thaw,a7z h _ ho]
 | vec e g' sz' cells ex=>simp only [GO.nb] at ho;simp only [GO.thaw,a7z h _ ho]
 | _=>rfl
def two (H:GH) (a b:List LV):GH:=⟨fun m=>if m=H.next+1 then some (.box b) else if m=H.next then some (.box a) else H.obj m,H.next+2⟩
@[simp] theorem two_next {H:GH} {a b:List LV}:(two H a b).next=H.next+2:=rfl
@[simp] theorem two_0 {H:GH} {a b:List LV}:(two H a b).obj H.next=some (.box a):=by simp [two]
@[simp] theorem two_1 {H:GH} {a b:List LV}:(two H a b).obj (H.next+1)=some (.box b):=by simp [two]
@[simp] theorem two_set0 {H:GH} {a b c:List LV}:(two H a b).set H.next (.box c)=two H c b:=by
 simp only [two,GH.set];congr 1;funext m;unfold upd;split <;> simp_all
@[simp] theorem two_set1 {H:GH} {a b c:List LV}:(two H a b).set (H.next+1) (.box c)=two H a c:=by
 simp only [two,GH.set];congr 1;funext m;unfold upd;split <;> simp_all
theorem EC.need {P:Program} {f:FuncId} {args:List LV} {H H1:GH} {s:S} {dst:Option Nat} {K:KT} {Q:QT} {b:Prop} [Decidable b] {x:LV} (h:a0j P f args H fun ce H'=>H'=H1/\(if b then ∃ v,ce=.ret v else ce=.pan x))
  (hk:b->∀ v,@AP K (({ s with H:=H1 }:S).put dst v)) (hp:¬ b->Q.q (.pan x) { s with H:=H1 }):@EC P f args H s dst K Q:=by
 refine EC.of h (fun v H' hR=>?_) (fun v H' hR=>?_)
 ·obtain ⟨rfl,hR⟩:=hR
  by_cases hb:b
  ·exact hk hb v
  ·rw [if_neg hb] at hR;cases hR
 ·obtain ⟨rfl,hR⟩:=hR
  by_cases hb:b
  ·rw [if_pos hb] at hR;obtain ⟨_,e⟩:=hR;cases e
  ·rw [if_neg hb] at hR;cases hR;exact hp hb
@[simp] theorem twoA_set0 {H:GH} {a b c:List LV} {o:GO}:((two H a b).add o).set H.next (.box c)=(two H c b).add o:=by
 simp only [two,GH.set,GH.add];congr 1;funext m;unfold upd;split <;> simp_all <;> omega
@[simp] theorem twoA_set1 {H:GH} {a b c:List LV} {o:GO}:((two H a b).add o).set (H.next+1) (.box c)=(two H a c).add o:=by
 simp only [two,GH.set,GH.add];congr 1;funext m;unfold upd;split <;> simp_all <;> omega
@[simp] theorem twoA_set2 {H:GH} {a b:List LV} {o o':GO}:((two H a b).add o).set (H.next+2) o'=(two H a b).add o':=by
 simp only [two,GH.set,GH.add];congr 1;funext m;unfold upd;split <;> simp_all
@[simp] theorem twoA_0 {H:GH} {a b:List LV} {o:GO}:((two H a b).add o).obj H.next=some (.box a):=by simp [two,GH.add,upd]
@[simp] theorem twoA_1 {H:GH} {a b:List LV} {o:GO}:((two H a b).add o).obj (H.next+1)=some (.box b):=by simp [two,GH.add,upd]
@[simp] theorem twoA_2 {H:GH} {a b:List LV} {o:GO}:((two H a b).add o).obj (H.next+2)=some o:=by simp [two,GH.add,upd]
@[simp] theorem twoA_next {H:GH} {a b:List LV} {o:GO}:((two H a b).add o).next=H.next+3:=rfl
theorem b6a (a b:List (List DV)):a1e (a ++ b)=a1e a ++ a1e b:=by simp [a1e]
end Go.Aft
end
section
set_option maxRecDepth 20000
namespace Go.Aft
open Go.Proofs.Tryz
theorem GH.a2n {H:GH} {n:Nat} {a b:GO}:(H.set n a).set n b=H.set n b:=by
 simp only [GH.set];congr 1;funext m;simp only [upd];split <;> rfl
theorem GH.a0n {H:GH} {n:Nat} {a:GO}:(H.set n a).obj n=some a:=by simp [GH.set]
theorem d8t (op cn:Int) (kids:List Calc) (other:Bool)
  (ih:∀ k ∈ kids,∀ (n:Nat) (H:GH) (x y z:LV) (ahead nodes depth:Int),H.obj n=some (scp [x,y,z] ahead nodes)->0<=nodes->nodes<=60->0<=depth->depth<=100 ->
   a0j prog 210 [.gp n 0,lv (a1h k),.d (.k (.bool other)),lvI depth] H fun ce H'=>match a2y other k depth (60 - nodes) with
    | some l=>(∃ v,ce=.ret v)/\H'=H.set n (scp [x,y,z] ahead (60 - l))
    | none=>ce=.pan unformed/\∃ m,H'=H.set n (scp [x,y,z] ahead m))
  (n:Nat) (H:GH) (x y z:LV) (ahead nodes depth:Int) (hn:H.obj n=some (scp [x,y,z] ahead nodes)) (h0:0<=nodes) (h1:nodes<=60) (hd0:0<=depth) (hd1:depth<=100) :
   a0j prog 210 [.gp n 0,lv (a1h (.mk op cn kids)),.d (.k (.bool other)),lvI depth] H fun ce H'=>match a2y other (.mk op cn kids) depth (60 - nodes) with
    | some l=>(∃ v,ce=.ret v)/\H'=H.set n (scp [x,y,z] ahead (60 - l))
    | none=>ce=.pan unformed/\∃ m,H'=H.set n (scp [x,y,z] ahead m):=by
 have cc:=a0g (p:=kds [5] [] [])
 refine a0j.a3a (a0g (p:=kds [5] [] [])) func210 rfl call210 (by rw [ntmps210];simp) rfl fun hf hw=>?_
 simp [ntmps210,results210,a0o,Calc.op,Calc.n,Calc.kids] at hf |-
 have hc:nbs H.next [x,y,z]:=by
  have:=hw.nb n _ hn;simp [scp,GO.nb,nbs,LV.nb] at this |-;exact this
 have hlt:=hw.lt hn
 have hdr:∀ m,nbH (H.set n (scp [x,y,z] ahead m))->Drop H (H.set n (scp [x,y,z] ahead m)) (H.set n (scp [x,y,z] ahead m)):=fun m hz=>hz.drop (by rw [GH.a0l];exact Nat.le_refl _)
 refine AW.seq cc ?_
 simp
 refine AW.seq cc ?_
 simp [hlt]
 refine EC.need (d4z n H x y z ahead nodes depth hn hc h0 (by omega)) (fun hb v=>?_) (fun hb=>?_)
 rotate_left
 ·simp
  refine fun hz=>⟨_,hdr _ hz,by simp [unformed,LV.nb],?_⟩
  rw [a2y,if_neg (by omega)]
  exact ⟨_,rfl⟩
 have hno:a3o other op cn kids.length ≠ true->a2y other (.mk op cn kids) depth (60 - nodes)=none:=fun hq=>by rw [a2y,if_neg (by rintro ⟨_,_,q⟩;exact hq q)]
 simp
 refine AW.seq cc ?_
 simp
 have hlast:nbH (H.set n (scp [x,y,z] ahead (nodes+1)))->a3o other op cn kids.length ≠ true->∃ H',Drop H (H.set n (scp [x,y,z] ahead (nodes+1))) H'/\(unformed:LV).nb H'.next/\match a2y other (.mk op cn kids) depth (60 - nodes) with
    | some l=>False
    | none=>∃ m,H'=H.set n (scp [x,y,z] ahead m):=fun hz hq=>by
  refine ⟨_,hdr _ hz,by simp [unformed,LV.nb],?_⟩
  rw [hno hq];exact ⟨_,rfl⟩
 refine AW.join (c:=cxK (kds [5] [] [])) (fun k:Int=>⟨[(0,.gp n 0),(2,.d (.k (.bool other))),(3,lvI depth),(5,.ip [.d (.k (.int .i64 op)),.d (.k (.int .i64 cn)),.d (.sl (kids.map a1h))] 0),(8,lvI k)],[],H.set n (scp [x,y,z] ahead (nodes+1))⟩)
  (fun k=>(op=1/\-1000000000<=cn/\cn<=1000000000 \/ op=2 \/ op=3 \/ op=4 \/ op=5/\other=true)/\k=0 \/ 6<=op/\op<=10/\k=2) (AW.ev cc ?_) fun k hk=>?_
 ·have hop:(op=2 \/ op=3 \/ op=4) \/ (op=6 \/ op=7 \/ op=8 \/ op=9 \/ op=10) \/ op=1 \/ op=5 \/ (op < 1 \/ 10 < op):=by omega
  rcases hop with h | h | rfl | rfl | h
  ·rcases h with rfl | rfl | rfl
   all_goals simp;exact JN.go 0 (by simp) (by simp)
  ·rcases h with rfl | rfl | rfl | rfl | rfl
   all_goals simp;exact JN.go 2 (by simp) (by simp)
  ·simp
   refine EC.need (a2i _ _) (fun hb v=>?_) (fun hb=>?_)
   ·simp at hb
    simp
    exact JN.go 0 (by simp;omega) (by simp)
   ·simp at hb
    simp
    refine fun hz=>hlast hz ?_
    simp [a3o];omega
  ·simp
   refine EC.need (a2i _ _) (fun hb v=>?_) (fun hb=>?_)
   ·simp
    exact JN.go 0 (by simp [hb]) (by simp)
   ·simp
    refine fun hz=>hlast hz ?_
    simp [a3o,hb]
  ·have e1:op ≠ 1:=by omega
   have e2:op ≠ 2:=by omega
   have e3:op ≠ 3:=by omega
   have e4:op ≠ 4:=by omega
   have e5:op ≠ 5:=by omega
   have e6:op ≠ 6:=by omega
   have e7:op ≠ 7:=by omega
   have e8:op ≠ 8:=by omega
   have e9:op ≠ 9:=by omega
   have e10:op ≠ 10:=by omega
   simp [e1,e2,e3,e4,e5,e6,e7,e8,e9,e10]
   refine EC.need (a2i _ _) (fun hb v=>?_) (fun hb=>?_)
   ·simp at hb
   ·simp
    refine fun hz=>hlast hz ?_
    unfold a3o
    rw [if_neg e1,if_neg (by omega),if_neg e5]
    simp;omega
 ·refine AW.seq cc ?_
  simp
  refine ⟨fun q=>⟨q,fun q2=>⟨q,q2⟩⟩,EC.need (a2i _ _) (fun hb v=>?_) (fun hb=>?_)⟩
  rotate_left
  ·simp at hb
   simp
   refine fun hz=>hlast hz ?_
   intro hq
   unfold a3o at hq
   have hn:op ≠ 1->cn ≠ 0->False:=fun q1 q2=>by
    rw [if_neg q1] at hq
    split at hq
    ·exact q2 (of_decide_eq_true hq).1
    ·split at hq
     ·exact q2 (of_decide_eq_true hq).2.1
     ·exact q2 (of_decide_eq_true hq).2.2.1
   have hl:(kids.length:Int)=k:=by
    split at hq
    ·have:=of_decide_eq_true hq;omega
    ·split at hq
     ·have:=of_decide_eq_true hq;omega
     ·split at hq
      ·have:=of_decide_eq_true hq;omega
      ·have:=of_decide_eq_true hq;omega
   have:=hb hl
   exact hn this.1 this.2
  simp at hb
  have hok:a3o other op cn kids.length=true:=by
   unfold a3o
   split
   ·exact decide_eq_true (by omega)
   ·split
    ·exact decide_eq_true (by omega)
    ·split
     ·refine decide_eq_true ⟨?_,by omega,by omega⟩
      rcases hk with ⟨h | h | h | h | h,_⟩ | h <;> first | exact h.2 | omega
     ·exact decide_eq_true (by omega)
  have hsp:a2y other (.mk op cn kids) depth (60 - nodes)=a1m other kids (depth+1) (59 - nodes):=by
   rw [a2y,if_pos ⟨by omega,by omega,hok⟩,show 60 - nodes - 1=59 - nodes by omega]
  rw [hsp]
  simp
  have w1:IntKind.wrap .i64 (depth+1)=depth+1:=by rw [wrap64] <;> omega
  refine AW.ev cc ?_
  simp
  refine AW.a0w cc (fun a:Nat × Int=>⟨[(0,.gp n 0),(2,.d (.k (.bool other))),(3,lvI depth),(59,.d (.sl (kids.map a1h))),(60,lvI kids.length),(61,lvI a.1)],[],H.set n (scp [x,y,z] ahead (60 - a.2))⟩) (fun a=>kids.length - a.1)
   (fun a=>a.1<=kids.length/\0<=a.2/\a.2<=59 - nodes/\a1m other kids (depth+1) (59 - nodes)=a1m other (kids.drop a.1) (depth+1) a.2) (0,59 - nodes) ⟨⟨by simp,by simp;omega,by simp,by simp⟩,by simp [show 60 - (59 - nodes)=nodes+1 by omega]⟩ ?_
  rintro ⟨i,left⟩ ⟨hi,hl0,hl1,hI⟩
  simp only at hi hl0 hl1 hI
  simp
  refine ⟨fun h=>?_,fun h=>?_⟩
  ·have hd:=List.drop_eq_getElem_cons h
   rw [hd,a1m] at hI
   simp [h,List.getElem?_eq_getElem h,a0o,hlt,w1,GH.a0l]
   have ih':=ih kids[i] (List.getElem_mem h) n (H.set n (scp [x,y,z] ahead (60 - left))) x y z ahead (60 - left) (depth+1) GH.a0n (by omega) (by omega) (by omega) (by omega)
   rw [show 60 - (60 - left)=left by omega] at ih'
   simp only [GH.a2n,lv_eq,a0o,List.map_cons,List.map_nil,lvI_eq] at ih'
   refine EC.of ih' (fun v' H' hR=>?_) (fun v' H' hR=>?_)
   ·cases hl:a2y other kids[i] (depth+1) left with
    | none=>rw [hl] at hR;cases hR.1
    | some l =>
     rw [hl] at hR hI
     have hle:=a8i _ _ _ _ hl
     obtain ⟨_,rfl⟩:=hR
     simp [wrap_succ h hf.1]
     exact NX.go (i+1,l) (by simp;omega) ⟨h,hle.1,by simp only;omega,hI⟩ (by simp)
   ·cases hl:a2y other kids[i] (depth+1) left with
    | some l=>rw [hl] at hR;obtain ⟨⟨_,q⟩,_⟩:=hR;cases q
    | none =>
     rw [hl] at hR hI
     obtain ⟨q,m,rfl⟩:=hR
     cases q
     simp
     refine fun hz=>⟨_,hdr _ hz,by simp [unformed,LV.nb],?_⟩
     rw [hI];exact ⟨_,rfl⟩
  ·have:kids.drop i=[]:=List.drop_eq_nil_of_le h
   rw [this,a1m] at hI
   rw [hI]
   exact fun hz=>⟨_,hdr _ hz,rfl⟩
theorem c6w (other:Bool):∀ (c:Calc) (n:Nat) (H:GH) (x y z:LV) (ahead nodes depth:Int),H.obj n=some (scp [x,y,z] ahead nodes)->0<=nodes->nodes<=60->0<=depth->depth<=100 ->
   a0j prog 210 [.gp n 0,lv (a1h c),.d (.k (.bool other)),lvI depth] H fun ce H'=>match a2y other c depth (60 - nodes) with
    | some l=>(∃ v,ce=.ret v)/\H'=H.set n (scp [x,y,z] ahead (60 - l))
    | none=>ce=.pan unformed/\∃ m,H'=H.set n (scp [x,y,z] ahead m)
 | .mk op cn kids,n,H,x,y,z,ahead,nodes,depth,hn,h0,h1,hd0,hd1=>d8t op cn kids other (fun k hk n H x y z ahead nodes depth hn h0 h1 hd0 hd1=>c6w other k n H x y z ahead nodes depth hn h0 h1 hd0 hd1) n H x y z ahead nodes depth hn h0 h1 hd0 hd1
end Go.Aft
end
section
set_option maxRecDepth 20000
namespace Go.Aft
open Go.Proofs.Tryz
def kwEs (l:List Str):List (Value × LV):=l.map fun s=>(.string s,.d (.k (.bool true)))
theorem a9y {a b:Str}:kEq (.string a) (.string b)=decide (a=b):=by simp [kEq,scEq]
theorem e3m:∀ (l:List Str) (s:Str),s ∉ l->mput (.string s) (.d (.k (.bool true))) (kwEs l)=kwEs (l ++ [s])
 | [],s,_=>by simp [mput,kwEs]
 | x :: l,s,h=>by
  have h1:s ≠ x:=fun e=>h (by simp [e])
  have:=e3m l s (fun e=>h (by simp [e]))
  simp only [kwEs,List.map_cons,List.cons_append,mput,a9y,h1,decide_false,Bool.false_eq_true,if_false] at this |-
  rw [this]
theorem d5w:∀ (l:List Str) (s:Str),a1c (.string s) (kwEs l)=if l.all (fun k=>decide (s ≠ k))=true then none else some (.d (.k (.bool true)))
 | [],s=>by simp [a1c,kwEs]
 | x :: l,s=>by
  have:=d5w l s
  simp only [kwEs,List.map_cons,a1c,a9y] at this |-
  by_cases e:s=x
  ·subst e;simp
  ·simp [e];simpa using this
theorem GH.a1v {H:GH} {a b:GO}:(H.add a).set H.next b=H.add b:=by
 simp only [GH.add,GH.set];congr 1;funext m;simp only [upd];split <;> rfl
theorem e3p (l:List Str) (s:Str):(a1c (.string s) (kwEs l)).getD (.d (.k (.bool false)))=.d (.k (.bool (!l.all fun k=>decide (s ≠ k)))):=by
 rw [d5w]
 split
 ·rename_i h;rw [h];rfl
 ·rename_i h
  cases hb:l.all (fun k=>decide (s ≠ k)) with
  | true=>exact absurd hb h
  | false=>rfl
theorem f3i (l:List Str) (a:Value) (b:LV) (hab:(a,b) ∈ kwEs l):(KK.sc Sc.str).has a=true:=by
 simp only [kwEs,List.mem_map] at hab
 obtain ⟨s,_,q⟩:=hab
 cases q;rfl
theorem e0p (i:Nat) (h:i < a3i.length):a3i[i] ∉ a3i.take i:=by
 have:∀ i:Fin 34,(a3i.take i.1).all (fun k=>decide (a3i.getD i.1 ⟨#[]⟩ ≠ k))=true:=by decide
 intro hm
 have h1:=this ⟨i,h⟩
 rw [List.all_eq_true] at h1
 have h2:=h1 _ hm
 simp [List.getD,List.getElem?_eq_getElem h] at h2
theorem c4e (H:GH):a0j prog 211 [] H fun ce H'=>ce=.ret (.gm H.next)/\H'=H.add (.map (kwEs a3i)):=by
 have cc:=cx0_ok
 refine a0j.a1j cx0_ok func211 rfl call211 (by rw [ntmps211];simp) rfl fun hf hw=>?_
 have hr:List.range' 0 34=[0,1,2,3,4,5,6,7,8,9,10,11,12,13,14,15,16,17,18,19,20,21,22,23,24,25,26,27,28,29,30,31,32,33]:=rfl
 simp [ntmps211,results211,hr]
 have hk:(DV.sl (a3i.map rS))=DV.sl (a3i.map rS):=rfl
 refine AW.a0w cc (fun i:Nat=>⟨[(1,.gm H.next),(5,.d (.sl (a3i.map rS))),(6,lvI 34),(7,lvI i)],[],H.add (.map (kwEs (a3i.take i)))⟩) (fun i=>34 - i) (fun i=>i<=34) 0 ⟨by simp,by simp [kwEs,a3i,rS]⟩ ?_
 intro i hi
 simp
 refine ⟨fun h=>?_,fun h=>?_⟩
 ·have hi':i < a3i.length:=by simp [a3i];omega
  have hk:∀ (a:Value) (b:LV),(a,b) ∈ kwEs (a3i.take i)->(KK.sc Sc.str).has a=true:=fun a b hab=>by
   simp only [kwEs,List.mem_map] at hab
   obtain ⟨s,_,q⟩:=hab
   cases q;rfl
  have hm:=e3m (a3i.take i) a3i[i] (e0p i hi')
  rw [a0p hi'] at hm
  simp [hi',List.getElem?_eq_getElem hi',rS,GH.a0b,GH.a0a,KK.has,Sc.has,hm,wrap_succ (n:=34) (show i < 34 by omega)]
  refine ⟨fun a b hab=>hk a b hab,NX.go (i+1) (by omega) (by omega) (by simp [GH.a1v])⟩
 ·have:i=34:=by omega
  subst this
  have hl:a3i.take 34=a3i:=rfl
  rw [hl]
  exact fun hz=>⟨hz.drop (by simp [GH.a0a]),by simp [GH.a0a]⟩
theorem c2t {s:Str} (h:∀ j,j < s.size->97<=byteAt s (j:Nat)/\byteAt s (j:Nat)<=122):letters s=true:=by
 simp only [letters,List.all_eq_true,List.mem_range]
 exact fun j hj=>decide_eq_true (h j hj)
theorem b9b {s:Str} {j:Nat} (hj:j < s.size) (h:byteAt s (j:Nat) < 97 \/ 122 < byteAt s (j:Nat)):letters s=false:=by
 cases hl:letters s with
 | false=>rfl
 | true =>
  simp only [letters,List.all_eq_true,List.mem_range] at hl
  have:=of_decide_eq_true (hl j hj)
  omega
theorem e1z (s:Str) (hs:a2b s):AFun prog 158 [.d (.k (.string s))] (.d (.k (.bool (a5v s)))):=by
 have cc:=cx0_ok
 unfold a2b at hs
 refine AFun.body cx0_ok func158 rfl call158 (by rw [ntmps158];simp) rfl fun hf H=>?_
 simp [ntmps158,results158]
 refine AW.a0w cc (fun i:Nat=>⟨[(0,.d (.k (.string s))),(5,lvI s.size),(6,lvI i)],[],H⟩) (fun i=>s.size - i) (fun i=>i<=s.size/\∀ j,j < i->97<=byteAt s (j:Nat)/\byteAt s (j:Nat)<=122) 0 (by simp) fun i hi=>?_
 simp
 refine ⟨fun h=>⟨h,fun q=>⟨q,h⟩,fun q=>by simp [a5v,b9b h q],fun q1 q2=>?_⟩,fun h=>?_⟩
 ·refine NX.go (i+1) (by omega) ⟨h,fun j hj=>?_⟩ (by simp [wrap_succ h (show s.size<=9223372036854775807 by omega)])
  by_cases e:j=i
  ·subst e;exact ⟨q1,q2⟩
  ·exact hi.2 j (by omega)
 ·have hl:letters s=true:=c2t fun j hj=>hi.2 j (by omega)
  by_cases hc:0 < s.size/\s.size<=8
  ·have h8:(s.size:Int)<=8:=by omega
   have h9:¬ 8 < (s.size:Int):=by omega
   simp [hc.1,h8,h9]
   refine EC.of (c4e H) (fun v H' hR=>?_) (fun v H' hR=>?_)
   ·obtain ⟨q,rfl⟩:=hR
    cases q
    simp [hc.1,h8,h9,GH.a0b,GH.a0a,e3p]
    refine ⟨⟨rfl,fun a b hab=>f3i _ a b hab⟩,?_⟩
    refine ⟨?_,fun n hn e=>by omega⟩
    have h1:1<=s.size:=hc.1
    simp [a5v,h1,hc.2,hl]
   ·cases hR.1
  ·by_cases h0:0 < s.size
   ·have h8:¬ (s.size:Int)<=8:=by omega
    simp [h0,h8,a5v]
    intros;omega
   ·simp [h0,a5v]
    intros;omega
end Go.Aft
end
