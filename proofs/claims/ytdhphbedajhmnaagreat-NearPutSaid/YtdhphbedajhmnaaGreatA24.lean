import Derived.Test.YtdhphbedajhmnaaGreatA21
import Derived.Test.YtdhphbedajhmnaaGreatA23
set_option linter.all false
section
set_option maxRecDepth 20000
namespace Go.Aft
open Go.Proofs.Tryz
theorem hasAll_int {ks:List Sc} {vs:List Value} (h:hasAll (.int .i64 :: ks) vs=true):∃ a us,vs=.int .i64 a :: us/\hasAll ks us=true:=by
 cases vs with
 | nil=>simp [hasAll] at h
 | cons v us =>
  simp only [hasAll,Bool.and_eq_true] at h
  cases v <;> simp [Sc.has] at h
  obtain ⟨rfl,h⟩:=h
  exact ⟨_,us,rfl,h⟩
theorem hasAll_nil {vs:List Value} (h:hasAll [] vs=true):vs=[]:=by
 cases vs with
 | nil=>rfl
 | cons v us=>simp [hasAll] at h
theorem hasAll_bool {ks:List Sc} {vs:List Value} (h:hasAll (.bool :: ks) vs=true):∃ a us,vs=.bool a :: us/\hasAll ks us=true:=by
 cases vs with
 | nil=>simp [hasAll] at h
 | cons v us =>
  simp only [hasAll,Bool.and_eq_true] at h
  cases v <;> simp [Sc.has] at h
  exact ⟨_,us,rfl,h⟩
def CmpAt (m:Nat) (t:TypeId) (ks:List Sc):Prop:=∀ (d:Nat) (xs ys:List Value) (off:Nat) (w:World),hasAll ks ((xs.drop off).take ks.length)=true->hasAll ks ((ys.drop off).take ks.length)=true ->
 ∃ a b,(∀ w,(part t xs.toArray off).run prog w=.ok a w)/\(∀ w,(part t ys.toArray off).run prog w=.ok b w)/\(Op.equalIn (d+m+1) t a b).run prog w=.ok (allEq ((xs.drop off).take ks.length) ((ys.drop off).take ks.length)) w/\∀ em w,(Instr.checkKey em (d+m+1) t a).run prog w=.ok () w
theorem take1 {xs:List Value} {off:Nat} {v:Value} (h:(xs.drop off).take 1=[v]):xs[off]?=some v:=by
 have:=congrArg (fun l=>l[0]?) h
 simpa using this
theorem cmp_int {m:Nat} {t:TypeId} (hu:prog.underlying t=some (.int .i64)):CmpAt m t [.int .i64]:=by
 intro d xs ys off w h1 h2
 obtain ⟨a,us,e1,e2⟩:=hasAll_int h1
 obtain ⟨b,us',e3,e4⟩:=hasAll_int h2
 have:=hasAll_nil e2;subst this
 have:=hasAll_nil e4;subst this
 have x1:=take1 e1
 have x2:=take1 e3
 have ha:∀ w,(isAgg t).run prog w=.ok false w:=fun w=>by simp [isAgg,run_underlying hu]
 refine ⟨.int .i64 a,.int .i64 b,fun w=>by simp [part,ha,x1],fun w=>by simp [part,ha,x2],?_⟩
 have r:=run_equalIn_int w (d+m) t .i64 .i64 a b hu
 rw [show ([Sc.int IntKind.i64]:List Sc).length=1 from rfl] at *
 rw [e1,e3,r]
 refine ⟨by simp [allEq,scEq],fun em w=>?_⟩
 simp [Instr.checkKey,run_underlying hu]
theorem cmp_bool {m:Nat} {t:TypeId} (hu:prog.underlying t=some .bool):CmpAt m t [.bool]:=by
 intro d xs ys off w h1 h2
 obtain ⟨a,us,e1,e2⟩:=hasAll_bool h1
 obtain ⟨b,us',e3,e4⟩:=hasAll_bool h2
 have:=hasAll_nil e2;subst this
 have:=hasAll_nil e4;subst this
 have x1:=take1 e1
 have x2:=take1 e3
 have ha:∀ w,(isAgg t).run prog w=.ok false w:=fun w=>by simp [isAgg,run_underlying hu]
 refine ⟨.bool a,.bool b,fun w=>by simp [part,ha,x1],fun w=>by simp [part,ha,x2],?_⟩
 have r:=run_equalIn_bool' w (d+m) t a b hu
 rw [show ([Sc.bool]:List Sc).length=1 from rfl] at *
 rw [e1,e3,r]
 refine ⟨by simp [allEq,scEq],fun em w=>?_⟩
 simp [Instr.checkKey,run_underlying hu]
theorem hasAll_len:∀ {ks:List Sc} {vs:List Value},hasAll ks vs=true->vs.length=ks.length
 | [],vs,h=>by rw [hasAll_nil h];rfl
 | k :: ks,[],h=>by simp [hasAll] at h
 | k :: ks,v :: vs,h=>by simp only [hasAll,Bool.and_eq_true] at h;simp [hasAll_len h.2]
theorem hasAll_append:∀ {ks js:List Sc} {vs us:List Value},vs.length=ks.length->(hasAll (ks ++ js) (vs ++ us)=true ↔ hasAll ks vs=true/\hasAll js us=true)
 | [],js,[],us,_=>by simp [hasAll]
 | k :: ks,js,v :: vs,us,h=>by simp only [List.cons_append,hasAll,Bool.and_eq_true,hasAll_append (Nat.succ.inj h),and_assoc]
theorem allEq_append:∀ {a b c d:List Value},a.length=c.length->allEq (a ++ b) (c ++ d)=(allEq a c && allEq b d)
 | [],b,[],d,_=>by simp [allEq]
 | x :: a,b,y :: c,d,h=>by simp only [List.cons_append,allEq,allEq_append (Nat.succ.inj h),Bool.and_assoc]
inductive Row (m:Nat):Nat->List Field->List Sc->Prop
 | nil (off:Nat):Row m off [] []
 | cons (off : Nat) (f : Field) (ks : List Sc) (fs : List Field) (js : List Sc) (h1 : f.name ≠ "_") (h2 : f.offset = off) (h3 : CmpAt m f.type ks) (h : Row m (off + ks.length) fs js) : Row m off (f :: fs) (ks ++ js)
theorem Row.run {m off:Nat} {fs:List Field} {ks:List Sc} (h:Row m off fs ks):∀ (d:Nat) (xs ys:List Value) (w:World),hasAll ks ((xs.drop off).take ks.length)=true->hasAll ks ((ys.drop off).take ks.length)=true ->
  (Op.eqFields (d+m+1) xs.toArray ys.toArray fs).run prog w=.ok (allEq ((xs.drop off).take ks.length) ((ys.drop off).take ks.length)) w:=by
 induction h with
 | nil off=>intro d xs ys w _ _;simp [Op.eqFields,allEq]
 | cons off f ks fs js h1 h2 h3 h ih =>
  intro d xs ys w g1 g2
  have spl:∀ zs:List Value,(zs.drop off).take (ks ++ js).length=(zs.drop off).take ks.length ++ (zs.drop (off+ks.length)).take js.length:=fun zs=>by
   rw [List.length_append,List.take_add,List.drop_drop]
  have len:∀ zs:List Value,hasAll (ks ++ js) ((zs.drop off).take (ks ++ js).length)=true->((zs.drop off).take ks.length).length=ks.length:=fun zs g=>by
   have:=hasAll_len g
   simp only [List.length_take,List.length_append] at this |-;omega
  have l1:=len xs g1
  have l2:=len ys g2
  rw [spl] at g1 g2 |-
  rw [spl]
  rw [hasAll_append l1] at g1
  rw [hasAll_append l2] at g2
  obtain ⟨a,b,p1,p2,p3,p4⟩:=h3 d xs ys off w g1.1 g2.1
  rw [allEq_append (by rw [l1,l2])]
  simp only [Op.eqFields,h1,ne_eq,not_false_eq_true,if_true,h2,Sem.run_bind,p1,p2,p3,Result.andThen_ok]
  have:=ih d xs ys w g1.2 g2.2
  cases allEq ((xs.drop off).take ks.length) ((ys.drop off).take ks.length) with
  | false=>simp
  | true=>simp [this]
theorem Row.keys {m off:Nat} {fs:List Field} {ks:List Sc} (h:Row m off fs ks):∀ (d:Nat) (em:Bool) (xs:List Value) (w:World),hasAll ks ((xs.drop off).take ks.length)=true ->
  (forIn (m:=Sem) fs PUnit.unit fun f r=>do
   if f.name ≠ "_" then do
    let v <- part f.type xs.toArray f.offset
    Instr.checkKey em (d+m+1) f.type v
    pure (ForInStep.yield PUnit.unit)
   else pure (ForInStep.yield PUnit.unit)).run prog w=.ok PUnit.unit w:=by
 induction h with
 | nil off=>intro d em xs w _;simp
 | cons off f ks fs js h1 h2 h3 h ih =>
  intro d em xs w g1
  have spl:∀ zs:List Value,(zs.drop off).take (ks ++ js).length=(zs.drop off).take ks.length ++ (zs.drop (off+ks.length)).take js.length:=fun zs=>by
   rw [List.length_append,List.take_add,List.drop_drop]
  have l1:((xs.drop off).take ks.length).length=ks.length:=by
   have:=hasAll_len g1
   simp only [List.length_take,List.length_append] at this |-;omega
  rw [spl,hasAll_append l1] at g1
  obtain ⟨a,b,p1,p2,p3,p4⟩:=h3 d xs xs off w g1.1 g1.1
  have:=ih d em xs w g1.2
  simp only [List.forIn_cons,h1,ne_eq,not_false_eq_true,if_true,h2,Sem.run_bind,p1,p4,Result.andThen_ok,Sem.run_pure]
  exact this
theorem take_all {ks:List Sc} {xs:List Value} (h:hasAll ks xs=true):(xs.drop 0).take ks.length=xs:=by
 rw [<- hasAll_len h];simp
theorem cmp_struct {m:Nat} {t:TypeId} {ks:List Sc} (ht:prog.underlying t=some (.struct (prog.fieldsOf t))) (hp:prog.stoodInHeld t=false) (hr:Row m 0 (prog.fieldsOf t).toList ks) (d:Nat) {xs ys:List Value} (w:World) (h1:hasAll ks xs=true) (h2:hasAll ks ys=true) :
  (Op.equalIn (d+m+2) t (.agg xs.toArray) (.agg ys.toArray)).run prog w=.ok (allEq xs ys) w:=by
 rw [run_equalIn_agg w (d+m+1) t _ _ ht hp]
 have:=hr.run d xs ys w (by rw [take_all h1];exact h1) (by rw [take_all h2];exact h2)
 rw [take_all h1,take_all h2] at this
 exact this
theorem key_struct {m:Nat} {t:TypeId} {ks:List Sc} (ht:prog.underlying t=some (.struct (prog.fieldsOf t))) (hr:Row m 0 (prog.fieldsOf t).toList ks) (d:Nat) {xs:List Value} (em:Bool) (w:World) (h1:hasAll ks xs=true) :
  (Instr.checkKey em (d+m+2) t (.agg xs.toArray)).run prog w=.ok () w:=by
 have:=hr.keys d em xs w (by rw [take_all h1];exact h1)
 rw [Instr.checkKey]
 simp only [Sem.run_bind,run_underlying ht,Result.andThen_ok]
 rw [<- Array.forIn_toList,this]
 rfl
theorem cmp_nested {m:Nat} {t:TypeId} {ks:List Sc} (ht:prog.underlying t=some (.struct (prog.fieldsOf t))) (hp:prog.stoodInHeld t=false) (hr:Row m 0 (prog.fieldsOf t).toList ks) (hz:∀ w,(sizeOf t).run prog w=.ok ks.length w):CmpAt (m+1) t ks:=by
 intro d xs ys off w h1 h2
 have ha:∀ w,(isAgg t).run prog w=.ok true w:=fun w=>by simp [isAgg,run_underlying ht]
 have hx:∀ zs:List Value,zs.toArray.extract off (off+ks.length)=((zs.drop off).take ks.length).toArray:=fun zs=>by
  simp [List.extract_eq_take_drop]
 refine ⟨.agg ((xs.drop off).take ks.length).toArray,.agg ((ys.drop off).take ks.length).toArray,fun w=>by simp [part,ha,hz,hx],fun w=>by simp [part,ha,hz,hx],?_⟩
 exact ⟨cmp_struct ht hp hr d w h1 h2,fun em w=>key_struct ht hr d em w h1⟩
def offs:List (TypeId × List Sc)->Nat->List (Bool × Nat × TypeId)
 | [],_=>[]
 | (t,ks) :: l,off=>(false,off,t) :: offs l (off+ks.length)
theorem Row.of {m : Nat} : ∀ (l : List (TypeId × List Sc)) (off : Nat) (fs : List Field), fs.map (fun f => (f.name == "_", f.offset, f.type)) = offs l off -> (∀ p ∈ l, CmpAt m p.1 p.2) -> Row m off fs (l.map (·.2)).flatten
 | [],off,fs,h,_=>by
  simp only [offs,List.map_eq_nil_iff] at h;subst h;exact .nil off
 | (t,ks) :: l,off,[],h,_=>by simp [offs] at h
 | (t,ks) :: l,off,f :: fs,h,hc=>by
  simp only [List.map_cons,offs,List.cons.injEq,Prod.mk.injEq] at h
  obtain ⟨⟨h1,h2,h3⟩,h4⟩:=h
  rw [List.map_cons,List.flatten_cons]
  exact .cons off f ks fs _ (by simpa using h1) h2 (by rw [h3];exact hc (t,ks) (by simp)) (Row.of l _ fs h4 fun p hp=>hc p (List.mem_cons_of_mem _ hp))
theorem row231:Row 0 0 (prog.fieldsOf 231).toList [.int .i64,.int .i64]:=Row.of [(3,[.int .i64]),(3,[.int .i64])] 0 _ (by kernel_rfl) (by simp;exact cmp_int underlying3)
theorem row27 {m:Nat}:Row m 0 (prog.fieldsOf 27).toList [.int .i64,.int .i64,.int .i64]:=Row.of [(3,[.int .i64]),(3,[.int .i64]),(3,[.int .i64])] 0 _ (by kernel_rfl) (by simp;exact cmp_int underlying3)
theorem row42:Row 0 0 (prog.fieldsOf 42).toList [.bool,.bool,.int .i64,.int .i64]:=Row.of [(4,[.bool]),(4,[.bool]),(3,[.int .i64]),(3,[.int .i64])] 0 _ (by kernel_rfl) (by simp;exact ⟨cmp_bool underlying4,cmp_int underlying3⟩)
theorem und27:prog.underlying 27=some (.struct (prog.fieldsOf 27)):=by kernel_rfl
theorem und42:prog.underlying 42=some (.struct (prog.fieldsOf 42)):=by kernel_rfl
theorem und53:prog.underlying 53=some (.struct (prog.fieldsOf 53)):=by kernel_rfl
theorem und231:prog.underlying 231=some (.struct (prog.fieldsOf 231)):=by kernel_rfl
theorem si27:prog.stoodInHeld 27=false:=by kernel_rfl
theorem si42:prog.stoodInHeld 42=false:=by kernel_rfl
theorem si53:prog.stoodInHeld 53=false:=by kernel_rfl
theorem si231:prog.stoodInHeld 231=false:=by kernel_rfl
theorem run_sizeOf27 (w:World):(sizeOf 27).run prog w=.ok 3 w:=by
 have h:(prog.info? 27).map (·.size)=some 3:=by kernel_rfl
 obtain ⟨i,h1,h2⟩:=Option.map_eq_some_iff.1 h
 simp [sizeOf,typeInfo,h1,h2]
theorem row53:Row 1 0 (prog.fieldsOf 53).toList [.int .i64,.int .i64,.int .i64,.int .i64,.int .i64,.int .i64,.int .i64]:=Row.of [(51,[.int .i64]),(3,[.int .i64]),(3,[.int .i64]),(3,[.int .i64]),(27,[.int .i64,.int .i64,.int .i64])] 0 _ (by kernel_rfl) (by
 simp
 exact ⟨cmp_int underlying51,cmp_int underlying3,cmp_nested (m:=0) und27 si27 row27 fun w=>run_sizeOf27 w⟩)
theorem und63:prog.underlying 63=some (.struct (prog.fieldsOf 63)):=by kernel_rfl
theorem si63:prog.stoodInHeld 63=false:=by kernel_rfl
theorem row63:Row 1 0 (prog.fieldsOf 63).toList [.int .i64,.int .i64,.int .i64,.int .i64,.int .i64]:=Row.of [(3,[.int .i64]),(3,[.int .i64]),(27,[.int .i64,.int .i64,.int .i64])] 0 _ (by kernel_rfl) (by
 simp
 exact ⟨cmp_int underlying3,cmp_nested (m:=0) und27 si27 row27 fun w=>run_sizeOf27 w⟩)
def eqTab (t:TypeId):Option (List Sc) :=
 if t=27 then some [.int .i64,.int .i64,.int .i64]
 else if t=42 then some [.bool,.bool,.int .i64,.int .i64]
 else if t=53 then some [.int .i64,.int .i64,.int .i64,.int .i64,.int .i64,.int .i64,.int .i64]
 else if t=231 then some [.int .i64,.int .i64]
 else if t=63 then some [.int .i64,.int .i64,.int .i64,.int .i64,.int .i64]
 else none
theorem eqTab_cases {T:TypeId} {ks:List Sc} (h:eqTab T=some ks):T=27/\ks=[.int .i64,.int .i64,.int .i64] \/ T=42/\ks=[.bool,.bool,.int .i64,.int .i64] \/ T=53/\ks=[.int .i64,.int .i64,.int .i64,.int .i64,.int .i64,.int .i64,.int .i64] \/ T=231/\ks=[.int .i64,.int .i64] \/ T=63/\ks=[.int .i64,.int .i64,.int .i64,.int .i64,.int .i64]:=by
 unfold eqTab at h
 split at h
 ·rename_i q;exact .inl ⟨q,(Option.some.inj h).symm⟩
 ·split at h
  ·rename_i q;exact .inr (.inl ⟨q,(Option.some.inj h).symm⟩)
  ·split at h
   ·rename_i q;exact .inr (.inr (.inl ⟨q,(Option.some.inj h).symm⟩))
   ·split at h
    ·rename_i q;exact .inr (.inr (.inr (.inl ⟨q,(Option.some.inj h).symm⟩)))
    ·split at h
     ·rename_i q;exact .inr (.inr (.inr (.inr ⟨q,(Option.some.inj h).symm⟩)))
     ·cases h
theorem eqTab_ok:EqOk prog eqTab:=by
 intro T ks h xs ys w h1 h2
 have gd:∀ {T:TypeId},prog.eqGuardType prog.depth T=false->∀ x y,(eqGuard .eql T x y (.agg xs.toArray) (.agg ys.toArray)).run prog w=.ok () w/\(eqGuard .neq T x y (.agg xs.toArray) (.agg ys.toArray)).run prog w=.ok () w:=fun hg x y=>⟨run_eqGuard_agg w _ _ x y _ _ hg,run_eqGuard_agg w _ _ x y _ _ hg⟩
 rcases eqTab_cases h with ⟨rfl,rfl⟩ | ⟨rfl,rfl⟩ | ⟨rfl,rfl⟩ | ⟨rfl,rfl⟩ | ⟨rfl,rfl⟩
 ·exact ⟨cmp_struct (m:=0) und27 si27 row27 9998 w h1 h2,gd (by kernel_rfl)⟩
 ·exact ⟨cmp_struct (m:=0) und42 si42 row42 9998 w h1 h2,gd (by kernel_rfl)⟩
 ·exact ⟨cmp_struct (m:=1) und53 si53 row53 9997 w h1 h2,gd (by kernel_rfl)⟩
 ·exact ⟨cmp_struct (m:=0) und231 si231 row231 9998 w h1 h2,gd (by kernel_rfl)⟩
 ·exact ⟨cmp_struct (m:=1) und63 si63 row63 9997 w h1 h2,gd (by kernel_rfl)⟩
theorem eqTab_key:KeyOk prog eqTab:=by
 intro T ks h xs w b h1
 rcases eqTab_cases h with ⟨rfl,rfl⟩ | ⟨rfl,rfl⟩ | ⟨rfl,rfl⟩ | ⟨rfl,rfl⟩ | ⟨rfl,rfl⟩
 ·exact key_struct (m:=0) und27 row27 9998 b w h1
 ·exact key_struct (m:=0) und42 row42 9998 b w h1
 ·exact key_struct (m:=1) und53 row53 9997 b w h1
 ·exact key_struct (m:=0) und231 row231 9998 b w h1
 ·exact key_struct (m:=1) und63 row63 9997 b w h1
@[simp] theorem eqTab27:eqTab 27=some [.int .i64,.int .i64,.int .i64]:=rfl
@[simp] theorem eqTab42:eqTab 42=some [.bool,.bool,.int .i64,.int .i64]:=rfl
@[simp] theorem eqTab53:eqTab 53=some [.int .i64,.int .i64,.int .i64,.int .i64,.int .i64,.int .i64,.int .i64]:=rfl
@[simp] theorem eqTab63:eqTab 63=some [.int .i64,.int .i64,.int .i64,.int .i64,.int .i64]:=rfl
@[simp] theorem eqTab231:eqTab 231=some [.int .i64,.int .i64]:=rfl
attribute [simp] eqAgg constsOf hasAll Sc.has allEq scEq
def cxS (pub:Nat->Kd):Cx:=⟨tyOf tyTab,eqTab,pub,fun _ _=>none,RD.any⟩
@[simp] theorem cxS_ty {p:Nat->Kd}:(cxS p).ty=tyOf tyTab:=rfl
@[simp] theorem cxS_eqt {p:Nat->Kd} (t:TypeId):(cxS p).eqt t=eqTab t:=rfl
@[simp] theorem cxS_pub {p:Nat->Kd} (t:Nat):(cxS p).pub t=p t:=rfl
@[simp] theorem cxS_spec {p:Nat->Kd} (f:FuncId) (a:List LV):(cxS p).spec f a=none:=rfl
@[simp] theorem cxS_rd {p:Nat->Kd}:(cxS p).rd=RD.any:=rfl
theorem cxS_ok {p:Nat->Kd}:(cxS p).ok prog:=⟨tyTab_ok,eqTab_ok,eqTab_key,fun f args pre v h=>(by cases h),(by kernel_rfl)⟩
end Go.Aft
end
section
set_option maxRecDepth 20000
namespace Go.Aft
open Go.Proofs.Tryz
theorem ref02_in (n lo hi:Int):AFun prog 250 [lvI n,lvI lo,lvI hi] (.d (.k (.bool (decide (lo<=n) && decide (n<=hi))))):=by
 refine AFun.body cx0_ok func250 rfl call250 (by rw [ntmps250];simp) rfl fun _ H=>?_
 simp [ntmps250,results250]
def cntV (o:Option Int) (left:Int):Int:=match o with
 | some l=>left - l
 | none=>-1
theorem ref02_calc1 (op cn:Int) (kids:List Calc) (other:Bool)
  (ih:∀ k ∈ kids,∀ depth left:Int,0<=depth->left<=1000->AFun prog 251 [lv (rCalc k),.d (.k (.bool other)),lvI depth,lvI left] (lvI (cntV (lCalc other k depth left) left)))
  (depth left:Int) (hd:0<=depth) (hl:left<=1000):AFun prog 251 [lv (rCalc (.mk op cn kids)),.d (.k (.bool other)),lvI depth,lvI left] (lvI (cntV (lCalc other (.mk op cn kids) depth left) left)):=by
 have cc:=cxK_ok (p:=kds [4] [] [])
 refine AFun.bodyW (cxK_ok (p:=kds [4] [] [])) func251 rfl call251 (by rw [ntmps251];simp) rfl fun hf H=>?_
 simp [ntmps251,results251,rCalc_eq,Calc.op,Calc.n,Calc.kids] at hf |-
 refine AW.seq cc ?_
 simp
 refine AW.seq cc ?_
 simp
 refine ⟨fun h=>by rw [lCalc,if_neg (by omega)];rfl,fun h1 h2=>?_⟩
 have hno:calcOk other op cn kids.length ≠ true->cntV (lCalc other (.mk op cn kids) depth left) left = -1:=fun hq=>by rw [lCalc,if_neg (by rintro ⟨_,_,q⟩;exact hq q)];rfl
 refine AW.seq cc ?_
 simp
 refine AW.join (c:=cxK (kds [4] [] [])) (fun k:Int=>⟨[(1,.d (.k (.bool other))),(2,lvI depth),(3,lvI left),(4,.ip [.d (.k (.int .i64 op)),.d (.k (.int .i64 cn)),.d (.sl (kids.map rCalc))] 0),(9,lvI 1),(10,lvI k)],[],H⟩)
  (fun k=>(op=1/\-1000000000<=cn/\cn<=1000000000 \/ op=2 \/ op=3 \/ op=4 \/ op=5/\other=true)/\k=0 \/ 6<=op/\op<=10/\k=2) (AW.ev cc ?_) fun k hk=>?_
 ·have hop:(op=2 \/ op=3 \/ op=4) \/ (op=6 \/ op=7 \/ op=8 \/ op=9 \/ op=10) \/ op=1 \/ op=5 \/ (op < 1 \/ 10 < op):=by omega
  rcases hop with h | h | rfl | rfl | h
  ·rcases h with rfl | rfl | rfl
   all_goals simp;exact JN.go 0 (by simp) (by simp)
  ·rcases h with rfl | rfl | rfl | rfl | rfl
   all_goals simp;exact JN.go 2 (by simp) (by simp)
  ·simp
   refine EC.afun (ref02_in _ _ _) ?_
   simp
   refine ⟨fun q=>?_,fun q1 q2=>JN.go 0 (by simp;omega) (by simp)⟩
   rw [hno (by simp [calcOk];omega)]
  ·simp
   refine ⟨fun q=>?_,fun q=>JN.go 0 (by simp [q]) (by simp)⟩
   rw [hno (by simp [calcOk,q])]
  ·have e1:op ≠ 1:=by omega
   have e2:op ≠ 2:=by omega
   have e3:op ≠ 3:=by omega
   have e4:op ≠ 4:=by omega
   have e5:op ≠ 5:=by omega
   have e6:op ≠ 6:=by omega
   have e7:op ≠ 7:=by omega
   have e8:op ≠ 8:=by omega
   have e9:op ≠ 9:=by omega
   have e10:op ≠ 10:=by omega
   simp [e1,e2,e3,e4,e5,e6,e7,e8,e9,e10]
   rw [hno (by unfold calcOk;rw [if_neg e1,if_neg (by omega),if_neg e5];simp;omega)]
 ·refine AW.seq cc ?_
  simp
  have hok:∀ q:(kids.length:Int)=k,(op=1 \/ cn=0)->calcOk other op cn kids.length=true:=fun q q2=>by
   unfold calcOk
   split
   ·exact decide_eq_true (by omega)
   ·split
    ·exact decide_eq_true (by omega)
    ·split
     ·refine decide_eq_true ⟨?_,by omega,by omega⟩
      rcases hk with ⟨h | h | h | h | h,_⟩ | h <;> first | exact h.2 | omega
     ·exact decide_eq_true (by omega)
  refine ⟨fun q=>⟨q,fun q2=>⟨q,q2⟩⟩,fun q=>?_,fun q1 q2=>?_⟩
  ·rw [hno]
   intro hq
   unfold calcOk at hq
   have hn:op ≠ 1->cn ≠ 0->False:=fun q1 q2=>by
    rw [if_neg q1] at hq
    split at hq
    ·exact q2 (of_decide_eq_true hq).1
    ·split at hq
     ·exact q2 (of_decide_eq_true hq).2.1
     ·exact q2 (of_decide_eq_true hq).2.2.1
   have hl:(kids.length:Int)=k:=by
    split at hq
    ·have:=of_decide_eq_true hq;omega
    ·split at hq
     ·have:=of_decide_eq_true hq;omega
     ·split at hq
      ·have:=of_decide_eq_true hq;omega
      ·have:=of_decide_eq_true hq;omega
   rcases q with q | q
   ·exact q hl
   ·exact hn q.1 q.2
  have hsp:lCalc other (.mk op cn kids) depth left=lCalcs other kids (depth+1) (left - 1):=by
   rw [lCalc,if_pos ⟨by omega,by omega,hok q1 (by omega)⟩]
  rw [hsp]
  have w1:IntKind.wrap .i64 (depth+1)=depth+1:=by rw [wrap64] <;> omega
  refine AW.ev cc ?_
  simp
  refine AW.loopS cc (fun a:Nat × Int=>⟨[(1,.d (.k (.bool other))),(2,lvI depth),(3,lvI left),(4,.ip [.d (.k (.int .i64 op)),.d (.k (.int .i64 cn)),.d (.sl (kids.map rCalc))] 0),(9,lvI (left - a.2)),(10,lvI k),(11,lvI a.1)],[],H⟩) (fun a=>kids.length - a.1)
   (fun a=>a.1<=kids.length/\0<=a.2/\a.2<=left - 1/\lCalcs other kids (depth+1) (left - 1)=lCalcs other (kids.drop a.1) (depth+1) a.2) (0,left - 1) ⟨⟨by simp,by simp;omega,by simp,by simp⟩,by simp [show left - (left - 1)=1 by omega]⟩ ?_
  rintro ⟨i,lf⟩ ⟨hi,hl0,hl1,hI⟩
  simp only at hi hl0 hl1 hI
  simp
  refine ⟨fun h=>?_,fun h=>?_⟩
  ·have h:i < kids.length:=by omega
   have hd:=List.drop_eq_getElem_cons h
   rw [hd,lCalcs] at hI
   have w2:IntKind.wrap .i64 (left - (left - lf))=lf:=by rw [wrap64] <;> omega
   simp [h,List.getElem?_eq_getElem h,rCalc_eq,w1,w2]
   refine EC.afun (by simpa [rCalc_eq] using ih kids[i] (List.getElem_mem h) (depth+1) lf (by omega) (by omega)) ?_
   cases hl:lCalc other kids[i] (depth+1) lf with
   | none =>
    rw [hl] at hI
    simp [cntV]
    rw [hI]
   | some l =>
    rw [hl] at hI
    have hle:=lCalc_le _ _ _ _ hl
    have w3:IntKind.wrap .i64 (left - lf+(lf - l))=left - l:=by rw [wrap64] <;> omega
    simp [cntV,w3]
    refine ⟨fun q=>by omega,fun q=>NX.go (i+1,l) (by simp;omega) ⟨h,hle.1,by simp only;omega,hI⟩ (by simp [wrap_succ h hf.1])⟩
  ·have:kids.drop i=[]:=List.drop_eq_nil_of_le (by omega)
   rw [this,lCalcs] at hI
   rw [hI];simp [cntV]
theorem ref02_calc (other:Bool):∀ (c:Calc) (depth left:Int),0<=depth->left<=1000->AFun prog 251 [lv (rCalc c),.d (.k (.bool other)),lvI depth,lvI left] (lvI (cntV (lCalc other c depth left) left))
 | .mk op cn kids,depth,left,hd,hl=>ref02_calc1 op cn kids other (fun k hk depth left hd hl=>ref02_calc other k depth left hd hl) depth left hd hl
end Go.Aft
end
section
set_option maxRecDepth 20000
namespace Go.Aft
open Go.Proofs.Tryz
mutual
theorem thaw_nb {n g sz N:Nat} {rows:List (List DV)} (h:N<=n):∀ x:LV,x.nb N->x.thaw n g sz rows=x
 | .vs m g' sz' i len,hx=>by
  simp only [LV.nb] at hx
  simp only [LV.thaw]
  rw [if_neg (by rintro ⟨rfl,_⟩;omega)]
 | .fn f first cap,hx=>by simp only [LV.nb] at hx;simp only [LV.thaw,thaws_nb h _ hx.1,thaws_nb h _ hx.2]
 | .agg xs,hx=>by simp only [LV.nb] at hx;simp only [LV.thaw,thaws_nb h _ hx]
 | .tup xs,hx=>by simp only [LV.nb] at hx;simp only [LV.thaw,thaws_nb h _ hx]
 | .gd _ _,_ | .d _,_ | .lp _ _,_ | .gp _ _,_ | .ep _ _ _ _,_ | .osl _ _,_ | .gm _,_ | .vp _ _ _,_ | .yl _,_ | .ip _ _,_ | .any,_=>by simp only [LV.thaw]
theorem thaws_nb {n g sz N:Nat} {rows:List (List DV)} (h:N<=n):∀ xs:List LV,nbs N xs->thaws n g sz rows xs=xs
 | [],_=>by simp only [thaws]
 | x :: xs,hx=>by simp only [nbs] at hx;simp only [thaws,thaw_nb h x hx.1,thaws_nb h xs hx.2]
end
theorem GO.thaw_nb {n g sz N:Nat} {rows:List (List DV)} (h:N<=n) {o:GO} (ho:o.nb N):o.thaw n g sz rows=o:=by
 cases o with
 | box cs=>simp only [GO.nb] at ho;simp only [GO.thaw,thaws_nb h _ ho]
 | vec e g' sz' cells ex=>simp only [GO.nb] at ho;simp only [GO.thaw,thaws_nb h _ ho]
 | _=>rfl
def two (H:GH) (a b:List LV):GH:=⟨fun m=>if m=H.next+1 then some (.box b) else if m=H.next then some (.box a) else H.obj m,H.next+2⟩
theorem two_add (H:GH) (a b:List LV):(H.add (.box a)).add (.box b)=two H a b:=by
 simp only [two,GH.add]
 congr 1
@[simp] theorem two_next {H:GH} {a b:List LV}:(two H a b).next=H.next+2:=rfl
@[simp] theorem two_0 {H:GH} {a b:List LV}:(two H a b).obj H.next=some (.box a):=by simp [two]
@[simp] theorem two_1 {H:GH} {a b:List LV}:(two H a b).obj (H.next+1)=some (.box b):=by simp [two]
theorem two_lt {H:GH} {a b:List LV} {m:Nat} (h:m < H.next):(two H a b).obj m=H.obj m:=by
 simp only [two];rw [if_neg (by omega),if_neg (by omega)]
@[simp] theorem two_set0 {H:GH} {a b c:List LV}:(two H a b).set H.next (.box c)=two H c b:=by
 simp only [two,GH.set];congr 1;funext m;unfold upd;split <;> simp_all
@[simp] theorem two_set1 {H:GH} {a b c:List LV}:(two H a b).set (H.next+1) (.box c)=two H a c:=by
 simp only [two,GH.set];congr 1;funext m;unfold upd;split <;> simp_all
theorem EC.need {P:Program} {f:FuncId} {args:List LV} {H H1:GH} {s:S} {dst:Option Nat} {K:KT} {Q:QT} {b:Prop} [Decidable b] {x:LV} (h:ECall P f args H fun ce H'=>H'=H1/\(if b then ∃ v,ce=.ret v else ce=.pan x))
  (hk:b->∀ v,@AP K (({ s with H:=H1 }:S).put dst v)) (hp:¬ b->Q.q (.pan x) { s with H:=H1 }):@EC P f args H s dst K Q:=by
 refine EC.of h (fun v H' hR=>?_) (fun v H' hR=>?_)
 ·obtain ⟨rfl,hR⟩:=hR
  by_cases hb:b
  ·exact hk hb v
  ·rw [if_neg hb] at hR;cases hR
 ·obtain ⟨rfl,hR⟩:=hR
  by_cases hb:b
  ·rw [if_pos hb] at hR;obtain ⟨_,e⟩:=hR;cases e
  ·rw [if_neg hb] at hR;cases hR;exact hp hb
@[simp] theorem twoA_set0 {H:GH} {a b c:List LV} {o:GO}:((two H a b).add o).set H.next (.box c)=(two H c b).add o:=by
 simp only [two,GH.set,GH.add];congr 1;funext m;unfold upd;split <;> simp_all <;> omega
@[simp] theorem twoA_set1 {H:GH} {a b c:List LV} {o:GO}:((two H a b).add o).set (H.next+1) (.box c)=(two H a c).add o:=by
 simp only [two,GH.set,GH.add];congr 1;funext m;unfold upd;split <;> simp_all <;> omega
@[simp] theorem twoA_set2 {H:GH} {a b:List LV} {o o':GO}:((two H a b).add o).set (H.next+2) o'=(two H a b).add o':=by
 simp only [two,GH.set,GH.add];congr 1;funext m;unfold upd;split <;> simp_all
@[simp] theorem twoA_0 {H:GH} {a b:List LV} {o:GO}:((two H a b).add o).obj H.next=some (.box a):=by simp [two,GH.add,upd]
@[simp] theorem twoA_1 {H:GH} {a b:List LV} {o:GO}:((two H a b).add o).obj (H.next+1)=some (.box b):=by simp [two,GH.add,upd]
@[simp] theorem twoA_2 {H:GH} {a b:List LV} {o:GO}:((two H a b).add o).obj (H.next+2)=some o:=by simp [two,GH.add,upd]
@[simp] theorem twoA_next {H:GH} {a b:List LV} {o:GO}:((two H a b).add o).next=H.next+3:=rfl
theorem flatD_len (l:List Calc):(flatD (l.map rCalc)).length=l.length * 3:=by
 induction l with
 | nil=>rfl
 | cons c l ih=>simp [flatD] at ih |-;omega
theorem flatD_append (a b:List (List DV)):flatD (a ++ b)=flatD a ++ flatD b:=by simp [flatD]
def shSt (H:GH) (n fold:Int) (terms:List Calc) (g:Nat):GH:=match terms with
 | []=>two H [lvI 0,lvI n,lvI fold,.d (.k (.slice none 0 0))] [lvI 0]
 | _=>(two H [lvI 0,lvI n,lvI fold,.vs (H.next+2) g 3 0 terms.length] [lvI 0]).add (.vec 135 g 3 (flatD (terms.map rCalc)) false)
def shapedV (p:Prog) (e:Exp):LV:=.tup [lv (rShape (plainOf p e).1),lvI (if (plainOf p e).2=true then 0 else 7)]
theorem near_shaped (p:Prog) (d:Nat) (hd:d < p.defs.length) (h8:p.defs[d].exp.op=8->∃ k ks,p.defs[d].exp.kids=k :: ks/\WOk 1000 k) :
  AFun prog 48 [lv (rProg p),lvI d] (shapedV p p.defs[d].exp):=by
 intro H
 have cc:=cxK_ok (p:=kds [2] [4,5] [42])
 have hI:=fun s=>slices_Index p.srcs s
 refine ECall.bodyNW (cxK_ok (p:=kds [2] [4,5] [42])) func48 rfl call48 (by rw [ntmps48];simp) rfl fun hf hw=>?_
 simp [ntmps48,results48,rProg,rDef,rExp_eq,hd,List.getElem?_eq_getElem hd] at hf hI |-
 have hpan:∀ (Q:DM->GH->Prop) (a b:List LV),a.length=4->b.length=1->(Q (.rec_ notPlain) (two H [lvI 0,lvI 0,lvI 0,.d (.k (.slice none 0 0))] [lvI 7]))->ADCall prog 84 [.gp H.next 0,.gp (H.next+1) 0] (two H a b) (.pan notPlain) Q :=
  fun Q a b ha hb hq=>shaped1_pan H.next (H.next+1) a b (two H a b) (by omega) (by simp) (by simp) ha hb Q (by simpa using hq)
 have hend:∀ a b,Drop H (two H a b) H:=fun a b=>Drop_same (by simp) (fun m hm=>two_lt hm) hw.none
 refine AW.seq cc ?_
 simp [two_add,GH.add_next]
 refine AW.seq cc ?_
 simp
 refine ⟨rfl,AW.seq cc ?_⟩
 simp [hd,rDef,rExp_eq,List.getElem?_eq_getElem hd]
 generalize p.defs[d].exp=e at h8 |-
 refine AW.seq cc ?_
 simp
 refine EC.need (near_need _ _) (fun h v=>?_) (fun h=>?_)
 rotate_left
 ·have h':e.op ≠ 8:=by simpa using h
  simp
  refine fun hz=>hpan _ _ _ rfl rfl ?_
  simp
  exact ⟨hend _ _,by simp [shapedV,plainOf,h',shape0,rShape]⟩
 have h':e.op=8:=by simpa using h
 obtain ⟨k,ks,hk,hw'⟩:=h8 h'
 simp
 refine AW.seq cc ?_
 simp
 refine AW.seq cc ?_
 simp [hk,rExp_eq]
 refine AW.loopS cc (fun a:Nat × Exp × List Calc × Nat=>⟨[(2,.ip [.d (.sl (p.srcs.map rS)),.d (.sl (p.defs.map rDef))] 0),(4,.gp H.next 0),(5,.gp (H.next+1) 0),(6,.lp 6 0)],
  [(6,(rExp a.2.1).map .d)],shSt H e.n e.fold a.2.2.1 a.2.2.2⟩) (fun a=>a.1)
  (fun a=>WOk a.1 a.2.1/\a.2.2.1.length+a.1<=1000/\strip k=(a.2.2.1 ++ (strip a.2.1).1,(strip a.2.1).2)) (1000,k,[],0) ⟨⟨hw',by simp,by simp⟩,by simp [rExp_eq,shSt]⟩ ?_
 rintro ⟨dd,e',l1,g⟩ ⟨hw'',hlen,hst⟩
 simp only at hw'' hlen hst
 simp [rExp_eq]
 refine ⟨fun h5=>?_,fun h5=>?_⟩
 ·cases hw'' with
  | other _ _ hne=>exact absurd h5 hne
  | where_ d' name n fold c cs k' ks' hk' =>
   refine AW.draw cc [] (.q 0<|.q 2<|.q 7<|.q 1<|.q 3<|.q 4<|.q 5<|.q 6<|.f<|.one 8<|.q 9<|.q 11<|.f (.cons 10 (.f<|.one 12<|.done) (.cons 12 (.f<|.one 10<|.done) (.nil)))) (by kernel_rfl) ?_
   cases l1 with
   | nil =>
    simp [rCalc_eq,shSt]
    refine APK.ev ?_
    simp [flatD,rExp_eq]
    have nx:strip k=([c] ++ (strip k').1,(strip k').2):=by rw [hst];simp [strip,stripL]
    exact NX.go (d',k',[c],0) (by simp) ⟨hk',by simp at hlen |-;omega,nx⟩ (by simp [shSt,flatD,rCalc_eq,rExp_eq])
   | cons c1 l1 =>
    obtain ⟨F,hF,hFl⟩:∃ F,F=flatD ((c1 :: l1).map rCalc)/\F.length=(l1.length+1) * 3:=⟨_,rfl,by simp only [flatD_len,List.length_cons]⟩
    simp only [shSt,<- hF]
    simp [rCalc_eq]
    refine APK.ev ?_
    have hg:¬ ((l1.length+1+1) * 3<=(l1.length+1) * 3):=by omega
    have t1:F.take ((l1.length+1) * 3)=F:=List.take_of_length_le (by omega)
    have t2:∀ x:List LV,(F ++ x).take ((l1.length+1) * 3)=F:=fun x=>by rw [List.take_append_of_le_length (by omega),t1]
    have t3:∀ x:List LV,x.length=3->(F ++ x).drop ((l1.length+1) * 3+3)=[]:=fun x hx=>List.drop_eq_nil_of_le (by simp;omega)
    have hb:l1.length<=34359738366:=by simp at hlen;omega
    simp [flatD,hFl,rExp_eq,hg,t1,t2,t3,hb]
    refine ⟨by omega,?_⟩
    have nx:strip k=(c1 :: l1 ++ [c] ++ (strip k').1,(strip k').2):=by rw [hst];simp [strip,stripL]
    refine NX.go (d',k',c1 :: l1 ++ [c],g+1) (by simp) ⟨hk',by simp at hlen |-;omega,nx⟩ ?_
    have hF2:flatD ((c1 :: l1 ++ [c]).map rCalc)=F ++ [LV.d (DV.k (Value.int IntKind.i64 c.op)),LV.d (DV.k (Value.int IntKind.i64 c.n)),LV.d (DV.sl (List.map rCalc c.kids))]:=by
     rw [List.map_append,flatD_append,<- hF];simp [flatD,rCalc_eq]
    simp only [shSt,List.cons_append] at hF2 |-
    rw [hF2]
    simp [rExp_eq]
 ·have hs':strip e'=([],e'):=by
   obtain ⟨op,name,n,fold,calcs,kids⟩:=e'
   rw [strip,if_neg (by simpa using h5)]
  have hsk:stripL e.kids=(l1,e'):=by rw [hk,stripL,hst,hs'];simp
  obtain ⟨H2,T,hnx,hlt,ho0,ho1,hT,hgo⟩:∃ (H2:GH) (T:DV),H.next<=H2.next/\(∀ m,m < H.next->H2.obj m=H.obj m)/\H2.obj H.next=some (.box [lvI 0,lvI e.n,lvI e.fold,.d T])/\H2.obj (H.next+1)=some (.box [lvI 0])/\(T=.k (.slice none 0 0)/\l1=[] \/ T=.sl (l1.map rCalc)) /\
    ∀ {x:Code} {Q:QT} {s:S},s.H=shSt H e.n e.fold l1 g->(∀ t,s.env t=.d (.k (.int .i64 e'.op)) \/ s.env t=.d (.k (.bool (e'.op == 5))) \/ (∃ k off,s.env t=.lp k off) \/ (∃ k off,s.env t=.gp k off) \/ (∃ c off,s.env t=.ip c off) \/ s.env t=.any)->(∀ k,s.L k=boxL [(6,(rExp e').map .d)] k)->@AW prog RD.any ⟨x⟩ { s with H:=H2 } Q->@AW prog RD.any ⟨x⟩ s Q:=by
   cases l1 with
   | nil=>exact ⟨two H [lvI 0,lvI e.n,lvI e.fold,.d (.k (.slice none 0 0))] [lvI 0],.k (.slice none 0 0),by simp,fun m hm=>two_lt hm,by simp,by simp,.inl ⟨rfl,rfl⟩,fun {x Q s} h1 _ _ h2=>by
     obtain ⟨env,L,Hs,nt,df⟩:=s
     simp only [shSt] at h1;subst h1;exact h2⟩
   | cons c1 l1 =>
    refine ⟨(shSt H e.n e.fold (c1 :: l1) g).thaw (H.next+2) g 3 ((c1 :: l1).map rCalc),.sl ((c1 :: l1).map rCalc),by simp [shSt],fun m hm=>?_,?_,?_,.inr rfl,fun {x Q s} h1 he hL h2=>?_⟩
    ·simp only [GH.thaw]
     rw [if_neg (by omega)]
     have:(shSt H e.n e.fold (c1 :: l1) g).obj m=H.obj m:=by
      simp only [shSt,GH.add_obj];rw [if_neg (by simp;omega),two_lt hm]
     rw [this]
     cases ho:H.obj m with
     | none=>rfl
     | some o=>simp only [Option.map_some];rw [GO.thaw_nb (N:=H.next) (by omega) (hw.nb m o ho)]
    ·simp [shSt]
     rw [List.take_of_length_le (by simp)]
    ·simp [shSt]
    ·refine AW.thaw (n:=H.next+2) (g:=g) (sz:=3) (e:=135) (ex:=false) ((c1 :: l1).map rCalc) (by rw [h1];simp only [shSt];exact twoA_2) rfl (by simp) ?_
     have:s.thaw (H.next+2) g 3 ((c1 :: l1).map rCalc) = { s with H:=(shSt H e.n e.fold (c1 :: l1) g).thaw (H.next+2) g 3 ((c1 :: l1).map rCalc) }:=by
      obtain ⟨env,L,Hs,nt,df⟩:=s
      simp only at h1 he hL
      subst h1
      simp only [S.thaw]
      congr 1
      ·funext t
       rcases he t with q | q | ⟨_,_,q⟩ | ⟨_,_,q⟩ | ⟨_,_,q⟩ | q <;> rw [q] <;> simp only [LV.thaw]
      ·funext t
       rw [hL t]
       simp only [boxL_cons,boxL_nil]
       split
       ·simp [rExp_eq]
       ·rfl
     rw [this];exact h2
  refine hgo rfl (fun t=>?_) (fun k=>by simp [rExp_eq]) ?_
  ·simp only [upd_apply,envL_cons,envL_nil]
   repeat' split
   all_goals simp
  clear hgo
  have hlt':∀ n o,H2.obj n=some o->nbH H2->n < H2.next:=fun n o h1 h2=>h2.lt h1
  refine AW.seq cc ?_
  simp
  refine EC.need (near_need _ _) (fun h1 v=>?_) (fun h1=>?_)
  ·simp at h1
   simp
   refine AW.seq cc ?_
   simp
   refine EC.afun (hI _) ?_
   simp [ho0]
   refine AW.seq cc ?_
   have e1:H.next+1 ≠ H.next:=by omega
   simp [GH.set,upd_apply,ho1,e1]
   have hd2:∀ a b:List LV,Drop H ((H2.set H.next (.box a)).set (H.next+1) (.box b)) H:=fun a b =>
    Drop_same hnx (fun m hm=>by simp only [GH.set,upd_apply];rw [if_neg (by omega),if_neg (by omega),hlt m hm]) hw.none
   have hr:shapedV p e=.tup [lv (rShape ⟨idx p.srcs e'.name,e.n,e.fold,l1⟩),lvI 0]:=by
    simp [shapedV,plainOf,h',hsk,h1]
   rw [hr]
   rcases hT with ⟨rfl,rfl⟩ | rfl
   all_goals
    refine AW.ev cc ?_
    simp [ho0,ho1,GH.set_obj]
    refine fun hz=>⟨?_,shaped1_ret _ _ _ _ ?_⟩
    ·have a1:=hz.lt (n:=H.next) (o:=.box _) (by simp [GH.set_obj,GH.set,upd_apply];rfl)
     have a2:=hz.lt (n:=H.next+1) (o:=.box _) (by simp [GH.set_obj,GH.set,upd_apply];rfl)
     simp [GH.set_next] at a1 a2
     exact ⟨a1,a2⟩
    simp [GH.set_obj]
    simp [rShape]
    exact Drop_same hnx (fun m hm=>by simp only [upd_apply];rw [if_neg (by omega),if_neg (by omega),if_neg (by omega),hlt m hm]) hw.none
  ·simp at h1
   simp
   refine fun hz=>⟨⟨hz.lt ho0,hz.lt ho1⟩,shaped1_pan H.next (H.next+1) _ _ H2 (by omega) ho0 ho1 rfl rfl _ ?_⟩
   simp [GH.set,upd_apply]
   have hr:shapedV p e=.tup [lv (rShape shape0),lvI 7]:=by
    simp [shapedV,plainOf,h',hsk,h1]
   rw [hr]
   simp [rShape,shape0]
   exact Drop_same hnx (fun m hm=>by simp only [upd_apply];rw [if_neg (by omega),if_neg (by omega),hlt m hm]) hw.none
end Go.Aft
end
