import Derived.Test.YthinedikejlgmaaGreatA16
import Derived.Test.YthinedikejlgmaaGreatA17
set_option linter.all false
section
set_option maxRecDepth 20000
namespace Go.Aft
open Go.Proofs.Tryz
theorem jR{ks:List Sc}{vs:List Value}(h:b6 (.int .i64::ks) vs=true):∃a us,vs=.int .i64 a::us/\b6 ks us=true:=by
 cases vs with
 |nil=>simp[b6]at h
 |cons v us=>
  simp only[b6,Bool.and_eq_true]at h;cases v<;>simp[Sc.has]at h;obtain⟨rfl,h⟩:=h;exact⟨_,us,rfl,h⟩
theorem mF{vs:List Value}(h:b6 [] vs=true):vs=[]:=by
 cases vs with
 |nil=>rfl
 |cons v us=>simp[b6]at h
def CmpAt(m:Nat)(t:TypeId)(ks:List Sc):Prop:=∀(d:Nat) (xs ys:List Value) (off:Nat) (w:World),b6 ks ((xs.drop off).take ks.length)=true->b6 ks ((ys.drop off).take ks.length)=true->
 ∃a b,(∀w,(part t xs.toArray off).run prog w=.ok a w)/\(∀w,(part t ys.toArray off).run prog w=.ok b w)/\(Op.equalIn (d+m+1) t a b).run prog w=.ok (allEq ((xs.drop off).take ks.length) ((ys.drop off).take ks.length)) w/\∀em w,(Instr.checkKey em (d+m+1) t a).run prog w=.ok () w
theorem take1{xs:List Value}{off:Nat}{v:Value}(h:(xs.drop off).take 1=[v]):xs[off]?=some v:=by
 have:=congrArg (λl=>l[0]?) h
 simpa using this
theorem sL{m:Nat}{t:TypeId}(hu:prog.underlying t=some (.int .i64)):CmpAt m t [.int .i64]:=by
 intro d xs ys off w h1 h2;obtain⟨a,us,e1,e2⟩:=jR h1;obtain⟨b,us',e3,e4⟩:=jR h2;have:=mF e2;subst this;have:=mF e4;subst this;have x1:=take1 e1;have x2:=take1 e3;have ha:∀w,(isAgg t).run prog w=.ok false w:=λw=>by simp[isAgg,run_underlying hu]
 refine⟨.int .i64 a,.int .i64 b,λw=>by simp[part,ha,x1],λw=>by simp[part,ha,x2],?_⟩
 have r:=run_equalIn_int w (d+m) t .i64 .i64 a b hu;rw[show([Sc.int IntKind.i64]:List Sc).length=1 from rfl]at*
 rw[e1,e3,r];refine⟨by simp[allEq,uU],λem w=>?_⟩
 simp[Instr.checkKey,run_underlying hu]
theorem pN:∀{ks:List Sc} {vs:List Value},b6 ks vs=true->vs.length=ks.length
 |[],vs,h=>by rw[mF h];rfl
 |k::ks,[],h=>by simp[b6]at h
 |k::ks,v::vs,h=>by simp only[b6,Bool.and_eq_true]at h;simp[pN h.2]
theorem j6:∀{ks js:List Sc} {vs us:List Value},vs.length=ks.length->(b6 (ks++js) (vs++us)=true↔b6 ks vs=true/\b6 js us=true)
 |[],js,[],us,_=>by simp[b6]
 |k::ks,js,v::vs,us,h=>by simp only[List.cons_append,b6,Bool.and_eq_true,j6 (Nat.succ.inj h),and_assoc]
theorem vF:∀{a b c d:List Value},a.length=c.length->allEq (a++b) (c++d)=(allEq a c&&allEq b d)
 |[],b,[],d,_=>by simp[allEq]
 |x::a,b,y::c,d,h=>by simp only[List.cons_append,allEq,vF (Nat.succ.inj h),Bool.and_assoc]
inductive Row(m:Nat):Nat->List Field->List Sc->Prop
 |nil (off:Nat):Row m off [] []
 | cons (off : Nat) (f : Field) (ks : List Sc) (fs : List Field) (js : List Sc) (h1 : f.name ≠ "_") (h2 : f.offset = off) (h3 : CmpAt m f.type ks) (h : Row m (off + ks.length) fs js) : Row m off (f :: fs) (ks ++ js)
theorem Row.run{m off:Nat}{fs:List Field}{ks:List Sc}(h:Row m off fs ks):∀(d:Nat) (xs ys:List Value) (w:World),b6 ks ((xs.drop off).take ks.length)=true->b6 ks ((ys.drop off).take ks.length)=true->
  (Op.eqFields (d+m+1) xs.toArray ys.toArray fs).run prog w=.ok (allEq ((xs.drop off).take ks.length) ((ys.drop off).take ks.length)) w:=by
 induction h with
 |nil off=>intro d xs ys w _ _;simp[Op.eqFields,allEq]
 |cons off f ks fs js h1 h2 h3 h ih=>
  intro d xs ys w g1 g2;have spl:∀zs:List Value,(zs.drop off).take (ks++js).length=(zs.drop off).take ks.length++(zs.drop (off+ks.length)).take js.length:=λzs=>by
   rw[List.length_append,List.take_add,List.drop_drop]
  have len:∀zs:List Value,b6 (ks++js) ((zs.drop off).take (ks++js).length)=true->((zs.drop off).take ks.length).length=ks.length:=λzs g=>by
   have:=pN g;simp only[List.length_take,List.length_append]at this|-;omega
  have l1:=len xs g1;have l2:=len ys g2;rw[spl]at g1 g2|-;rw[spl];rw[j6 l1]at g1;rw[j6 l2]at g2;obtain⟨a,b,p1,p2,p3,p4⟩:=h3 d xs ys off w g1.1 g2.1;rw[vF (by rw[l1,l2])]
  simp only[Op.eqFields,h1,ne_eq,not_false_eq_true,if_true,h2,Sem.run_bind,p1,p2,p3,Result.andThen_ok];have:=ih d xs ys w g1.2 g2.2;cases allEq ((xs.drop off).take ks.length) ((ys.drop off).take ks.length)with
  |false=>simp
  |true=>simp[this]
theorem Row.keys{m off:Nat}{fs:List Field}{ks:List Sc}(h:Row m off fs ks):∀(d:Nat) (em:Bool) (xs:List Value) (w:World),b6 ks ((xs.drop off).take ks.length)=true->
  (forIn (m:=Sem) fs PUnit.unit λf r=>do
   if f.name ≠ "_" then do
    let v<-part f.type xs.toArray f.offset
    Instr.checkKey em (d+m+1) f.type v
    pure (ForInStep.yield PUnit.unit)
   else pure (ForInStep.yield PUnit.unit)).run prog w=.ok PUnit.unit w:=by
 induction h with
 |nil off=>intro d em xs w _;simp
 |cons off f ks fs js h1 h2 h3 h ih=>
  intro d em xs w g1;have spl:∀zs:List Value,(zs.drop off).take (ks++js).length=(zs.drop off).take ks.length++(zs.drop (off+ks.length)).take js.length:=λzs=>by
   rw[List.length_append,List.take_add,List.drop_drop]
  have l1:((xs.drop off).take ks.length).length=ks.length:=by
   have:=pN g1;simp only[List.length_take,List.length_append]at this|-;omega
  rw[spl,j6 l1]at g1;obtain⟨a,b,p1,p2,p3,p4⟩:=h3 d xs xs off w g1.1 g1.1;have:=ih d em xs w g1.2;simp only[List.forIn_cons,h1,ne_eq,not_false_eq_true,if_true,h2,Sem.run_bind,p1,p4,Result.andThen_ok,Sem.run_pure];exact this
theorem qE{ks:List Sc}{xs:List Value}(h:b6 ks xs=true):(xs.drop 0).take ks.length=xs:=by
 rw[<-pN h];simp
theorem jW{m:Nat}{t:TypeId}{ks:List Sc}(ht:prog.underlying t=some (.struct (prog.fieldsOf t)))(hp:prog.stoodInHeld t=false)(hr:Row m 0 (prog.fieldsOf t).toList ks)(d:Nat){xs ys:List Value}(w:World)(h1:b6 ks xs=true)(h2:b6 ks ys=true):
  (Op.equalIn (d+m+2) t (.agg xs.toArray) (.agg ys.toArray)).run prog w=.ok (allEq xs ys) w:=by
 rw[run_equalIn_agg w (d+m+1) t _ _ ht hp];have:=hr.run d xs ys w (by rw[qE h1];exact h1) (by rw[qE h2];exact h2)
 rw[qE h1,qE h2]at this;exact this
theorem jO{m:Nat}{t:TypeId}{ks:List Sc}(ht:prog.underlying t=some (.struct (prog.fieldsOf t)))(hr:Row m 0 (prog.fieldsOf t).toList ks)(d:Nat){xs:List Value}(em:Bool)(w:World)(h1:b6 ks xs=true):
  (Instr.checkKey em (d+m+2) t (.agg xs.toArray)).run prog w=.ok () w:=by
 have:=hr.keys d em xs w (by rw[qE h1];exact h1)
 rw[Instr.checkKey];simp only[Sem.run_bind,run_underlying ht,Result.andThen_ok];rw[<-Array.forIn_toList,this];rfl
theorem uv{m:Nat}{t:TypeId}{ks:List Sc}(ht:prog.underlying t=some (.struct (prog.fieldsOf t)))(hp:prog.stoodInHeld t=false)(hr:Row m 0 (prog.fieldsOf t).toList ks)(hz:∀w,(sizeOf t).run prog w=.ok ks.length w):CmpAt (m+1) t ks:=by
 intro d xs ys off w h1 h2;have ha:∀w,(isAgg t).run prog w=.ok true w:=λw=>by simp[isAgg,run_underlying ht]
 have hx:∀zs:List Value,zs.toArray.extract off (off+ks.length)=((zs.drop off).take ks.length).toArray:=λzs=>by
  simp[List.extract_eq_take_drop]
 refine⟨.agg ((xs.drop off).take ks.length).toArray,.agg ((ys.drop off).take ks.length).toArray,λw=>by simp[part,ha,hz,hx],λw=>by simp[part,ha,hz,hx],?_⟩
 exact⟨jW ht hp hr d w h1 h2,λem w=>jO ht hr d em w h1⟩
def offs:List (TypeId×List Sc)->Nat->List (Bool×Nat×TypeId)
 |[],_=>[]
 |(t,ks)::l,off=>(false,off,t)::offs l (off+ks.length)
theorem Row.of {m : Nat} : ∀ (l : List (TypeId × List Sc)) (off : Nat) (fs : List Field), fs.map (fun f => (f.name == "_", f.offset, f.type)) = offs l off -> (∀ p ∈ l, CmpAt m p.1 p.2) -> Row m off fs (l.map (·.2)).flatten
 |[],off,fs,h,_=>by
  simp only[offs,List.map_eq_nil_iff]at h;subst h;exact .nil off
 |(t,ks)::l,off,[],h,_=>by simp[offs]at h
 |(t,ks)::l,off,f::fs,h,hc=>by
  simp only[List.map_cons,offs,List.cons.injEq,Prod.mk.injEq]at h;obtain⟨⟨h1,h2,h3⟩,h4⟩:=h;rw[List.map_cons,List.flatten_cons];exact .cons off f ks fs _ (by simpa using h1) h2 (by rw[h3];exact hc (t,ks) (by simp)) (Row.of l _ fs h4 λp hp=>hc p (List.mem_cons_of_mem _ hp))
theorem Qm:Row 0 0 (prog.fieldsOf 291).toList [.int .i64,.int .i64]:=Row.of [(3,[.int .i64]),(3,[.int .i64])] 0 _ (by kernel_rfl) (by simp;exact sL underlying3)
theorem GB{m:Nat}:Row m 0 (prog.fieldsOf 27).toList [.int .i64,.int .i64,.int .i64]:=Row.of [(3,[.int .i64]),(3,[.int .i64]),(3,[.int .i64])] 0 _ (by kernel_rfl) (by simp;exact sL underlying3)
theorem F8:prog.underlying 27=some (.struct (prog.fieldsOf 27)):=by kernel_rfl
theorem Wr:prog.underlying 86=some (.struct (prog.fieldsOf 86)):=by kernel_rfl
theorem P5:prog.underlying 184=some (.struct (prog.fieldsOf 184)):=by kernel_rfl
theorem P3:prog.underlying 291=some (.struct (prog.fieldsOf 291)):=by kernel_rfl
theorem UQ:prog.stoodInHeld 27=false:=by kernel_rfl
theorem si86:prog.stoodInHeld 86=false:=by kernel_rfl
theorem si184:prog.stoodInHeld 184=false:=by kernel_rfl
theorem si291:prog.stoodInHeld 291=false:=by kernel_rfl
theorem pn(w:World):(sizeOf 27).run prog w=.ok 3 w:=by
 have h:(prog.info? 27).map (·.size)=some 3:=by kernel_rfl
 obtain⟨i,h1,h2⟩:=Option.map_eq_some_iff.1 h;simp[sizeOf,typeInfo,h1,h2]
theorem Qn:Row 1 0 (prog.fieldsOf 184).toList [.int .i64,.int .i64,.int .i64,.int .i64,.int .i64,.int .i64,.int .i64]:=Row.of [(182,[.int .i64]),(3,[.int .i64]),(3,[.int .i64]),(3,[.int .i64]),(27,[.int .i64,.int .i64,.int .i64])] 0 _ (by kernel_rfl) (by
 simp;exact⟨sL underlying182,sL underlying3,uv (m:=0) F8 UQ GB λw=>pn w⟩)
theorem Ws:prog.underlying 82=some (.struct (prog.fieldsOf 82)):=by kernel_rfl
theorem si82:prog.stoodInHeld 82=false:=by kernel_rfl
theorem row82:Row 1 0 (prog.fieldsOf 82).toList [.int .i64,.int .i64,.int .i64,.int .i64,.int .i64]:=Row.of [(3,[.int .i64]),(3,[.int .i64]),(27,[.int .i64,.int .i64,.int .i64])] 0 _ (by kernel_rfl) (by
 simp;exact⟨sL underlying3,uv (m:=0) F8 UQ GB λw=>pn w⟩)
theorem row86:Row 1 0 (prog.fieldsOf 86).toList [.int .i64,.int .i64,.int .i64,.int .i64]:=Row.of [(27,[.int .i64,.int .i64,.int .i64]),(3,[.int .i64])] 0 _ (by kernel_rfl) (by
 simp;exact⟨uv (m:=0) F8 UQ GB λw=>pn w,sL underlying3⟩)
def rM(t:TypeId):Option (List Sc):=
 if t=27 then some [.int .i64,.int .i64,.int .i64]
 else if t=86 then some [.int .i64,.int .i64,.int .i64,.int .i64]
 else if t=184 then some [.int .i64,.int .i64,.int .i64,.int .i64,.int .i64,.int .i64,.int .i64]
 else if t=291 then some [.int .i64,.int .i64]
 else if t=82 then some [.int .i64,.int .i64,.int .i64,.int .i64,.int .i64]
 else none
theorem xX{T:TypeId}{ks:List Sc}(h:rM T=some ks):T=27/\ks=[.int .i64,.int .i64,.int .i64]\/ T=86/\ks=[.int .i64,.int .i64,.int .i64,.int .i64]\/ T=184/\ks=[.int .i64,.int .i64,.int .i64,.int .i64,.int .i64,.int .i64,.int .i64]\/ T=291/\ks=[.int .i64,.int .i64]\/ T=82/\ks=[.int .i64,.int .i64,.int .i64,.int .i64,.int .i64]:=by
 unfold rM at h
 split at h
 ·rename_i q;exact .inl ⟨q,(Option.some.inj h).symm⟩
 ·split at h
  ·rename_i q;exact .inr (.inl ⟨q,(Option.some.inj h).symm⟩)
  ·split at h
   ·rename_i q;exact .inr (.inr (.inl ⟨q,(Option.some.inj h).symm⟩))
   ·split at h
    ·rename_i q;exact .inr (.inr (.inr (.inl ⟨q,(Option.some.inj h).symm⟩)))
    ·split at h
     ·rename_i q;exact .inr (.inr (.inr (.inr ⟨q,(Option.some.inj h).symm⟩)))
     ·cases h
theorem Sn:yD prog rM:=by
 intro T ks h xs ys w h1 h2;have gd:∀{T:TypeId},prog.eqGuardType prog.depth T=false->∀x y,(eqGuard .eql T x y (.agg xs.toArray) (.agg ys.toArray)).run prog w=.ok () w/\(eqGuard .neq T x y (.agg xs.toArray) (.agg ys.toArray)).run prog w=.ok () w:=λhg x y=>⟨run_eqGuard_agg w _ _ x y _ _ hg,run_eqGuard_agg w _ _ x y _ _ hg⟩
 rcases xX h with⟨rfl,rfl⟩|⟨rfl,rfl⟩|⟨rfl,rfl⟩|⟨rfl,rfl⟩|⟨rfl,rfl⟩
 ·exact⟨jW (m:=0) F8 UQ GB 9998 w h1 h2,gd (by kernel_rfl)⟩
 ·exact⟨jW (m:=1) Wr si86 row86 9997 w h1 h2,gd (by kernel_rfl)⟩
 ·exact⟨jW (m:=1) P5 si184 Qn 9997 w h1 h2,gd (by kernel_rfl)⟩
 ·exact⟨jW (m:=0) P3 si291 Qm 9998 w h1 h2,gd (by kernel_rfl)⟩
 ·exact⟨jW (m:=1) Ws si82 row82 9997 w h1 h2,gd (by kernel_rfl)⟩
theorem O5:vJ prog rM:=by
 intro T ks h xs w b h1;rcases xX h with⟨rfl,rfl⟩|⟨rfl,rfl⟩|⟨rfl,rfl⟩|⟨rfl,rfl⟩|⟨rfl,rfl⟩
 ·exact jO (m:=0) F8 GB 9998 b w h1
 ·exact jO (m:=1) Wr row86 9997 b w h1
 ·exact jO (m:=1) P5 Qn 9997 b w h1
 ·exact jO (m:=0) P3 Qm 9998 b w h1
 ·exact jO (m:=1) Ws row82 9997 b w h1
@[simp] theorem eqTab27:rM 27=some [.int .i64,.int .i64,.int .i64]:=rfl
@[simp] theorem eqTab86:rM 86=some [.int .i64,.int .i64,.int .i64,.int .i64]:=rfl
@[simp] theorem eqTab184:rM 184=some [.int .i64,.int .i64,.int .i64,.int .i64,.int .i64,.int .i64,.int .i64]:=rfl
@[simp] theorem eqTab82:rM 82=some [.int .i64,.int .i64,.int .i64,.int .i64,.int .i64]:=rfl
@[simp] theorem eqTab291:rM 291=some [.int .i64,.int .i64]:=rfl
attribute [simp] Je gL b6 Sc.has allEq uU
def cxS(bJ:Nat->Kd):Cx:=⟨bT bf,rM,bJ,λ_ _=>none,RD.any⟩
@[simp] theorem cxS_ty {p:Nat->Kd}:(cxS p).ty=bT bf:=rfl
@[simp] theorem cxS_eqt {p:Nat->Kd} (t:TypeId):(cxS p).bP t=rM t:=rfl
@[simp] theorem cxS_pub {p:Nat->Kd} (t:Nat):(cxS p).bJ t=p t:=rfl
@[simp] theorem cxS_spec {p:Nat->Kd} (f:FuncId) (a:List LV):(cxS p).spec f a=none:=rfl
@[simp] theorem cxS_rd {p:Nat->Kd}:(cxS p).rd=RD.any:=rfl
theorem ig{p:Nat->Kd}:(cxS p).ok prog:=⟨uO,Sn,O5,λf args pre v h=>(by cases h),(by kernel_rfl)⟩
theorem zV(n lo hi:Int):aC prog 171 [aH n,aH lo,aH hi] (.d (.k (.bool (decide (lo<=n)&&decide (n<=hi))))):=by
 refine aC.body aP func171 rfl call171 (by rw[ntmps171];simp) rfl λ_ H=>?_
 simp[ntmps171,results171]
def jV(o:Option Int)(left:Int):Int:=match o with
 |some l=>left-l
 |none=>-1
theorem GZ(op cn:Int)(kids:List bc)(other:Bool)
  (ih:∀k∈kids,∀depth left:Int,0<=depth->left<=1000->aC prog 110 [lv (bB k),.d (.k (.bool other)),aH depth,aH left] (aH (jV (dy other k depth left) left)))
  (depth left:Int) (hd:0<=depth) (hl:left<=1000):aC prog 110 [lv (bB (.mk op cn kids)),.d (.k (.bool other)),aH depth,aH left] (aH (jV (dy other (.mk op cn kids) depth left) left)):=by
 have cc:=ar (p:=aY [4] [] []);refine aC.vz (ar (p:=aY [4] [] [])) func110 rfl call110 (by rw[ntmps110];simp) rfl λhf H=>?_
 simp[ntmps110,results110,aN,bc.op,bc.n,bc.kids]at hf|-;refine AW.seq cc ?_;simp;refine AW.seq cc ?_;simp;refine⟨λh=>by rw[dy,if_neg (by omega)];rfl,λh1 h2=>?_⟩
 have hno:fk other op cn kids.length≠true->jV (dy other (.mk op cn kids) depth left) left= -1:=λhq=>by rw[dy,if_neg (by rintro⟨_,_,q⟩;exact hq q)];rfl
 refine AW.seq cc ?_;simp;refine AW.join (c:=wR (aY [4] [] [])) (λk:Int=>⟨[(1,.d (.k (.bool other))),(2,aH depth),(3,aH left),(4,.ip [.d (.k (.int .i64 op)),.d (.k (.int .i64 cn)),.d (.sl (kids.map bB))] 0),(9,aH 1),(10,aH k)],[],H⟩)
  (λk=>(op=1/\-1000000000<=cn/\cn<=1000000000\/ op=2\/ op=3\/ op=4\/ op=5/\other=true)/\k=0\/ 6<=op/\op<=10/\k=2) (AW.ev cc ?_) λk hk=>?_
 ·have hop:(op=2\/ op=3\/ op=4)\/ (op=6\/ op=7\/ op=8\/ op=9\/ op=10)\/ op=1\/ op=5\/ (op<1\/ 10<op):=by omega
  rcases hop with h|h|rfl|rfl|h
  ·rcases h with rfl|rfl|rfl
   all_goals simp;exact JN.go 0 (by simp) (by simp)
  ·rcases h with rfl|rfl|rfl|rfl|rfl
   all_goals simp;exact JN.go 2 (by simp) (by simp)
  ·simp;refine EC.aJ (zV _ _ _) ?_;simp;refine⟨λq=>?_,λq1 q2=>JN.go 0 (by simp;omega) (by simp)⟩
   rw[hno (by simp[fk];omega)]
  ·simp;refine⟨λq=>?_,λq=>JN.go 0 (by simp[q]) (by simp)⟩
   rw[hno (by simp[fk,q])]
  ·have e1:op≠1:=by omega
   have e2:op≠2:=by omega
   have e3:op≠3:=by omega
   have e4:op≠4:=by omega
   have e5:op≠5:=by omega
   have e6:op≠6:=by omega
   have e7:op≠7:=by omega
   have e8:op≠8:=by omega
   have e9:op≠9:=by omega
   have VX:op≠10:=by omega
   simp[e1,e2,e3,e4,e5,e6,e7,e8,e9,VX];rw[hno (by unfold fk;rw[if_neg e1,if_neg (by omega),if_neg e5];simp;omega)]
 ·refine AW.seq cc ?_;simp;have hok:∀q:(kids.length:Int)=k,(op=1\/ cn=0)->fk other op cn kids.length=true:=λq q2=>by
   unfold fk
   split
   ·exact decide_eq_true (by omega)
   ·split
    ·exact decide_eq_true (by omega)
    ·split
     ·refine decide_eq_true ⟨?_,by omega,by omega⟩
      rcases hk with⟨h|h|h|h|h,_⟩|h<;>first|exact h.2|omega
     ·exact decide_eq_true (by omega)
  refine⟨λq=>⟨q,λq2=>⟨q,q2⟩⟩,λq=>?_,λq1 q2=>?_⟩
  ·rw[hno];intro hq;unfold fk at hq;have hn:op≠1->cn≠0->False:=λq1 q2=>by
    rw[if_neg q1]at hq
    split at hq
    ·exact q2 (of_decide_eq_true hq).1
    ·split at hq
     ·exact q2 (of_decide_eq_true hq).2.1
     ·exact q2 (of_decide_eq_true hq).2.2.1
   have hl:(kids.length:Int)=k:=by
    split at hq
    ·have:=of_decide_eq_true hq;omega
    ·split at hq
     ·have:=of_decide_eq_true hq;omega
     ·split at hq
      ·have:=of_decide_eq_true hq;omega
      ·have:=of_decide_eq_true hq;omega
   rcases q with q|q
   ·exact q hl
   ·exact hn q.1 q.2
  have hsp:dy other (.mk op cn kids) depth left=cp other kids (depth+1) (left-1):=by
   rw[dy,if_pos ⟨by omega,by omega,hok q1 (by omega)⟩]
  rw[hsp];have w1:IntKind.wrap .i64 (depth+1)=depth+1:=by rw[wrap64]<;>omega
  refine AW.ev cc ?_;simp;refine AW.aU cc (λa:Nat×Int=>⟨[(1,.d (.k (.bool other))),(2,aH depth),(3,aH left),(4,.ip [.d (.k (.int .i64 op)),.d (.k (.int .i64 cn)),.d (.sl (kids.map bB))] 0),(9,aH (left-a.2)),(10,aH k),(11,aH a.1)],[],H⟩) (λa=>kids.length-a.1)
   (λa=>a.1<=kids.length/\0<=a.2/\a.2<=left-1/\cp other kids (depth+1) (left-1)=cp other (kids.drop a.1) (depth+1) a.2) (0,left-1) ⟨⟨by simp,by simp;omega,by simp,by simp⟩,by simp[show left-(left-1)=1 by omega]⟩ ?_
  rintro⟨i,lf⟩ ⟨hi,hl0,Dr,hI⟩;simp only at hi hl0 Dr hI;simp;refine⟨λh=>?_,λh=>?_⟩
  ·have h:i<kids.length:=by omega
   have hd:=List.drop_eq_getElem_cons h;rw[hd,cp]at hI;have w2:IntKind.wrap .i64 (left-(left-lf))=lf:=by rw[wrap64]<;>omega
   simp[h,List.getElem?_eq_getElem h,aN,w1,w2];refine EC.aJ (by simpa[aN]using ih kids[i] (List.getElem_mem h) (depth+1) lf (by omega) (by omega)) ?_
   cases hl:dy other kids[i] (depth+1) lf with
   |none=>
    rw[hl]at hI;simp[jV];rw[hI]
   |some l=>
    rw[hl]at hI;have hle:=mB _ _ _ _ hl;have w3:IntKind.wrap .i64 (left-lf+(lf-l))=left-l:=by rw[wrap64]<;>omega
    simp[jV,w3];refine⟨λq=>by omega,λq=>NX.go (i+1,l) (by simp;omega) ⟨h,hle.1,by simp only;omega,hI⟩ (by simp[aB h hf.1])⟩
  ·have:kids.drop i=[]:=List.drop_eq_nil_of_le (by omega)
   rw[this,cp]at hI;rw[hI];simp[jV]
theorem zW(other:Bool):∀(c:bc) (depth left:Int),0<=depth->left<=1000->aC prog 110 [lv (bB c),.d (.k (.bool other)),aH depth,aH left] (aH (jV (dy other c depth left) left))
 |.mk op cn kids,depth,left,hd,hl=>GZ op cn kids other (λk hk depth left hd hl=>zW other k depth left hd hl) depth left hd hl
mutual
theorem uT{n g sz N:Nat}{rows:List (List DV)}(h:N<=n):∀x:LV,x.nb N->x.cL n g sz rows=x
 |.vs m g' sz' i len,hx=>by
  simp only[LV.nb]at hx;simp only[LV.cL];rw[if_neg (by rintro⟨rfl,_⟩;omega)]
 |.fn f first cap,hx=>by simp only[LV.nb]at hx;simp only[LV.cL,lZ h _ hx.1,lZ h _ hx.2]
 |.agg xs,hx=>by simp only[LV.nb]at hx;simp only[LV.cL,lZ h _ hx]
 |.dx xs,hx=>by simp only[LV.nb]at hx;simp only[LV.cL,lZ h _ hx]
 |.gd _ _,_|.d _,_|.lp _ _,_|.gp _ _,_|.ep _ _ _ _,_|.kQ _ _,_|.gm _,_|.vp _ _ _,_|.yl _,_|.ip _ _,_|.any,_=>by simp only[LV.cL]
theorem lZ{n g sz N:Nat}{rows:List (List DV)}(h:N<=n):∀xs:List LV,ct N xs->iM n g sz rows xs=xs
 |[],_=>by simp only[iM]
 |x::xs,hx=>by simp only[ct]at hx;simp only[iM,uT h x hx.1,lZ h xs hx.2]
end
theorem GO.uT{n g sz N:Nat}{rows:List (List DV)}(h:N<=n){o:GO}(ho:o.nb N):o.cL n g sz rows=o:=by
 cases o with
 |box cs=>simp only[GO.nb]at ho;simp only[GO.cL,lZ h _ ho]
 |vec e g' sz' cells ex=>simp only[GO.nb]at ho;simp only[GO.cL,lZ h _ ho]
 |_=>rfl
def two(H:GH)(a b:List LV):GH:=⟨λm=>if m=H.next+1 then some (.box b)else if m=H.next then some (.box a)else H.obj m,H.next+2⟩
@[simp] theorem two_next {H:GH} {a b:List LV}:(two H a b).next=H.next+2:=rfl
theorem EC.need{P:Program}{f:FuncId}{args:List LV}{H H1:GH}{s:S}{dst:Option Nat}{K:KT}{Q:QT}{b:Prop}[Decidable b]{x:LV}(h:aF P f args H λce H'=>H'=H1/\(if b then∃v,ce=.ret v else ce=.dY x))
  (hk:b->∀v,@AP K (({s with H:=H1}:S).put dst v)) (hp:¬b->Q.q (.dY x) {s with H:=H1}):@EC P f args H s dst K Q:=by
 refine EC.of h (λv H' hR=>?_) (λv H' hR=>?_)
 ·obtain⟨rfl,hR⟩:=hR;by_cases hb:b
  ·exact hk hb v
  ·rw[if_neg hb]at hR;cases hR
 ·obtain⟨rfl,hR⟩:=hR;by_cases hb:b
  ·rw[if_pos hb]at hR;obtain⟨_,e⟩:=hR;cases e
  ·rw[if_neg hb]at hR;cases hR;exact hp hb
@[simp] theorem twoA_next {H:GH} {a b:List LV} {o:GO}:((two H a b).add o).next=H.next+3:=rfl
theorem vo(a b:List (List DV)):bG (a++b)=bG a++bG b:=by simp[bG]
theorem GH.set_set{H:GH}{n:Nat}{a b:GO}:(H.set n a).set n b=H.set n b:=by
 simp only[GH.set];congr 1;funext m;simp only[ew];split<;>rfl
theorem GH.aX{H:GH}{n:Nat}{a:GO}:(H.set n a).obj n=some a:=by simp[GH.set]
theorem Kq(op cn:Int)(kids:List bc)(other:Bool)
  (ih:∀k∈kids,∀(n:Nat) (H:GH) (x y z:LV) (ahead nodes depth:Int),H.obj n=some (scp [x,y,z] ahead nodes)->0<=nodes->nodes<=60->0<=depth->depth<=100->
   aF prog 210 [.gp n 0,lv (bB k),.d (.k (.bool other)),aH depth] H λce H'=>match dy other k depth (60-nodes)with
    |some l=>(∃v,ce=.ret v)/\H'=H.set n (scp [x,y,z] ahead (60-l))
    |none=>ce=.dY bZ/\∃m,H'=H.set n (scp [x,y,z] ahead m))
  (n:Nat) (H:GH) (x y z:LV) (ahead nodes depth:Int) (hn:H.obj n=some (scp [x,y,z] ahead nodes)) (h0:0<=nodes) (h1:nodes<=60) (VB:0<=depth) (A5:depth<=100):
   aF prog 210 [.gp n 0,lv (bB (.mk op cn kids)),.d (.k (.bool other)),aH depth] H λce H'=>match dy other (.mk op cn kids) depth (60-nodes)with
    |some l=>(∃v,ce=.ret v)/\H'=H.set n (scp [x,y,z] ahead (60-l))
    |none=>ce=.dY bZ/\∃m,H'=H.set n (scp [x,y,z] ahead m):=by
 have cc:=ar (p:=aY [5] [] []);refine aF.dV (ar (p:=aY [5] [] [])) func210 rfl call210 (by rw[ntmps210];simp) rfl λhf hw=>?_
 simp[ntmps210,results210,aN,bc.op,bc.n,bc.kids]at hf|-;have hc:ct H.next [x,y,z]:=by
  have:=hw.nb n _ hn;simp[scp,GO.nb,ct,LV.nb]at this|-;exact this
 have hlt:=hw.lt hn;have uG:∀m,gD (H.set n (scp [x,y,z] ahead m))->Drop H (H.set n (scp [x,y,z] ahead m)) (H.set n (scp [x,y,z] ahead m)):=λm hz=>hz.drop (by rw[GH.aL];exact Nat.le_refl _)
 refine AW.seq cc ?_;simp;refine AW.seq cc ?_;simp[hlt];refine EC.need (Gk n H x y z ahead nodes depth hn hc h0 (by omega)) (λhb v=>?_) (λhb=>?_)
 rotate_left
 ·simp;refine λhz=>⟨_,uG _ hz,by simp[bZ,LV.nb],?_⟩
  rw[dy,if_neg (by omega)]
  exact⟨_,rfl⟩
 have hno:fk other op cn kids.length≠true->dy other (.mk op cn kids) depth (60-nodes)=none:=λhq=>by rw[dy,if_neg (by rintro⟨_,_,q⟩;exact hq q)]
 simp;refine AW.seq cc ?_;simp;have tB:gD (H.set n (scp [x,y,z] ahead (nodes+1)))->fk other op cn kids.length≠true->∃H',Drop H (H.set n (scp [x,y,z] ahead (nodes+1))) H'/\(bZ:LV).nb H'.next/\match dy other (.mk op cn kids) depth (60-nodes)with
    |some l=>False
    |none=>∃m,H'=H.set n (scp [x,y,z] ahead m):=λhz hq=>by
  refine⟨_,uG _ hz,by simp[bZ,LV.nb],?_⟩
  rw[hno hq];exact⟨_,rfl⟩
 refine AW.join (c:=wR (aY [5] [] [])) (λk:Int=>⟨[(0,.gp n 0),(2,.d (.k (.bool other))),(3,aH depth),(5,.ip [.d (.k (.int .i64 op)),.d (.k (.int .i64 cn)),.d (.sl (kids.map bB))] 0),(8,aH k)],[],H.set n (scp [x,y,z] ahead (nodes+1))⟩)
  (λk=>(op=1/\-1000000000<=cn/\cn<=1000000000\/ op=2\/ op=3\/ op=4\/ op=5/\other=true)/\k=0\/ 6<=op/\op<=10/\k=2) (AW.ev cc ?_) λk hk=>?_
 ·have hop:(op=2\/ op=3\/ op=4)\/ (op=6\/ op=7\/ op=8\/ op=9\/ op=10)\/ op=1\/ op=5\/ (op<1\/ 10<op):=by omega
  rcases hop with h|h|rfl|rfl|h
  ·rcases h with rfl|rfl|rfl
   all_goals simp;exact JN.go 0 (by simp) (by simp)
  ·rcases h with rfl|rfl|rfl|rfl|rfl
   all_goals simp;exact JN.go 2 (by simp) (by simp)
  ·simp;refine EC.need (eb _ _) (λhb v=>?_) (λhb=>?_)
   ·simp at hb;simp;exact JN.go 0 (by simp;omega) (by simp)
   ·simp at hb;simp;refine λhz=>tB hz ?_
    simp[fk];omega
  ·simp;refine EC.need (eb _ _) (λhb v=>?_) (λhb=>?_)
   ·simp;exact JN.go 0 (by simp[hb]) (by simp)
   ·simp;refine λhz=>tB hz ?_
    simp[fk,hb]
  ·have e1:op≠1:=by omega
   have e2:op≠2:=by omega
   have e3:op≠3:=by omega
   have e4:op≠4:=by omega
   have e5:op≠5:=by omega
   have e6:op≠6:=by omega
   have e7:op≠7:=by omega
   have e8:op≠8:=by omega
   have e9:op≠9:=by omega
   have VX:op≠10:=by omega
   simp[e1,e2,e3,e4,e5,e6,e7,e8,e9,VX];refine EC.need (eb _ _) (λhb v=>?_) (λhb=>?_)
   ·simp at hb
   ·simp;refine λhz=>tB hz ?_
    unfold fk;rw[if_neg e1,if_neg (by omega),if_neg e5]
    simp;omega
 ·refine AW.seq cc ?_;simp;refine⟨λq=>⟨q,λq2=>⟨q,q2⟩⟩,EC.need (eb _ _) (λhb v=>?_) (λhb=>?_)⟩
  rotate_left
  ·simp at hb;simp;refine λhz=>tB hz ?_
   intro hq;unfold fk at hq;have hn:op≠1->cn≠0->False:=λq1 q2=>by
    rw[if_neg q1]at hq
    split at hq
    ·exact q2 (of_decide_eq_true hq).1
    ·split at hq
     ·exact q2 (of_decide_eq_true hq).2.1
     ·exact q2 (of_decide_eq_true hq).2.2.1
   have hl:(kids.length:Int)=k:=by
    split at hq
    ·have:=of_decide_eq_true hq;omega
    ·split at hq
     ·have:=of_decide_eq_true hq;omega
     ·split at hq
      ·have:=of_decide_eq_true hq;omega
      ·have:=of_decide_eq_true hq;omega
   have:=hb hl;exact hn this.1 this.2
  simp at hb;have hok:fk other op cn kids.length=true:=by
   unfold fk
   split
   ·exact decide_eq_true (by omega)
   ·split
    ·exact decide_eq_true (by omega)
    ·split
     ·refine decide_eq_true ⟨?_,by omega,by omega⟩
      rcases hk with⟨h|h|h|h|h,_⟩|h<;>first|exact h.2|omega
     ·exact decide_eq_true (by omega)
  have hsp:dy other (.mk op cn kids) depth (60-nodes)=cp other kids (depth+1) (59-nodes):=by
   rw[dy,if_pos ⟨by omega,by omega,hok⟩,show 60-nodes-1=59-nodes by omega]
  rw[hsp];simp;have w1:IntKind.wrap .i64 (depth+1)=depth+1:=by rw[wrap64]<;>omega
  refine AW.ev cc ?_;simp;refine AW.aU cc (λa:Nat×Int=>⟨[(0,.gp n 0),(2,.d (.k (.bool other))),(3,aH depth),(59,.d (.sl (kids.map bB))),(60,aH kids.length),(61,aH a.1)],[],H.set n (scp [x,y,z] ahead (60-a.2))⟩) (λa=>kids.length-a.1)
   (λa=>a.1<=kids.length/\0<=a.2/\a.2<=59-nodes/\cp other kids (depth+1) (59-nodes)=cp other (kids.drop a.1) (depth+1) a.2) (0,59-nodes) ⟨⟨by simp,by simp;omega,by simp,by simp⟩,by simp[show 60-(59-nodes)=nodes+1 by omega]⟩ ?_
  rintro⟨i,left⟩ ⟨hi,hl0,Dr,hI⟩;simp only at hi hl0 Dr hI;simp;refine⟨λh=>?_,λh=>?_⟩
  ·have hd:=List.drop_eq_getElem_cons h;rw[hd,cp]at hI;simp[h,List.getElem?_eq_getElem h,aN,hlt,w1,GH.aL];have ih':=ih kids[i] (List.getElem_mem h) n (H.set n (scp [x,y,z] ahead (60-left))) x y z ahead (60-left) (depth+1) GH.aX (by omega) (by omega) (by omega) (by omega)
   rw[show 60-(60-left)=left by omega]at ih'
   simp only[GH.set_set,Q2,aN,List.map_cons,List.map_nil,AA]at ih';refine EC.of ih' (λv' H' hR=>?_) (λv' H' hR=>?_)
   ·cases hl:dy other kids[i] (depth+1) left with
    |none=>rw[hl]at hR;cases hR.1
    |some l=>
     rw[hl]at hR hI;have hle:=mB _ _ _ _ hl;obtain⟨_,rfl⟩:=hR;simp[aB h hf.1];exact NX.go (i+1,l) (by simp;omega) ⟨h,hle.1,by simp only;omega,hI⟩ (by simp)
   ·cases hl:dy other kids[i] (depth+1) left with
    |some l=>rw[hl]at hR;obtain⟨⟨_,q⟩,_⟩:=hR;cases q
    |none=>
     rw[hl]at hR hI;obtain⟨q,m,rfl⟩:=hR;cases q;simp;refine λhz=>⟨_,uG _ hz,by simp[bZ,LV.nb],?_⟩
     rw[hI];exact⟨_,rfl⟩
  ·have:kids.drop i=[]:=List.drop_eq_nil_of_le h;rw[this,cp]at hI;rw[hI];exact λhz=>⟨_,uG _ hz,rfl⟩
theorem CH(other:Bool):∀(c:bc) (n:Nat) (H:GH) (x y z:LV) (ahead nodes depth:Int),H.obj n=some (scp [x,y,z] ahead nodes)->0<=nodes->nodes<=60->0<=depth->depth<=100->
   aF prog 210 [.gp n 0,lv (bB c),.d (.k (.bool other)),aH depth] H λce H'=>match dy other c depth (60-nodes)with
    |some l=>(∃v,ce=.ret v)/\H'=H.set n (scp [x,y,z] ahead (60-l))
    |none=>ce=.dY bZ/\∃m,H'=H.set n (scp [x,y,z] ahead m)
 |.mk op cn kids,n,H,x,y,z,ahead,nodes,depth,hn,h0,h1,VB,A5=>Kq op cn kids other (λk hk n H x y z ahead nodes depth hn h0 h1 VB A5=>CH other k n H x y z ahead nodes depth hn h0 h1 VB A5) n H x y z ahead nodes depth hn h0 h1 VB A5
def uc(l:List ca):List (Value×LV):=l.map λs=>(.string s,.d (.k (.bool true)))
theorem nq{a b:ca}:wv (.string a) (.string b)=decide (a=b):=by simp[wv,uU]
theorem MI:∀(l:List ca) (s:ca),s∉l->cg (.string s) (.d (.k (.bool true))) (uc l)=uc (l++[s])
 |[],s,_=>by simp[cg,uc]
 |x::l,s,h=>by
  have h1:s≠x:=λe=>h (by simp[e])
  have:=MI l s (λe=>h (by simp[e]))
  simp only[uc,List.map_cons,List.cons_append,cg,nq,h1,decide_false,Bool.false_eq_true,if_false]at this|-;rw[this]
theorem HN:∀(l:List ca) (s:ca),bz (.string s) (uc l)=if l.all (λk=>decide (s≠k))=true then none else some (.d (.k (.bool true)))
 |[],s=>by simp[bz,uc]
 |x::l,s=>by
  have:=HN l s;simp only[uc,List.map_cons,bz,nq]at this|-;by_cases e:s=x
  ·subst e;simp
  ·simp[e];simpa using this
theorem GH.cT{H:GH}{a b:GO}:(H.add a).set H.next b=H.add b:=by
 simp only[GH.add,GH.set];congr 1;funext m;simp only[ew];split<;>rfl
theorem On(l:List ca)(s:ca):(bz (.string s) (uc l)).getD (.d (.k (.bool false)))=.d (.k (.bool (!l.all λk=>decide (s≠k)))):=by
 rw[HN]
 split
 ·rename_i h;rw[h];rfl
 ·rename_i h;cases hb:l.all (λk=>decide (s≠k))with
  |true=>exact absurd hb h
  |false=>rfl
theorem Vk(l:List ca)(a:Value)(b:LV)(hab:(a,b)∈uc l):(KK.sc Sc.str).has a=true:=by
 simp only[uc,List.mem_map]at hab;obtain⟨s,_,q⟩:=hab;cases q;rfl
theorem Lq(i:Nat)(h:i<eP.length):eP[i]∉eP.take i:=by
 have:∀i:Fin 34,(eP.take i.1).all (λk=>decide (eP.getD i.1 ⟨#[]⟩≠k))=true:=by decide
 intro hm;have h1:=this ⟨i,h⟩;rw[List.all_eq_true]at h1;have h2:=h1 _ hm;simp[List.getD,List.getElem?_eq_getElem h]at h2
theorem B9(H:GH):aF prog 211 [] H λce H'=>ce=.ret (.gm H.next)/\H'=H.add (.map (uc eP)):=by
 have cc:=aP;refine aF.bD aP func211 rfl call211 (by rw[ntmps211];simp) rfl λhf hw=>?_
 have hr:List.range' 0 34=[0,1,2,3,4,5,6,7,8,9,10,11,12,13,14,15,16,17,18,19,20,21,22,23,24,25,26,27,28,29,30,31,32,33]:=rfl;simp[ntmps211,results211,hr];have hk:(DV.sl (eP.map rS))=DV.sl (eP.map rS):=rfl;refine AW.aU cc (λi:Nat=>⟨[(1,.gm H.next),(5,.d (.sl (eP.map rS))),(6,aH 34),(7,aH i)],[],H.add (.map (uc (eP.take i)))⟩) (λi=>34-i) (λi=>i<=34) 0 ⟨by simp,by simp[uc,eP,rS]⟩ ?_
 intro i hi;simp;refine⟨λh=>?_,λh=>?_⟩
 ·have hi':i<eP.length:=by simp[eP];omega
  have hk:∀(a:Value) (b:LV),(a,b)∈uc (eP.take i)->(KK.sc Sc.str).has a=true:=λa b hab=>by
   simp only[uc,List.mem_map]at hab;obtain⟨s,_,q⟩:=hab;cases q;rfl
  have hm:=MI (eP.take i) eP[i] (Lq i hi');rw[aR hi']at hm;simp[hi',List.getElem?_eq_getElem hi',rS,GH.au,GH.aq,KK.has,Sc.has,hm,aB (n:=34) (show i<34 by omega)]
  refine⟨λa b hab=>hk a b hab,NX.go (i+1) (by omega) (by omega) (by simp[GH.cT])⟩
 ·have:i=34:=by omega
  subst this;have hl:eP.take 34=eP:=rfl;rw[hl];exact λhz=>⟨hz.drop (by simp[GH.aq]),by simp[GH.aq]⟩
theorem AG{s:ca}(h:∀j,j<s.size->97<=jh s (j:Nat)/\jh s (j:Nat)<=122):nj s=true:=by
 simp only[nj,List.all_eq_true,List.mem_range];exact λj hj=>decide_eq_true (h j hj)
theorem xI{s:ca}{j:Nat}(hj:j<s.size)(h:jh s (j:Nat)<97\/ 122<jh s (j:Nat)):nj s=false:=by
 cases hl:nj s with
 |false=>rfl
 |true=>
  simp only[nj,List.all_eq_true,List.mem_range]at hl;have:=of_decide_eq_true (hl j hj);omega
theorem NY(s:ca)(hs:cN s):aC prog 158 [.d (.k (.string s))] (.d (.k (.bool (gE s)))):=by
 have cc:=aP;unfold cN at hs;refine aC.body aP func158 rfl call158 (by rw[ntmps158];simp) rfl λhf H=>?_
 simp[ntmps158,results158];refine AW.aU cc (λi:Nat=>⟨[(0,.d (.k (.string s))),(5,aH s.size),(6,aH i)],[],H⟩) (λi=>s.size-i) (λi=>i<=s.size/\∀j,j<i->97<=jh s (j:Nat)/\jh s (j:Nat)<=122) 0 (by simp) λi hi=>?_
 simp;refine⟨λh=>⟨h,λq=>⟨q,h⟩,λq=>by simp[gE,xI h q],λq1 q2=>?_⟩,λh=>?_⟩
 ·refine NX.go (i+1) (by omega) ⟨h,λj hj=>?_⟩ (by simp[aB h (show s.size<=9223372036854775807 by omega)])
  by_cases e:j=i
  ·subst e;exact⟨q1,q2⟩
  ·exact hi.2 j (by omega)
 ·have hl:nj s=true:=AG λj hj=>hi.2 j (by omega)
  by_cases hc:0<s.size/\s.size<=8
  ·have h8:(s.size:Int)<=8:=by omega
   have h9:¬8<(s.size:Int):=by omega
   simp[hc.1,h8,h9];refine EC.of (B9 H) (λv H' hR=>?_) (λv H' hR=>?_)
   ·obtain⟨q,rfl⟩:=hR;cases q;simp[hc.1,h8,h9,GH.au,GH.aq,On];refine⟨⟨rfl,λa b hab=>Vk _ a b hab⟩,?_⟩
    refine⟨?_,λn hn e=>by omega⟩
    have h1:1<=s.size:=hc.1;simp[gE,h1,hc.2,hl]
   ·cases hR.1
  ·by_cases h0:0<s.size
   ·have h8:¬(s.size:Int)<=8:=by omega
    simp[h0,h8,gE]
    intros;omega
   ·simp[h0,gE]
    intros;omega
def dR:List ca->Nat->List (Value×LV)
 |[],_=>[]
 |s::l,i=>(.string s,aH (i:Int))::dR l (i+1)
theorem HK:∀(l:List ca) (k:Nat) (s:ca),s∉l->cg (.string s) (aH ((k+l.length:Nat):Int)) (dR l k)=dR (l++[s]) k
 |[],k,s,_=>by simp[cg,dR]
 |x::l,k,s,h=>by
  have h1:s≠x:=λe=>h (by simp[e])
  have:=HK l (k+1) s (λe=>h (by simp[e]))
  simp only[dR,List.cons_append,cg,nq,h1,decide_false,Bool.false_eq_true,if_false];rw[<-this];simp only[List.length_cons];rw[show k+(l.length+1)=k+1+l.length by omega]
theorem ry(x:ca)(l:List ca)(s:ca):idx (x::l) s=if x=s then 0 else if idx l s<0 then-1 else idx l s+1:=by
 unfold idx;rw[List.findIdx?_cons];by_cases e:x=s
 ·simp[e]
 ·simp only[e,decide_false,Bool.false_eq_true,if_false];cases h:List.findIdx? (λx=>decide (x=s)) l with
  |none=>simp
  |some i=>simp;omega
theorem E9(l:List ca)(s:ca):-1<=idx l s:=by
 unfold idx;split<;>omega
theorem nM(l:List ca)(s:ca):idx l s<l.length:=by
 unfold idx
 split
 ·rename_i i h;have:=(List.findIdx?_eq_some_iff_getElem.1 h).1;omega
 ·omega
theorem je(l:List ca)(s:ca):0<=idx l s↔s∈l:=by
 unfold idx
 split
 ·rename_i i h;obtain⟨h1,h2,_⟩:=List.findIdx?_eq_some_iff_getElem.1 h;simp only[decide_eq_true_eq]at h2;exact⟨λ_=>h2▸List.getElem_mem h1,λ_=>by omega⟩
 ·rename_i h;rw[List.findIdx?_eq_none_iff]at h;constructor
  ·intro h0;omega
  ·intro hm;have:=h s hm;simp at this
theorem wh:∀(l:List ca) (k:Nat) (s:ca),bz (.string s) (dR l k)=if idx l s<0 then none else some (aH ((k:Int)+idx l s))
 |[],k,s=>by simp[bz,dR,idx]
 |x::l,k,s=>by
  have:=wh l (k+1) s;simp only[dR,bz,nq,this,ry];by_cases e:s=x
  ·subst e;simp
  ·have e':¬x=s:=λq=>e q.symm
   have hg:=E9 l s;simp only[e,e',decide_false,Bool.false_eq_true,if_false];by_cases q:idx l s<0
   ·simp[q]
   ·rw[if_neg q,if_neg q,if_neg (by omega)]
    rw[show((k+1:Nat):Int)+idx l s=(k:Int)+(idx l s+1)by omega]
theorem jZ:∀(l:List ca) (k:Nat),(∀(a:Value) (b:LV),(a,b)∈dR l k->(KK.sc Sc.str).has a=true)=True
 |[],k=>by simp[dR]
 |x::l,k=>by
  have ih:=jZ l (k+1);refine eq_true λa b hab=>?_
  simp only[dR,List.mem_cons]at hab;rcases hab with q|q
  ·cases q;rfl
  ·exact(of_eq_true ih) a b q
@[simp] theorem has_str (s:ca):(KK.sc Sc.str).has (.string s)=true:=rfl
def HF(l:List ca)(s:ca):Int:=if idx l s<0 then 0 else idx l s
theorem pE(l:List ca)(s:ca):(bz (.string s) (dR l 0)).getD (.d (.k (.int .i64 0)))=aH (HF l s):=by
 rw[wh,HF];split<;>simp
theorem u5(l:List ca)(s:ca):(bz (.string s) (dR l 0)).isSome=decide (0<=idx l s):=by
 rw[wh];by_cases h:idx l s<0
 ·rw[if_pos h];simp;omega
 ·rw[if_neg h];simp;omega
def Ah(l os:List ca):Prop:=∀i (h:i<l.length),gE l[i]=true/\l[i]∉l.take i/\l[i]∉os
theorem s7(l os:List ca)(o:LV)(H:GH)(hl:∀s∈l,cN s)(ho:o=.d (.k (.map none))/\os=[]\/ ∃m,o=.gm m/\H.obj m=some (.map (dR os 0))):
  aF prog 155 [sl (l.map rS),o] H λce H'=>open Classical in if Ah l os then ce=.ret (.gm H.next)/\H'=H.add (.map (dR l 0))else ce=.dY bZ/\H'=H:=by
 have cc:=aP;refine aF.bD aP func155 rfl call155 (by rw[ntmps155];simp) rfl λhf hw=>?_
 have ho2:∀s:ca,∀i:Nat,True:=λ_ _=>trivial
 simp[ntmps155,results155]at hf|-;have hof:o.only []/\o.un=o:=by
  rcases ho with⟨rfl,_⟩|⟨m,rfl,_⟩<;>simp[LV.only]
 refine AW.aU cc (λi:Nat=>⟨[(1,o),(5,.gm H.next),(13,.d (.sl (l.map rS))),(14,aH l.length),(15,aH i)],[],H.add (.map (dR (l.take i) 0))⟩) (λi=>l.length-i) (λi=>i<=l.length/\∀j (h:j<l.length),j<i->gE l[j]=true/\l[j]∉l.take j/\l[j]∉os) 0 ⟨by simp,by simp[dR,hof]⟩ ?_
 intro i hi;simp;have xQ:∀n,(H.add (.map n)).obj H.next=some (.map n):=λn=>by simp[GH.au]
 have uG:∀n,Drop H (H.add (.map n)) H:=λn=>aO (by simp[GH.aq]) (λm hm=>by rw[GH.au,if_neg (by omega)]) hw.none
 refine⟨λh=>?_,λh=>?_⟩
 ·have hnm:=NY l[i] (hl _ (List.getElem_mem h));have hput:=HK (l.take i) 0 l[i];simp only[List.length_take,Nat.min_eq_left (Nat.le_of_lt h),Nat.zero_add,AA]at hput;rw[aR h]at hput;have Ct:∀b:Prop,¬(gE l[i]=true/\l[i]∉l.take i/\l[i]∉os)->∃H',Drop H (H.add (.map (dR (l.take i) 0))) H'/\(bZ:LV).nb H'.next/\¬Ah l os/\H'=H:=λb q=>⟨H,uG _,by simp[bZ,LV.nb],λhn=>q (hn i h),rfl⟩
  have hgood:(gE l[i]=true/\l[i]∉l.take i/\l[i]∉os)->∀j (hj:j<l.length),j<i+1->gE l[j]=true/\l[j]∉l.take j/\l[j]∉os:=λq j hj hji=>by
   by_cases e:j=i
   ·subst e;exact q
   ·exact hi.2 j hj (by omega)
  rcases ho with⟨rfl,rfl⟩|⟨m,rfl,hm⟩
  ·simp[h,List.getElem?_eq_getElem h,rS,xQ,pE,u5,jZ];refine EC.aJ hnm ?_;simp;refine EC.need (eb _ _) (λhb v=>?_) (λhb=>?_)
   ·simp[je]at hb;simp[xQ,hput hb.2,jZ];refine NX.go (i+1) (by omega) ⟨h,hgood ⟨hb.1,hb.2,by simp⟩⟩ (by simp[GH.cT,aB h hf.1.1])
   ·simp[je]at hb;simp;exact λhz=>Ct True (λq=>q.2.1 (hb q.1))
  ·have hm':∀n,(H.add (.map n)).obj m=some (.map (dR os 0)):=λn=>by
    rw[GH.au,if_neg (by have:=hw.lt hm;omega)];exact hm
   have hlt:∀n,m<(H.add (.map n)).next:=λn=>by have:=hw.lt hm;rw[GH.aq];omega
   simp[h,List.getElem?_eq_getElem h,rS,xQ,pE,u5,jZ,hm'];refine EC.aJ hnm ?_;simp;refine EC.need (eb _ _) (λhb v=>?_) (λhb=>?_)
   ·simp[je]at hb;simp[xQ,hput hb.1.2,jZ];refine NX.go (i+1) (by omega) ⟨h,hgood ⟨hb.1.1,hb.1.2,hb.2⟩⟩ (by simp[GH.cT,aB h hf.1.1,LV.only])
   ·simp[je]at hb;simp;exact λhz=>Ct True (λq=>q.2.2 (hb q.1 q.2.1))
 ·have hok:Ah l os:=λj hj=>hi.2 j hj (by omega)
  have ht:l.take i=l:=List.take_of_length_le h;refine λhz=>⟨_,hz.drop (by simp[GH.aq]),by simp[GH.aq],hok,by rw[ht]⟩
theorem oc(l:List ca)(s:ca):aC prog 219 [sl (l.map rS),.d (.k (.string s))] (.d (.k (.bool (decide (0<=idx l s))))):=by
 refine aC.body aP func219 rfl call219 (by rw[ntmps219];simp) rfl λhf H=>?_
 have hi:=kj l s;simp at hi;simp[ntmps219,results219];refine EC.aJ hi ?_;simp
theorem zU:aC prog 250 [] (sl (eP.map rS)):=by
 refine aC.body aP func250 rfl call250 (by rw[ntmps250];simp) rfl λhf H=>?_
 have hr:List.range' 0 34=[0,1,2,3,4,5,6,7,8,9,10,11,12,13,14,15,16,17,18,19,20,21,22,23,24,25,26,27,28,29,30,31,32,33]:=rfl;simp[ntmps250,results250,hr,eP,rS]
theorem KJ(s:ca)(hs:cN s):aC prog 218 [.d (.k (.string s))] (.d (.k (.bool (gE s)))):=by
 have cc:=aP;unfold cN at hs;refine aC.body aP func218 rfl call218 (by rw[ntmps218];simp) rfl λhf H=>?_
 have hk:=zU;have hh:=oc eP s;simp at hk hh;by_cases hc:0<s.size/\s.size<=8
 ·have a1:¬s.size=0:=by omega
  have a2:¬8<(s.size:Int):=by omega
  have a3:¬(s.size:Int)<1:=by omega
  have a4:1<=s.size:=by omega
  simp[ntmps218,results218,a1,a2,a3];refine EC.aJ hk ?_;simp[a1,a2,a3];refine EC.aJ hh ?_;simp[a1,a2,a3];refine⟨λq=>?_,λq=>?_⟩
  ·simp[gE];intro _ _ _;exact(je _ _).1 q
  ·refine AW.aU cc (λi:Nat=>⟨[(0,.d (.k (.string s))),(3,aH i)],[],H⟩) (λi=>s.size-i) (λi=>i<=s.size/\∀j,j<i->97<=jh s (j:Nat)/\jh s (j:Nat)<=122) 0 (by simp) λi hi=>?_
   simp;refine⟨λh=>⟨h,λq=>⟨q,h⟩,λq=>by simp[gE,xI h q],λq1 q2=>?_⟩,λh=>?_⟩
   ·refine NX.go (i+1) (by omega) ⟨h,λj hj=>?_⟩ (by simp[aB h (show s.size<=9223372036854775807 by omega)])
    by_cases e:j=i
    ·subst e;exact⟨q1,q2⟩
    ·exact hi.2 j (by omega)
   ·have hl:nj s=true:=AG λj hj=>hi.2 j (by omega)
    have q':¬0<=idx eP s:=by omega
    simp[gE,hl,a4,hc.2];exact λx hx e=>q' ((je _ _).2 (e▸hx))
 ·have hnm:gE s=false:=by
   simp[gE];intros;omega
  rw[hnm];by_cases h0:s.size=0
  ·simp[ntmps218,results218,h0]
  ·have a2:8<(s.size:Int):=by omega
   have a3:¬(s.size:Int)<1:=by omega
   simp[ntmps218,results218,h0,a2,a3]
theorem iX(p:Prog)(hl:p.aj.length<=6):aC prog 50 [lv (ax p)] (sl ((an p).map rS)):=by
 have cc:=ar (p:=aY [1] [] []);refine aC.body (ar (p:=aY [1] [] [])) func50 rfl call50 (by rw[ntmps50];simp) rfl λhf H=>?_
 simp[ntmps50,results50,ax]at hf|-;refine AW.aU cc (λa:Nat×LV×GH=>⟨[(1,.ip ((ax p).map .d) 0),(3,a.2.1),(4,aH a.1)],[],a.2.2⟩) (λa=>p.aj.length-a.1) (λa=>a.1<=p.aj.length/\B3 9 1 H a.2.1 (((p.aj.take a.1).map (·.name)).map rS) a.2.2) (0,.d (.k (.slice none 0 0)),H) ⟨⟨by simp,.nil⟩,by simp[ax]⟩ ?_
 rintro⟨i,x,H'⟩ ⟨hi,aA⟩;simp only at hi aA;simp[ax];by_cases h:i<p.aj.length
 ·have h6:(i:Int)<=6:=by omega
  have h6':¬6<(i:Int):=by omega
  simp[h,h6,h6',List.getElem?_eq_getElem h,ez,ai,aA.plain.all];refine eE.BE rS ((p.aj.take i).map (·.name)) [p.aj[i].name] F9 rfl P6 (by simp) (λ_=>rfl) (x:=x) (by simp) aA (by simp[rS,rowsOf]) (by simp) (by simp;omega) (by simp) λx' H2 aG=>?_
  have ht:(p.aj.take i).map (·.name)++[p.aj[i].name]=(p.aj.take (i+1)).map (·.name):=by rw[<-aR h,List.map_append];rfl
  rw[ht]at aG;simp[aG.plain.all,aG.only,aB h hf.2.1];exact NX.go (i+1,x',H2) (by simp;omega) ⟨h,aG⟩ (by simp[aG.only,aG.plain.all,ax])
 ·have:i=p.aj.length:=by omega
  subst this;rw[List.take_length]at aA;have hz:=aA.fz;simp[aA.plain.all,hz.1,an];exact hz.2
open Classical in
theorem yo(l:List ca)(hl:∀s∈l,cN s):aC prog 178 [sl (l.map rS)] (.d (.k (.bool (decide (oI l))))):=by
 have cc:=aP;refine aC.body aP func178 rfl call178 (by rw[ntmps178];simp) rfl λhf H=>?_
 simp[ntmps178,results178]at hf|-;refine AW.aU cc (λi:Nat=>⟨[(0,.d (.sl (l.map rS))),(3,aH i)],[],H⟩) (λi=>l.length-i) (λi=>i<=l.length/\∀j (h:j<l.length),j<i->gE l[j]=true/\l[j]∉l.take j) 0 (by simp) λi hi=>?_
 simp;refine⟨λh=>?_,λh=>?_⟩
 ·have hn:=KJ l[i] (hl _ (List.getElem_mem h));have hh:=oc (l.take i) l[i];simp at hh;refine AW.draw cc [(4,.n),(14,.n)] (.q 0<|.q 1<|.q 2<|.q 3<|.q 4<|.q 5<|.q 6<|.q 7<|.q 8<|.q 10<|.q 11<|.q 12<|.q 9<|.q 13<|.q 14<|.q 15<|.done) (by kernel_rfl) ?_
  simp[h,List.getElem?_eq_getElem h,rS];refine FC.aJ hn ?_;simp[h,List.getElem?_eq_getElem h,rS];refine⟨λq=>⟨q,Nat.le_of_lt h⟩,sV.aJ (λ_=>by rw[<-List.map_take]at*;exact hh) ?_⟩
  simp;refine⟨λq hd=>?_,λq1 q2=>NX.go (i+1) (by omega) ⟨h,λj hj hji=>?_⟩ (by simp[aB h hf.1])⟩
  ·have:=hd i h;rcases q with q|q
   ·rw[this.1]at q;cases q
   ·exact this.2 ((je _ _).1 q)
  ·by_cases e:j=i
   ·subst e;exact⟨q1,λhm=>by have:=(je _ _).2 hm;omega⟩
   ·exact hi.2 j hj (by omega)
 ·have:oI l:=λj hj=>hi.2 j hj (by omega)
  simp[this]
def nV(x:PV):LV:=.agg [aH x.aD,aH x.kids,.d (.k (.bool x.name)),.d (.k (.bool x.fold)),aH x.low,aH x.high]
def gA:Option PV->LV
 |some x=>.dx [nV x,.d (.k (.bool true))]
 |none=>.dx [nV ⟨0,0,false,false,0,0⟩,.d (.k (.bool false))]
theorem zT:aC prog 220 [aH 1] (gA (bF 1)):=by
 refine aC.body aP func220 rfl call220 (by rw[ntmps220];simp) rfl λhf H=>?_
 simp[ntmps220,results220,bF,gA,nV]
theorem zS:aC prog 220 [aH 2] (gA (bF 2)):=by
 refine aC.body aP func220 rfl call220 (by rw[ntmps220];simp) rfl λhf H=>?_
 simp[ntmps220,results220,bF,gA,nV]
theorem zR:aC prog 220 [aH 3] (gA (bF 3)):=by
 refine aC.body aP func220 rfl call220 (by rw[ntmps220];simp) rfl λhf H=>?_
 simp[ntmps220,results220,bF,gA,nV]
theorem zQ:aC prog 220 [aH 4] (gA (bF 4)):=by
 refine aC.body aP func220 rfl call220 (by rw[ntmps220];simp) rfl λhf H=>?_
 simp[ntmps220,results220,bF,gA,nV]
theorem zP:aC prog 220 [aH 5] (gA (bF 5)):=by
 refine aC.body aP func220 rfl call220 (by rw[ntmps220];simp) rfl λhf H=>?_
 simp[ntmps220,results220,bF,gA,nV]
theorem zO:aC prog 220 [aH 6] (gA (bF 6)):=by
 refine aC.body aP func220 rfl call220 (by rw[ntmps220];simp) rfl λhf H=>?_
 simp[ntmps220,results220,bF,gA,nV]
theorem zN:aC prog 220 [aH 7] (gA (bF 7)):=by
 refine aC.body aP func220 rfl call220 (by rw[ntmps220];simp) rfl λhf H=>?_
 simp[ntmps220,results220,bF,gA,nV]
theorem zM:aC prog 220 [aH 8] (gA (bF 8)):=by
 refine aC.body aP func220 rfl call220 (by rw[ntmps220];simp) rfl λhf H=>?_
 simp[ntmps220,results220,bF,gA,nV]
theorem zL:aC prog 220 [aH 9] (gA (bF 9)):=by
 refine aC.body aP func220 rfl call220 (by rw[ntmps220];simp) rfl λhf H=>?_
 simp[ntmps220,results220,bF,gA,nV]
theorem ym:aC prog 220 [aH 10] (gA (bF 10)):=by
 refine aC.body aP func220 rfl call220 (by rw[ntmps220];simp) rfl λhf H=>?_
 simp[ntmps220,results220,bF,gA,nV]
theorem yj:aC prog 220 [aH 11] (gA (bF 11)):=by
 refine aC.body aP func220 rfl call220 (by rw[ntmps220];simp) rfl λhf H=>?_
 simp[ntmps220,results220,bF,gA,nV]
theorem yh:aC prog 220 [aH 12] (gA (bF 12)):=by
 refine aC.body aP func220 rfl call220 (by rw[ntmps220];simp) rfl λhf H=>?_
 simp[ntmps220,results220,bF,gA,nV]
theorem yg:aC prog 220 [aH 13] (gA (bF 13)):=by
 refine aC.body aP func220 rfl call220 (by rw[ntmps220];simp) rfl λhf H=>?_
 simp[ntmps220,results220,bF,gA,nV]
theorem ye:aC prog 220 [aH 14] (gA (bF 14)):=by
 refine aC.body aP func220 rfl call220 (by rw[ntmps220];simp) rfl λhf H=>?_
 simp[ntmps220,results220,bF,gA,nV]
theorem yd:aC prog 220 [aH 15] (gA (bF 15)):=by
 refine aC.body aP func220 rfl call220 (by rw[ntmps220];simp) rfl λhf H=>?_
 simp[ntmps220,results220,bF,gA,nV]
theorem zK(op:Int)(h:¬(1<=op/\op<=15)):aC prog 220 [aH op] (gA (bF op)):=by
 refine aC.body aP func220 rfl call220 (by rw[ntmps220];simp) rfl λhf H=>?_
 have hn:bF op=none:=by
  unfold bF
  repeat (rw[if_neg (by omega)])
 have e1:(op==1)=false:=by rw[beq_eq_false_iff_ne];omega
 have e2:(op==2)=false:=by rw[beq_eq_false_iff_ne];omega
 have e3:(op==3)=false:=by rw[beq_eq_false_iff_ne];omega
 have e4:(op==4)=false:=by rw[beq_eq_false_iff_ne];omega
 have e5:(op==5)=false:=by rw[beq_eq_false_iff_ne];omega
 have e6:(op==6)=false:=by rw[beq_eq_false_iff_ne];omega
 have e7:(op==7)=false:=by rw[beq_eq_false_iff_ne];omega
 have e8:(op==8)=false:=by rw[beq_eq_false_iff_ne];omega
 have e9:(op==9)=false:=by rw[beq_eq_false_iff_ne];omega
 have VX:(op==10)=false:=by rw[beq_eq_false_iff_ne];omega
 have e11:(op==11)=false:=by rw[beq_eq_false_iff_ne];omega
 have e12:(op==12)=false:=by rw[beq_eq_false_iff_ne];omega
 have e13:(op==13)=false:=by rw[beq_eq_false_iff_ne];omega
 have e14:(op==14)=false:=by rw[beq_eq_false_iff_ne];omega
 have e15:(op==15)=false:=by rw[beq_eq_false_iff_ne];omega
 have f1:¬op=1:=by omega
 have f2:¬op=2:=by omega
 have f3:¬op=3:=by omega
 have f4:¬op=4:=by omega
 have f5:¬op=5:=by omega
 have f6:¬op=6:=by omega
 have f7:¬op=7:=by omega
 have f8:¬op=8:=by omega
 have f9:¬op=9:=by omega
 have f10:¬op=10:=by omega
 have f11:¬op=11:=by omega
 have f12:¬op=12:=by omega
 have f13:¬op=13:=by omega
 have f14:¬op=14:=by omega
 have f15:¬op=15:=by omega
 simp[ntmps220,results220,hn,gA,nV,f1,f2,f3,f4,f5,f6,f7,f8,f9,f10,f11,f12,f13,f14,f15]
theorem Cf(op:Int):aC prog 220 [aH op] (gA (bF op)):=by
 by_cases h:1<=op/\op<=15
 ·have:op=1\/ op=2\/ op=3\/ op=4\/ op=5\/ op=6\/ op=7\/ op=8\/ op=9\/ op=10\/ op=11\/ op=12\/ op=13\/ op=14\/ op=15:=by omega
  rcases this with rfl|rfl|rfl|rfl|rfl|rfl|rfl|rfl|rfl|rfl|rfl|rfl|rfl|rfl|rfl
  ·exact zT
  ·exact zS
  ·exact zR
  ·exact zQ
  ·exact zP
  ·exact zO
  ·exact zN
  ·exact zM
  ·exact zL
  ·exact ym
  ·exact yj
  ·exact yh
  ·exact yg
  ·exact ye
  ·exact yd
 ·exact zK op h
end Go.Aft
end
