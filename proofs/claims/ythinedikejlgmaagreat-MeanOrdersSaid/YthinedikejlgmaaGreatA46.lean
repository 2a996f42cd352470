import Derived.Test.YthinedikejlgmaaGreatA45
import Derived.Test.YthinedikejlgmaaGreatA42
import Derived.Test.YthinedikejlgmaaGreatA24
set_option linter.all false
section
set_option maxRecDepth 20000
namespace Go.Aft
open Go.Proofs.Tryz
theorem c7j (a b:Event):AFun prog 90 [lv (a0t a),lv (a0t b)] (.d (.k (.bool (decide (evLt a b))))):=by
 refine AFun.body (a0g (p:=kds [2,3] [] [])) func90 rfl call90 (by rw [ntmps90];simp) rfl fun _ H=>?_
 simp [ntmps90,results90,a0t,rRec]
 refine ⟨fun q=>?_,fun q=>⟨fun q2=>?_,fun q2=>?_⟩⟩
 all_goals (unfold evLt;omega)
end Go.Aft
end
section
set_option maxRecDepth 20000
namespace Go.Aft
open Go.Proofs.Tryz
theorem AW.f6j {P:Program} {rd:RD} {x:Code} {s:S} {Q:QT} (n:Nat) {e:TypeId} {g sz:Nat} {cells:List LV} {ex:Bool} (hn:s.H.obj n=some (.vec e g sz cells ex)) (h:@AW P rd ⟨x⟩ { s with H:=s.H.set n (.vec e g sz (fzs cells) ex) } Q):@AW P rd ⟨x⟩ s Q:=by
 refine fun E a w hs=>h E a w ?_
 obtain ⟨h2,G,lm,h1,hM,hx,henv,he⟩:=hs
 refine ⟨h2,G,lm,h1,⟨hM.imm,fun b o v hv=>?_,hM.fresh,hM.lmL,hM.loc,fun m o ho=>?_⟩,⟨⟨hx.le,hx.nx,hx.os,hx.tape,hx.output,hx.drawn,hx.size,hx.frame,hx.own⟩,hx.nl⟩,henv,he⟩
 ·rcases hM.immOwn b o v hv with q | ⟨m,e',sz',k,q1,q2,q3⟩
  ·exact .inl q
  ·refine .inr ⟨m,e',sz',k,q1,?_,q3⟩
   rw [GH.a0f,if_neg]
   ·exact q2
   ·intro q;subst q;rw [hn] at q2;cases q2
 ·rw [GH.a0f] at ho
  split at ho
  ·rename_i e0
   subst e0
   cases ho
   obtain ⟨r1,r2,r3,b,C,vs,rest,r4,r5,r6,r7,r8,r9,r10,r11,r12⟩:=hM.nmd _ _ hn
   exact ⟨r1,r2,r3,b,C,vs,rest,r4,r5,r6,r7,r8,c3w _ _ r9,r10,r11,by rw [c5n,List.length_map];exact r12⟩
  ·exact hM.nmd m o ho
theorem b8q (s t:Str) (v:LV):∀ es:List (Value × LV),(∀ (a:Value) (b:LV),(a,b) ∈ es->(KK.sc Sc.str).has a=true)->a1c (.string s) (mput (.string t) v es)=if s=t then some v else a1c (.string s) es
 | [],_=>by simp only [mput,a1c,a9y];by_cases h:s=t <;> simp [h]
 | (a,b) :: es,hk=>by
  have ih:=b8q s t v es fun a b hab=>hk a b (by simp [hab])
  have ha:=hk a b (by simp)
  cases a with
  | string u =>
   simp only [mput,a9y]
   by_cases h1:t=u
   ·simp only [h1,decide_true,if_true,a1c,a9y]
    by_cases h2:s=u <;> simp [h2]
   ·simp only [h1,decide_false,Bool.false_eq_true,if_false,a1c,a9y,ih]
    by_cases h2:s=u
    ·have:¬ u=t:=fun e=>h1 e.symm
     simp [h2,this]
    ·simp [h2]
  | _=>simp [KK.has,Sc.has] at ha
theorem c8c (t:Str) (v:LV):∀ es:List (Value × LV),(∀ (a:Value) (b:LV),(a,b) ∈ es->(KK.sc Sc.str).has a=true)->∀ (a:Value) (b:LV),(a,b) ∈ mput (.string t) v es->(KK.sc Sc.str).has a=true
 | [],_,a,b,hab=>by
  simp only [mput,List.mem_singleton,Prod.mk.injEq] at hab
  rw [hab.1];rfl
 | (c,d) :: es,h,a,b,hab=>by
  simp only [mput] at hab
  split at hab
  ·rcases List.mem_cons.1 hab with q | q
   ·cases q;rfl
   ·exact h a b (List.mem_cons_of_mem _ q)
  ·rcases List.mem_cons.1 hab with q | q
   ·rw [show a=c from (Prod.mk.inj q).1];exact h c d (List.mem_cons_self ..)
   ·exact c8c t v es (fun a b hab=>h a b (List.mem_cons_of_mem _ hab)) a b q
structure MapI (es:List (Value × LV)) (names:List Str) (f:Nat->LV) (i:Nat):Prop where
 key:∀ (a:Value) (b:LV),(a,b) ∈ es->(KK.sc Sc.str).has a=true
 get:∀ j (h:j < names.length),j < i->a1c (.string names[j]) es=some (f j)
theorem MapI.nil (names:List Str) (f:Nat->LV):MapI [] names f 0:=⟨fun _ _ h=>absurd h List.not_mem_nil,fun j _ h=>absurd h (by omega)⟩
theorem MapI.put {es:List (Value × LV)} {names:List Str} {f:Nat->LV} {i:Nat} (h:MapI es names f i) (hi:i < names.length) (hd:∀ j (hj:j < names.length),j < i->names[j] ≠ names[i]):MapI (mput (.string names[i]) (f i) es) names f (i+1):=by
 refine ⟨c8c _ _ _ h.key,fun j hj hji=>?_⟩
 rw [b8q _ _ _ _ h.key]
 by_cases e:j=i
 ·subst e;rw [if_pos rfl]
 ·rw [if_neg (hd j hj (by omega))];exact h.get j hj (by omega)
theorem MapI.all {es:List (Value × LV)} {names:List Str} {f:Nat->LV} (h:MapI es names f names.length):MapS es names f:=by
 refine ⟨h.key,fun name hn=>?_⟩
 have hlt:=b9l names name
 obtain ⟨i,hi⟩:∃ i:Nat,idx names name=(i:Int):=⟨(idx names name).toNat,by omega⟩
 rw [hi] at hlt |-
 have hil:i < names.length:=by omega
 have hname:names[i]=name:=by
  have h2:=hi
  unfold idx at h2
  split at h2
  ·rename_i j hj
   obtain ⟨h1,h3,_⟩:=List.findIdx?_eq_some_iff_getElem.1 hj
   have:j=i:=by omega
   subst this
   simpa using h3
  ·omega
 have:=h.get i hil hil
 rw [hname] at this
 simpa using this
end Go.Aft
end
section
set_option maxRecDepth 20000
namespace Go.Aft
open Go.Proofs.Tryz
theorem und186:prog.underlying 186=some (.array 2 3):=by kernel_rfl
theorem b7m (w:World):(sizeOf 3).run prog w=.ok 1 w:=by
 have h:(prog.info? 3).map (·.size)=some 1:=by kernel_rfl
 obtain ⟨i,h1,h2⟩:=Option.map_eq_some_iff.1 h
 simp [sizeOf,typeInfo,h1,h2]
theorem isAgg3 (w:World):(isAgg 3).run prog w=.ok false w:=by simp [isAgg,run_underlying underlying3]
theorem c4u {xs:List Value} (h:hasAll [.int .i64,.int .i64] xs=true):∃ a b,xs=[.int .i64 a,.int .i64 b]:=by
 obtain ⟨a,us,e1,h1⟩:=a5l h
 obtain ⟨b,vs,e2,h2⟩:=a5l h1
 have e3:=a7n h2
 exact ⟨a,b,by rw [e1,e2,e3]⟩
def b9q (t:TypeId):Option (List Sc):=if t=186 then some [.int .i64,.int .i64] else none
theorem b6b {T:TypeId} {ks:List Sc} (h:b9q T=some ks):T=186/\ks=[.int .i64,.int .i64]:=by
 unfold b9q at h
 split at h
 ·rename_i q;exact ⟨q,(Option.some.inj h).symm⟩
 ·cases h
theorem e8u (b:Bool) (d:Nat) (a:Int) (w:World):(Instr.checkKey b (d+1) 3 (.int .i64 a)).run prog w=.ok () w:=by simp [Instr.checkKey,run_underlying underlying3]
theorem e8t (d:Nat) (b:Bool) (x y:Int) (w:World):(Instr.checkKey b (d+2) 186 (.agg #[.int .i64 x,.int .i64 y])).run prog w=.ok () w:=by
 rw [Instr.checkKey]
 simp only [Sem.run_bind,run_underlying und186,Result.andThen_ok]
 have hr:List.range' 0 2=[0,1]:=rfl
 simp [hr,b7m,part,isAgg3,e8u]
theorem f3u (m:Nat) (a b c d:Int) (w:World):(Op.equalIn (m+2) 186 (.agg #[.int .i64 a,.int .i64 b]) (.agg #[.int .i64 c,.int .i64 d])).run prog w=.ok (a == c && b == d) w:=by
 rw [Op.equalIn]
 simp only [Sem.run_bind,run_underlying und186,Result.andThen_ok]
 have hr:List.range' 0 2=[0,1]:=rfl
 have he:=fun (u v:Int) (w:World)=>run_equalIn_int (P:=prog) w m 3 .i64 .i64 u v underlying3
 simp [hr,b7m,part,isAgg3,he]
 by_cases h1:a=c <;> by_cases h2:b=d <;> simp [h1,h2]
theorem e0z:c6j prog b9q:=by
 intro T ks h xs w b h1
 obtain ⟨rfl,rfl⟩:=b6b h
 obtain ⟨x,y,rfl⟩:=c4u h1
 exact e8t 9998 b x y w
theorem e5f:EqOk prog b9q:=by
 intro T ks h xs ys w h1 h2
 obtain ⟨rfl,rfl⟩:=b6b h
 obtain ⟨a,b,rfl⟩:=c4u h1
 obtain ⟨c,d,rfl⟩:=c4u h2
 have gd:∀ x y,(eqGuard .eql 186 x y (.agg [Value.int .i64 a,Value.int .i64 b].toArray) (.agg [Value.int .i64 c,Value.int .i64 d].toArray)).run prog w=.ok () w/\(eqGuard .neq 186 x y (.agg [Value.int .i64 a,Value.int .i64 b].toArray) (.agg [Value.int .i64 c,Value.int .i64 d].toArray)).run prog w=.ok () w:=fun x y=>⟨run_eqGuard_agg w _ _ x y _ _ (by kernel_rfl),run_eqGuard_agg w _ _ x y _ _ (by kernel_rfl)⟩
 refine ⟨?_,gd⟩
 rw [show ((10000:Nat))=9998+2 from rfl]
 refine (f3u 9998 a b c d w).trans ?_
 simp [allEq,scEq]
def cxA (pub:Nat->Kd):Cx:=⟨tyOf a0s,b9q,pub,fun _ _=>none,RD.any⟩
@[simp] theorem eqTabA186:b9q 186=some [.int .i64,.int .i64]:=rfl
@[simp] theorem cxA_ty {p:Nat->Kd}:(cxA p).ty=tyOf a0s:=rfl
@[simp] theorem cxA_eqt {p:Nat->Kd} (t:TypeId):(cxA p).eqt t=b9q t:=rfl
@[simp] theorem cxA_pub {p:Nat->Kd} (t:Nat):(cxA p).pub t=p t:=rfl
@[simp] theorem cxA_spec {p:Nat->Kd} (f:FuncId) (a:List LV):(cxA p).spec f a=none:=rfl
@[simp] theorem cxA_rd {p:Nat->Kd}:(cxA p).rd=RD.any:=rfl
theorem f1v {p:Nat->Kd}:(cxA p).ok prog:=⟨b6p,e5f,e0z,fun f args pre v h=>(by cases h),(by kernel_rfl)⟩
end Go.Aft
end
section
set_option maxRecDepth 20000
namespace Go.Aft
theorem d5m (x:Item):∀ l:List Item,(putI x l).length<=l.length+1
 | []=>by simp [putI]
 | y :: l=>by
  have:=d5m x l
  rw [putI]
  split
  ·simp
  ·split <;> simp <;> omega
theorem c6x:∀ l:List Item,(c0n l).length<=l.length
 | []=>by simp [c0n]
 | x :: l=>by
  have h1:=d5m x (c0n l)
  have h2:=c6x l
  rw [c0n,List.length_cons];omega
theorem f0g (l:List Item):(bagM l).length<=l.length:=Nat.le_trans (List.length_filter_le _ _) (c6x l)
theorem d1b (l:List Item) (t:Int):(a1i l t).length<=l.length:=Nat.le_trans (f0g _) (List.length_filter_le _ _)
theorem c9t {r:Rec}:∀ {l:List Item},(∀ x ∈ l,x.n=1)->0<=cntM l r/\cntM l r<=l.length
 | [],_=>⟨Int.le_refl _,Int.le_refl _⟩
 | x :: l,h=>by
  have ih:=c9t (r:=r) (l:=l) fun y hy=>h y (by simp [hy])
  have hx:=h x (by simp)
  rw [cntM,List.length_cons]
  split <;> omega
theorem c7e {l:List Event} {src:Int} {x:Item} (h:x ∈ a5a l src):∃ e ∈ l,e.src=src/\x = ⟨e.rec_,1⟩:=by
 unfold a5a at h
 obtain ⟨e,he,rfl⟩:=List.mem_map.1 h
 exact ⟨e,(List.mem_filter.1 he).1,of_decide_eq_true (List.mem_filter.1 he).2,rfl⟩
theorem d1g {l:List Event} (hl:l.length<=60) (hi:∀ e ∈ l,ItIn ⟨e.rec_,1⟩) (src:Int):a1u (b6g l src):=by
 have hlen:=a9i l src
 have h1:∀ x ∈ a5a l src,x.n=1/\ItIn x:=fun x hx=>by
  obtain ⟨e,he,_,rfl⟩:=c7e hx
  exact ⟨rfl,hi e he⟩
 refine f1z (Int.le_refl _) (fun x hx=>(h1 x hx).2.b) ?_
 simp only [b0f,Bool.and_eq_true,decide_eq_true_eq,List.all_eq_true]
 refine ⟨?_,fun x hx=>?_⟩
 ·have:=d1b (a5a l src) 200
  omega
 ·have h2:=(a6n.1 hx).2
  have h3:=c9t (r:=x.rec_) (l:=(a5a l src).filter fun x=>decide (0<=x.rec_.at_/\x.rec_.at_<=200)) fun y hy=>(h1 y (List.mem_filter.1 hy).1).1
  have h4:=List.length_filter_le (fun x:Item=>decide (0<=x.rec_.at_/\x.rec_.at_<=200)) (a5a l src)
  omega
end Go.Aft
end
