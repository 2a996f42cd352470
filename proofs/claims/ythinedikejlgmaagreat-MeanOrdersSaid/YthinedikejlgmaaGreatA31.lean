import Derived.Test.YthinedikejlgmaaGreatA23
import Derived.Test.YthinedikejlgmaaGreatA30
set_option linter.all false
set_option maxRecDepth 20000
namespace Go.Aft
open Go.Proofs.Tryz
def a9z (b:List Item) (j:Nat):Bool:=recB (b.getD j default).rec_ && decide ((b.getD j default).n ≠ 0/\-1000000<=(b.getD j default).n/\(b.getD j default).n<=1000000) && (decide (j=0) || a2e (b.getD (j - 1) default).rec_ (b.getD j default).rec_)
def a3r (b:List Item):Bool:=(List.range b.length).all (a9z b) && decide (b.length<=300)
def d4s (b:List Item):Bool:=!b.any fun x=>decide (x.n < 0)
def a8f (b:List Item):Bool:=a3r b && d4s b
theorem a5f {b:List Item} {i:Nat} (h:i < b.length) (e:a9z b i=false):a3r b=false:=by
 unfold a3r
 have:(List.range b.length).all (a9z b)=false:=List.all_eq_false.2 ⟨i,List.mem_range.2 h,by simp [e]⟩
 rw [this];rfl
theorem c9c {b:List Item} (h:∀ j,j < b.length->a9z b j=true):a3r b=decide (b.length<=300):=by
 unfold a3r
 rw [List.all_eq_true.2 fun j hj=>h j (List.mem_range.1 hj)];rfl
theorem b1f (n lo hi:Int):AFun prog 173 [lvI n,lvI lo,lvI hi] (.d (.k (.bool (inB n lo hi)))):=by
 refine AFun.body cx0_ok func173 rfl call173 (by rw [ntmps173];simp) rfl fun _ H=>?_
 simp [ntmps173,results173,inB]
theorem e6e (r:Rec):AFun prog 172 [lv (rRec r)] (.d (.k (.bool (recB r)))):=by
 refine AFun.body (a0g (p:=kds [1] [] [])) func172 rfl call172 (by rw [ntmps172];simp) rfl fun _ H=>?_
 simp [ntmps172,results172,rRec]
 refine EC.afun (b1f _ _ _) ?_
 cases h1:inB r.at_ 0 200 with
 | false=>simp [recB,h1]
 | true =>
  simp
  refine EC.afun (b1f _ _ _) ?_
  cases h2:inB r.key (-1000000000) 1000000000 with
  | false=>simp [recB,h1,h2]
  | true =>
   simp
   refine EC.afun (b1f _ _ _) ?_
   simp [recB,h1,h2]
def orM (l:List Int):Int:=(l.find? fun x=>decide (x ≠ 0)).getD 0
theorem f4z {l:List Int} {i:Nat} (h:i < l.length) (e:l[i] ≠ 0) (hk:∀ j (hj:j < l.length),j < i->l[j]=0):orM l=l[i]:=by
 unfold orM
 have:l.find? (fun x=>decide (x ≠ 0))=some l[i]:=by
  rw [List.find?_eq_some_iff_getElem]
  refine ⟨by simpa using e,i,h,rfl,fun j hj=>?_⟩
  simp [hk j (by omega) hj]
 rw [this];rfl
theorem e8c {l:List Int} (hk:∀ j (hj:j < l.length),l[j]=0):orM l=0:=by
 unfold orM
 have:l.find? (fun x=>decide (x ≠ 0))=none:=List.find?_eq_none.2 fun x hx=>by
  obtain ⟨j,hj,rfl⟩:=List.mem_iff_getElem.1 hx
  simp [hk j hj]
 rw [this];rfl
theorem f5o (l:List Int):AFun prog 216 [sl (l.map rI)] (lvI (orM l)):=by
 have cc:=cx0_ok
 refine AFun.body cx0_ok func216 rfl call216 (by rw [ntmps216];simp) rfl fun hf H=>?_
 simp [ntmps216,results216] at hf |-
 refine AW.a0w cc (fun i:Nat=>⟨[(3,lvI 0),(6,sl (l.map rI)),(7,lvI l.length),(8,lvI i)],[],H⟩) (fun i=>l.length - i) (fun i=>i<=l.length/\∀ j (h:j < l.length),j < i->l[j]=0) 0 ⟨⟨Nat.zero_le _,fun j _ hj=>absurd hj (by omega)⟩,by simp⟩ ?_
 rintro i ⟨hi,hk⟩
 simp
 refine ⟨fun h=>?_,fun h=>?_⟩
 ·have hw':=wrap_succ h hf.1
  simp [h,List.getElem?_eq_getElem h]
  refine ⟨trivial,?_⟩
  simp [rI]
  refine ⟨fun e=>(f4z h e hk).symm,fun e=>NX.go (i+1) (Nat.sub_lt_sub_left h (Nat.lt_succ_self i)) ⟨h,fun j hj hji=>?_⟩ (by simp [hw'])⟩
  by_cases z:j=i
  ·subst z;exact e
  ·exact hk j hj (by omega)
 ·exact (e8c fun j hj=>hk j hj (by omega)).symm
theorem f2r (a b:Rec):(orM [cmpI a.at_ b.at_,cmpI a.key b.key,cmpI a.val b.val] < 0)=(a2e a b=true):=by
 unfold orM a2e cmpI
 refine propext ?_
 simp only [List.find?,decide_eq_true_eq]
 repeat' split
 all_goals simp_all <;> omega
theorem d3z (a b:Rec):AFun prog 174 [lv (rRec a),lv (rRec b)] (lvI (orM [cmpI a.at_ b.at_,cmpI a.key b.key,cmpI a.val b.val])):=by
 refine AFun.body (a0g (p:=kds [2,3] [] [])) func174 rfl call174 (by rw [ntmps174];simp) rfl fun _ H=>?_
 have cc:=a0g (p:=kds [2,3] [] [])
 have hr:List.range' 0 3=[0,1,2]:=rfl
 have ho:=f5o [cmpI a.at_ b.at_,cmpI a.key b.key,cmpI a.val b.val]
 simp at ho
 simp [ntmps174,results174,rRec]
 refine AW.draw cc [(4,.n),(9,.n),(14,.n),(16,.n)] (.q 0<|.q 2<|.q 5<|.q 7<|.q 10<|.q 12<|.q 1<|.q 3<|.q 4<|.q 6<|.q 8<|.q 9<|.q 11<|.q 13<|.q 14<|.q 15<|.q 16<|.q 17<|.done) (by kernel_rfl) ?_
 simp
 refine FC.afun (a8m _ _) ?_
 simp
 refine FC.afun (a8m _ _) ?_
 simp
 refine FC.afun (a8m _ _) ?_
 simp [hr]
 refine FC.afun ho ?_
 simp
theorem e6f (b:List Item):AFun prog 112 [sl (b.map a0i)] (.d (.k (.bool (a3r b)))):=by
 have cc:=a0g (p:=kds [] [] [])
 refine AFun.body (a0g (p:=kds [] [] [])) func112 rfl call112 (by rw [ntmps112];simp) rfl fun hf H=>?_
 simp [ntmps112,results112] at hf |-
 refine AW.a0w cc (fun i:Nat=>⟨[(0,sl (b.map a0i)),(5,sl (b.map a0i)),(6,lvI b.length),(7,lvI i)],[],H⟩) (fun i=>b.length - i) (fun i=>i<=b.length/\∀ j,j < i->a9z b j=true) 0 ⟨⟨Nat.zero_le _,fun j hj=>absurd hj (by omega)⟩,by simp⟩ ?_
 rintro i ⟨hi,hk⟩
 simp
 refine ⟨fun h=>?_,fun h=>?_⟩
 ·obtain ⟨x,hx⟩:∃ x,b[i]=x:=⟨_,rfl⟩
  have hg:b.getD i default=x:=by rw [List.getD_eq_getElem?_getD,List.getElem?_eq_getElem h,<- hx];rfl
  have hrec:=e6e x.rec_
  simp [rRec] at hrec
  simp [h,List.getElem?_eq_getElem h,hx,a0i]
  refine EC.afun hrec ?_
  by_cases h1:recB x.rec_=true
  ·simp [h1]
   by_cases h0:x.n=0
   ·have hb:a9z b i=false:=by unfold a9z;rw [hg];simp [h0]
    simp [h0,a5f h hb]
   ·simp [h0]
    refine EC.afun (b1f _ _ _) ?_
    by_cases hin:inB x.n (-1000000) 1000000=true
    ·simp [hin]
     have hw':=wrap_succ h hf.1
     have hcm:=fun y:Item=>d3z y.rec_ x.rec_
     have hord:=fun y:Item=>f2r y.rec_ x.rec_
     have hin':-1000000<=x.n/\x.n<=1000000:=by unfold inB at hin;simpa using hin
     have hit:a9z b i=(decide (i=0) || a2e (b.getD (i - 1) default).rec_ x.rec_):=by
      unfold a9z;rw [hg,h1];simp [h0,hin']
     simp [rRec] at hcm
     refine ⟨fun q=>absurd q h0,fun _=>?_⟩
     refine AW.draw cc [(11,.n)] (.q 0<|.q 1<|.q 2<|.q 3<|.q 4<|.q 5<|.q 6<|.q 7<|.q 9<|.q 8<|.q 10<|.q 11<|.q 12<|.q 13<|.done) (by kernel_rfl) ?_
     by_cases hi0:i=0
     ·subst hi0
      have hb:a9z b 0=true:=by rw [hit];rfl
      simp
      refine FCg.afun (v:=.d (.k (.int .i64 0))) (fun q=>by cases q) ?_
      simp
      exact NX.go 1 (by omega) ⟨h,fun j hj=>by rw [show j=0 by omega];exact hb⟩ (by simp;exact (by decide:IntKind.i64.wrap 1=1))
     ·have hi1:i - 1 < b.length:=by omega
      obtain ⟨y,hy⟩:∃ y,b[i - 1]=y:=⟨_,rfl⟩
      have hgy:b.getD (i - 1) default=y:=by rw [List.getD_eq_getElem?_getD,List.getElem?_eq_getElem hi1,<- hy];rfl
      have hwp:IntKind.i64.wrap ((i:Int) - 1)=i - 1:=by rw [wrap64] <;> omega
      have htn:((i:Int) - 1).toNat=i - 1:=by omega
      have hpos:0 < i:=by omega
      rw [hgy] at hit
      have ho:=hord y
      have hcy:=hcm y
      simp [hi0,hpos,hwp,htn,List.getElem?_eq_getElem hi1,hy,a0i]
      refine ⟨⟨by omega,by omega⟩,FCg.afun (fun _=>hcy) ?_⟩
      simp
      refine ⟨fun q=>?_,fun q=>?_⟩
      ·have hb:a9z b i=false:=by
        rw [hit]
        cases e:a2e y.rec_ x.rec_ with
        | true=>rw [<- ho] at e;omega
        | false=>simp [hi0]
       exact a5f h hb
      ·have hb:a9z b i=true:=by
        rw [hit]
        have:=ho.mp (by omega)
        simp [this]
       refine NX.go (i+1) (Nat.sub_lt_sub_left h (Nat.lt_succ_self i)) ⟨h,fun j hj=>?_⟩ (by simp [hw'])
       by_cases z:j=i
       ·subst z;exact hb
       ·exact hk j (by omega)
    ·have hb:a9z b i=false:=by
      unfold a9z;rw [hg]
      unfold inB at hin
      simp at hin |-
      intro _ _ h2 h3
      have:=hin h2
      omega
     simp [hin,a5f h hb]
  ·have hb:a9z b i=false:=by unfold a9z;rw [hg];simp [h1]
   simp [h1,a5f h hb]
 ·rw [c9c fun j hj=>hk j (by omega)]
  have e:(decide ((b.length:Int)<=300))=decide (b.length<=300):=by rw [Bool.eq_iff_iff];simp;omega
  simp [e]
theorem e6h (b:List Item):AFun prog 57 [sl (b.map a0i)] (lvI (if a3r b then 0 else 2)):=by
 refine AFun.body cx0_ok func57 rfl call57 (by rw [ntmps57];simp) rfl fun hf H=>?_
 have h:=e6f b
 simp at h
 simp [ntmps57,results57]
 refine EC.afun h ?_
 cases a3r b <;> simp
theorem d9f (a b:Rec):AFun prog 147 [lv (rRec a),lv (rRec b)] (.d (.k (.bool (a2e a b)))):=by
 refine AFun.body (a0g (p:=kds [2,3] [] [])) func147 rfl call147 (by rw [ntmps147];simp) rfl fun _ H=>?_
 simp [ntmps147,results147,rRec]
 unfold a2e
 refine ⟨fun q=>?_,fun q=>⟨fun q2=>?_,fun q2=>?_⟩⟩ <;> rw [decide_eq_decide] <;> omega
end Go.Aft
