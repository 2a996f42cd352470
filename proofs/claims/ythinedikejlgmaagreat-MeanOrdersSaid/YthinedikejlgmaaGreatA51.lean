import Derived.Test.YthinedikejlgmaaGreatA46
import Derived.Test.YthinedikejlgmaaGreatA50
import Derived.Test.YthinedikejlgmaaGreatA44
import Derived.Test.YthinedikejlgmaaGreatA45
import Derived.Test.YthinedikejlgmaaGreatA39
set_option linter.all false
section
set_option maxRecDepth 20000
namespace Go.Aft
open Go.Proofs.Tryz
theorem e5c {l:List Event} (h:b9o l=true):b3s (l.map evN)=none:=b9z fun j hj=>by
 have hjl:j < l.length:=by simpa using hj
 unfold a4m
 rw [List.getElem?_map,List.getElem?_eq_getElem hjl]
 simp only [Option.map_some]
 refine List.findIdx?_eq_none_iff.2 fun a ha=>?_
 rw [<- List.map_take] at ha
 obtain ⟨x,hx,rfl⟩:=List.mem_map.1 ha
 unfold b9o at h
 rw [List.all_eq_true] at h
 have h1:=h j (List.mem_range.2 hjl)
 have hg:l.getD j default=l[j]:=by rw [List.getD_eq_getElem?_getD,List.getElem?_eq_getElem hjl];rfl
 unfold evOk at h1
 rw [hg,Bool.and_eq_true,Bool.not_eq_true',List.any_eq_false] at h1
 have h2:=h1.1 x hx
 have h3:¬ (x.src=l[j].src/\x.id=l[j].id):=by simpa using h2
 unfold b0i evN
 exact decide_eq_false fun w=>h3 ⟨w.2.2.1,w.2.2.2.1⟩
def evR (l:List Event) (srcs:Int) (i:Nat):Bool:=inB (l.getD i default).src 0 (srcs - 1) && inB (l.getD i default).id 0 999 && recB (l.getD i default).rec_ && evOk l i (l.getD i default)
def a8l (l:List Event) (srcs:Int):Bool:=inB srcs 1 4 && decide (l.length<=60) && (List.range l.length).all (evR l srcs)
theorem c3q (a b:Event):b0k a b=decide (evLt a b):=rfl
theorem c7k (l:List Event) (srcs:Int):AFun prog 45 [sl (l.map a0t),lvI srcs] (.d (.k (.bool (a8l l srcs)))):=by
 have cc:=a0g (p:=kds [] [] [])
 refine AFun.body (a0g (p:=kds [] [] [])) func45 rfl call45 (by rw [ntmps45];simp) rfl fun hf H=>?_
 simp [ntmps45,results45] at hf |-
 refine EC.afun (a8e _ _ _) ?_
 cases h1:inB srcs 1 4 with
 | false=>simp [a8l,h1]
 | true =>
  have hs:1<=srcs/\srcs<=4:=by unfold inB at h1;simpa using h1
  by_cases h2:l.length<=60
  ·have h2':¬ (60 < (l.length:Int)):=by omega
   have hws:IntKind.i64.wrap (srcs - 1)=srcs - 1:=by rw [wrap64] <;> omega
   simp [h2']
   refine AW.a0w cc (fun i:Nat=>⟨[(0,sl (l.map a0t)),(1,lvI srcs),(5,lvI i)],[],H⟩) (fun i=>l.length - i) (fun i=>i<=l.length/\∀ j,j < i->evR l srcs j=true) 0 ⟨⟨Nat.zero_le _,fun j hj=>absurd hj (by omega)⟩,by simp⟩ ?_
   rintro i ⟨hi,hk⟩
   simp
   refine ⟨fun h=>?_,fun h=>?_⟩
   ·obtain ⟨x,hx⟩:∃ x,l[i]=x:=⟨_,rfl⟩
    have hg:l.getD i default=x:=by rw [List.getD_eq_getElem?_getD,List.getElem?_eq_getElem h,<- hx];rfl
    have hbad:evR l srcs i=false->a8l l srcs=false:=fun q=>by
     unfold a8l
     have:(List.range l.length).all (evR l srcs)=false:=List.all_eq_false.2 ⟨i,List.mem_range.2 h,by simp [q]⟩
     rw [this];simp
    have hrec:=e2o x.rec_
    simp [rRec] at hrec
    refine AW.draw cc [(7,.n),(15,.n),(24,.n),(40,.n)] (.q 0<|.q 1<|.q 2<|.q 3<|.q 5<|.q 6<|.q 4<|.q 7<|.q 8<|.q 9<|.q 10<|.q 11<|.q 12<|.q 13<|.q 14<|.q 15<|.q 16<|.q 17<|.q 18<|.q 19<|.q 20<|.q 21<|.q 22<|.q 23<|.q 24<|.q 25<|.q 26<|.q 27<|.q 28<|.q 29<|.q 30<|.q 31<|.q 32<|.q 33<|.q 34<|.q 36<|.q 37<|.q 38<|.q 35<|.q 39<|.q 40<|.q 41<|.q 42<|.q 43<|.done) (by kernel_rfl) ?_
    simp [h,List.getElem?_eq_getElem h,hx,a0t,rRec,hws]
    refine FC.afun (a8e _ _ _) ?_
    have hg1:i ≠ 0->∃ (h':i - 1 < l.length),True:=fun _=>⟨by omega,trivial⟩
    have hwi:IntKind.i64.wrap ((i:Int)+1)=i+1:=wrap_succ (n:=9223372036854775807) (show i < 9223372036854775807 by omega) (Nat.le_refl _)
    obtain ⟨okI,hokI⟩:∃ okI:Bool,(inB x.src 0 (srcs - 1) && inB x.id 0 999 && recB x.rec_ && (decide (i=0) || b0k (l.getD (i - 1) default) x))=okI:=⟨_,rfl⟩
    have hevR:evR l srcs i=(okI && !(l.take i).any (fun y=>decide (y.src=x.src/\y.id=x.id))):=by
     unfold evR evOk
     rw [hg,<- hokI]
     cases inB x.src 0 (srcs - 1) <;> cases inB x.id 0 999 <;> cases recB x.rec_ <;> cases (decide (i=0) || b0k (l.getD (i - 1) default) x) <;> simp
    by_cases hi0:i=0
    ·subst hi0
     simp [h,List.getElem?_eq_getElem h,hx,a0t,rRec,hws]
     refine FCg.afun (fun _=>a8e _ _ _) ?_
     simp [h,List.getElem?_eq_getElem h,hx,a0t,rRec,hws]
     refine FCg.afun (fun _=>hrec) ?_
     simp [h,List.getElem?_eq_getElem h,hx,a0t,rRec,hws]
     refine FCg.afun (v:=.d (.k (.bool false))) (fun q=>by cases q) ?_
     simp
     refine ⟨fun q=>?_,fun a1 a2 a3=>?_⟩
     ·refine hbad ?_
      rw [hevR,<- hokI]
      rcases q with (q | q) | q <;> simp [q]
     ·have hok:okI=true:=by rw [<- hokI,a1,a2,a3];rfl
      refine AW.a0w cc (fun j:Nat=>⟨[(0,sl (l.map a0t)),(1,lvI srcs),(5,lvI (0:Nat)),(6,lvI j)],[],H⟩) (fun j=>0 - j) (fun j=>j<=0/\∀ k (hk:k < l.length),k < j->¬ (l[k].src=x.src/\l[k].id=x.id)) 0 ⟨⟨Nat.zero_le _,fun k _ hk0=>absurd hk0 (by omega)⟩,by simp⟩ ?_
      rintro j ⟨hj,hkj⟩
      simp
      have hjeq:j=0:=by omega
      have hany:(l.take 0).any (fun y=>decide (y.src=x.src/\y.id=x.id))=false:=List.any_eq_false.2 fun y hy=>by
       obtain ⟨k,hk,rfl⟩:=List.mem_take_iff_getElem.1 hy
       simpa using hkj k (by omega) (by omega)
      have hev:evR l srcs 0=true:=by rw [hevR,hany,hok];rfl
      refine ⟨fun q=>absurd q (by omega),?_⟩
      exact NX.go (0+1) (by omega) ⟨h,fun k hk1=>by
       by_cases e:k=0
       ·rw [e];exact hev
       ·exact hk k (by omega)⟩ (by simp;exact (by decide:IntKind.i64.wrap 1=1))
    ·have hi1:i - 1 < l.length:=by omega
     obtain ⟨y,hy⟩:∃ y,l[i - 1]=y:=⟨_,rfl⟩
     have hgy:l.getD (i - 1) default=y:=by rw [List.getD_eq_getElem?_getD,List.getElem?_eq_getElem hi1,<- hy];rfl
     have hwp:IntKind.i64.wrap ((i:Int) - 1)=i - 1:=by rw [wrap64] <;> omega
     have htn:((i:Int) - 1).toNat=i - 1:=by omega
     have hpos:0 < i:=by omega
     have hbf:=c7j y x
     simp [a0t,rRec] at hbf
     rw [hgy] at hokI
     simp [h,List.getElem?_eq_getElem h,hx,a0t,rRec,hws]
     refine FCg.afun (fun _=>a8e _ _ _) ?_
     simp [h,List.getElem?_eq_getElem h,hx,a0t,rRec,hws]
     refine FCg.afun (fun _=>hrec) ?_
     simp [h,List.getElem?_eq_getElem h,hx,a0t,rRec,hws,hi0,hpos,hwp,htn,List.getElem?_eq_getElem hi1,hy]
     refine ⟨fun a1 a2 a3=>⟨⟨⟨a1,a2⟩,a3⟩,by omega,by omega⟩,FCg.afun (fun _=>hbf) ?_⟩
     simp
     refine ⟨fun q=>?_,fun a1 a2 a3 a4=>?_⟩
     ·refine hbad ?_
      rw [hevR,<- hokI]
      rcases q with ((q | q) | q) | q
      ·simp [q]
      ·simp [q]
      ·simp [q]
      ·have:b0k y x=false:=by rw [c3q];exact decide_eq_false q
       simp [hi0,this]
     ·have hok:okI=true:=by rw [<- hokI,a1,a2,a3,c3q,decide_eq_true a4];simp
      refine AW.a0w cc (fun j:Nat=>⟨[(0,sl (l.map a0t)),(1,lvI srcs),(5,lvI (i:Nat)),(6,lvI j)],[],H⟩) (fun j=>i - j) (fun j=>j<=i/\∀ k (hk:k < l.length),k < j->¬ (l[k].src=x.src/\l[k].id=x.id)) 0 ⟨⟨Nat.zero_le _,fun k _ hk0=>absurd hk0 (by omega)⟩,by simp⟩ ?_
      rintro j ⟨hj,hkj⟩
      simp
      refine ⟨fun hji=>?_,fun hji=>?_⟩
      ·have hjl:j < l.length:=by omega
       obtain ⟨z,hz⟩:∃ z,l[j]=z:=⟨_,rfl⟩
       have hwj:IntKind.i64.wrap ((j:Int)+1)=j+1:=wrap_succ (n:=9223372036854775807) (show j < 9223372036854775807 by omega) (Nat.le_refl _)
       refine AW.draw cc [] (.q 0<|.q 1<|.q 2<|.q 3<|.q 5<|.q 6<|.q 7<|.q 8<|.q 4<|.q 9<|.q 10<|.q 11<|.q 12<|.q 13<|.q 14<|.q 15<|.q 17<|.q 18<|.q 19<|.q 20<|.q 16<|.q 21<|.q 22<|.q 23<|.done) (by kernel_rfl) ?_
       by_cases hsame:z.src=x.src/\z.id=x.id
       ·have hany:(l.take i).any (fun y=>decide (y.src=x.src/\y.id=x.id))=true:=List.any_eq_true.2 ⟨z,by rw [<- hz];exact List.mem_take_iff_getElem.2 ⟨j,by omega,rfl⟩,decide_eq_true hsame⟩
        have hev:a8l l srcs=false:=hbad (by rw [hevR,hany];simp)
        simp [h,hjl,List.getElem?_eq_getElem h,List.getElem?_eq_getElem hjl,hx,hz,a0t,rRec,hsame.1,hsame.2,hev]
       ·have hgo:∀ k (hk:k < l.length),k < j+1->¬ (l[k].src=x.src/\l[k].id=x.id):=fun k hk hkj1=>by
         by_cases e:k=j
         ·subst e;rw [hz];exact hsame
         ·exact hkj k hk (by omega)
        by_cases hss:z.src=x.src
        ·have hid:¬ z.id=x.id:=fun w=>hsame ⟨hss,w⟩
         simp [h,hjl,List.getElem?_eq_getElem h,List.getElem?_eq_getElem hjl,hx,hz,a0t,rRec,hss,hid]
         exact NX.go (j+1) (by omega) ⟨by omega,hgo⟩ (by simp [hwj])
        ·simp [h,hjl,List.getElem?_eq_getElem h,List.getElem?_eq_getElem hjl,hx,hz,a0t,rRec,hss]
         exact NX.go (j+1) (by omega) ⟨by omega,hgo⟩ (by simp [hwj])
      ·have hjeq:j=i:=by omega
       have hany:(l.take i).any (fun y=>decide (y.src=x.src/\y.id=x.id))=false:=List.any_eq_false.2 fun y hy=>by
        obtain ⟨k,hk,rfl⟩:=List.mem_take_iff_getElem.1 hy
        simpa using hkj k (by omega) (by omega)
       have hev:evR l srcs i=true:=by rw [hevR,hany,hok];rfl
       exact NX.go (i+1) (by omega) ⟨h,fun k hk1=>by
        by_cases e:k=i
        ·rw [e];exact hev
        ·exact hk k (by omega)⟩ (by simp [hwi])
   ·have:i=l.length:=by omega
    subst this
    have:(List.range l.length).all (evR l srcs)=true:=List.all_eq_true.2 fun j hj=>hk j (List.mem_range.1 hj)
    simp [a8l,h1,h2,this]
  ·have h2':60 < (l.length:Int):=by omega
   simp [h2',a8l,h2]
open Classical in
theorem d1m (p:Prog) (hs:∀ s ∈ p.srcs ++ a0d p,a2b s) (l:List Event):AFun prog 43 [lv (a0h p),sl (l.map a0t)] (.d (.k (.bool (askedM p l)))):=by
 refine AFun.body (a0g (p:=kds [2] [] [])) func43 rfl call43 (by rw [ntmps43];simp) rfl fun hf H=>?_
 have h1:=c1z p hs
 have h2:=c7k l p.srcs.length
 have hm:askedM p l=(decide (formed p) && a8l l p.srcs.length):=by
  unfold askedM a8l
  by_cases hl:l.length<=60
  ·cases hf1:decide (formed p) with
   | false=>simp
   | true =>
    cases he:b9o l with
    | false =>
     have:(List.range l.length).all (evR l p.srcs.length)=false:=by
      unfold b9o at he
      obtain ⟨i,hi,q⟩:=List.all_eq_false.1 he
      refine List.all_eq_false.2 ⟨i,hi,?_⟩
      unfold evR
      simp at q
      simp [q]
     simp [this]
    | true =>
     have hc:=e5c he
     unfold a4x b5o
     rw [hc]
     simp only [Bool.true_and,hl,decide_true,Bool.and_true,List.length_map]
     congr 1
     unfold b9o at he
     rw [List.all_eq_true] at he
     rw [Bool.eq_iff_iff,Bool.not_eq_true',List.any_eq_false,List.all_eq_true]
     constructor
     ·intro h i hi
      have hil:=List.mem_range.1 hi
      have hg:l.getD i default=l[i]:=by rw [List.getD_eq_getElem?_getD,List.getElem?_eq_getElem hil];rfl
      have h3:=h (evN l[i]) (List.mem_map.2 ⟨l[i],List.getElem_mem hil,rfl⟩)
      have h4:b6l (evN l[i]) p.srcs.length=true:=by simpa using h3
      have h5:=he i hi
      unfold evR
      rw [hg] at h5 |-
      rw [h5]
      unfold b6l at h4
      simp only [evN,if_true,Bool.and_eq_true,b7l] at h4
      simp only [h4.1,h4.2.1.1,h4.2.2,Bool.and_self]
     ·intro h n hn
      obtain ⟨e,he2,rfl⟩:=List.mem_map.1 hn
      obtain ⟨i,hil,rfl⟩:=List.mem_iff_getElem.1 he2
      have hg:l.getD i default=l[i]:=by rw [List.getD_eq_getElem?_getD,List.getElem?_eq_getElem hil];rfl
      have h3:=h i (List.mem_range.2 hil)
      unfold evR at h3
      rw [hg] at h3
      simp only [Bool.and_eq_true] at h3
      have h6:inB 1 1 99=true:=by decide
      have:b6l (evN l[i]) p.srcs.length=true:=by
       unfold b6l
       simp only [evN,if_true,b7l,h3.1.1.1,h3.1.1.2,h3.1.2,h6,Bool.and_self]
      simp [this]
  ·simp [hl]
 rw [hm]
 simp [a0h] at h1 h2
 simp [ntmps43,results43,a0h]
 refine EC.afun h1 ?_
 by_cases hp:formed p
 ·simp [hp]
  refine EC.afun h2 ?_
  simp [hp]
 ·simp [hp]
end Go.Aft
end
section
set_option maxRecDepth 20000
namespace Go.Aft
theorem b5q {α β:Type} {f:α->β}:∀ {l:List α},(l.map f).Nodup->l.Nodup
 | [],_=>.nil
 | a :: l,h=>by
  have:=List.nodup_cons.1 h
  exact List.nodup_cons.2 ⟨fun q=>this.1 (List.mem_map.2 ⟨a,q,rfl⟩),b5q this.2⟩
abbrev hdG (g:List Nat):Nat:=g.headD 0
def a7o (n:Nat) (R:Nat->Nat->Bool):List (List Nat):=a2s n R ++ ((List.range n).filter fun d=>!R d d).map fun d=>[d]
def b5n (n:Nat) (R:Nat->Nat->Bool) (D:List Nat) (f:Nat):Bool:=!D.contains f && (List.range n).all fun k=>!R f k || R k f || D.contains k
def e0k (o:Option (List Nat)) (g:List Nat):Bool:=match o with
 | none=>true
 | some b=>decide (hdG g < hdG b)
def c0f (rdy:Nat->Bool) (Gs:List (List Nat)):Option (List Nat):=Gs.foldl (fun o g=>if (rdy (hdG g) && e0k o g)=true then some g else o) none
def c1i (n:Nat) (R:Nat->Nat->Bool):Nat->List Nat->List (List Nat)
 | 0,_=>[]
 | f+1,D=>match c0f (b5n n R D) (a7o n R) with
  | none=>[]
  | some g=>g :: c1i n R f (a2c D g)
def ordM (n:Nat) (R:Nat->Nat->Bool):List (List Nat):=c1i n R (a7o n R).length []
theorem c3p (rdy:Nat->Bool) (Gs:List (List Nat)) (g:List Nat):c0f rdy (Gs ++ [g])=if (rdy (hdG g) && e0k (c0f rdy Gs) g)=true then some g else c0f rdy Gs:=by
 rw [c0f,List.foldl_append];rfl
theorem f0e {rdy:Nat->Bool} {g0:List Nat} (hr:rdy (hdG g0)=true):∀ Gs:List (List Nat),(∀ g ∈ Gs,rdy (hdG g)=true->g=g0 \/ hdG g0 < hdG g) ->
  (c0f rdy Gs=none \/ ∃ b ∈ Gs,rdy (hdG b)=true/\c0f rdy Gs=some b)/\(g0 ∈ Gs->c0f rdy Gs=some g0):=by
 refine a8d (fun _=>⟨.inl rfl,fun h=>absurd h List.not_mem_nil⟩) fun Gs g ih hg=>?_
 obtain ⟨i1,i2⟩:=ih fun x hx=>hg x (List.mem_append_left _ hx)
 have hgg:=hg g (by simp)
 rw [c3p]
 constructor
 ·split
  ·rename_i q
   rw [Bool.and_eq_true] at q
   exact .inr ⟨g,by simp,q.1,rfl⟩
  ·rcases i1 with q | ⟨b,hb,q1,q2⟩
   ·exact .inl q
   ·exact .inr ⟨b,List.mem_append_left _ hb,q1,q2⟩
 ·intro h0
  by_cases e:g=g0
  ·subst e
   rcases i1 with q | ⟨b,hb,q1,q2⟩
   ·rw [q,hr];rfl
   ·rcases hg b (List.mem_append_left _ hb) q1 with q | q
    ·rw [q2,q,if_neg (by simp [e0k])]
    ·rw [q2,if_pos (by rw [hr];exact decide_eq_true q)]
  ·have hm:g0 ∈ Gs:=by
    rcases List.mem_append.1 h0 with q | q
    ·exact q
    ·exact absurd (List.mem_singleton.1 q).symm e
   rw [i2 hm]
   by_cases q:rdy (hdG g)=true
   ·have:=(hgg q).resolve_left e
    rw [if_neg]
    rw [Bool.and_eq_true]
    rintro ⟨_,w⟩
    have:=of_decide_eq_true (show decide (hdG g < hdG g0)=true from w)
    omega
   ·rw [if_neg]
    rw [Bool.and_eq_true]
    exact fun w=>q w.1
section
variable {n:Nat} {R:Nat->Nat->Bool} (ht:∀ i j k,R i j=true->R j k=true->R i k=true)
include ht
theorem b8r {d k:Nat} (hk:k < n) (h:R d k=true):k ∈ inM n R d ↔ R k d=true:=by
 unfold inM
 split
 ·rename_i hd
  rw [a0z]
  constructor
  ·rintro ⟨_,e | q⟩
   ·rw [e];exact hd
   ·exact q.2
  ·intro q;exact ⟨hk,.inr ⟨h,q⟩⟩
 ·rename_i hd
  rw [List.mem_singleton]
  constructor
  ·intro e;rw [e] at h;exact absurd h hd
  ·intro q;exact absurd (ht _ _ _ h q) hd
theorem b4l {D:List Nat} (d:Nat):a3v n R D d=b5n n R D d:=by
 rw [Bool.eq_iff_iff]
 unfold a3v b5n
 rw [Bool.and_eq_true,Bool.and_eq_true]
 refine and_congr Iff.rfl ?_
 rw [Bool.not_eq_true',List.any_eq_false,List.all_eq_true]
 constructor
 ·intro h k hk
  cases q:R d k with
  | false=>rfl
  | true =>
   have h1:=h k (List.mem_filter.2 ⟨hk,q⟩)
   cases q2:R k d with
   | true=>rfl
   | false =>
    have h2:k ∉ inM n R d:=fun w=>by rw [(b8r ht (List.mem_range.1 hk) q).1 w] at q2;cases q2
    simp [h2] at h1
    simp [h1]
 ·intro h k hk
  obtain ⟨hk,q⟩:=List.mem_filter.1 hk
  have h1:=h k hk
  rw [q] at h1
  cases q2:R k d with
  | true=>simp [(b8r ht (List.mem_range.1 hk) q).2 q2]
  | false =>
   rw [q2] at h1
   simp at h1
   simp [h1]
theorem f2k {d f:Nat} (hd:R d d=true) (hf:f ∈ ringAt n R d):ringAt n R f=ringAt n R d/\R f f=true:=by
 have h12:R d f=true/\R f d=true:=by
  rcases (a0z.1 hf).2 with e | q
  ·rw [e];exact ⟨hd,hd⟩
  ·exact q
 refine ⟨?_,ht _ _ _ h12.2 h12.1⟩
 unfold ringAt
 refine List.filter_congr fun j _=>?_
 rw [Bool.eq_iff_iff]
 simp only [Bool.or_eq_true,beq_iff_eq,Bool.and_eq_true]
 constructor
 ·rintro (rfl | ⟨h1,h2⟩)
  ·exact .inr h12
  ·exact .inr ⟨ht _ _ _ h12.1 h1,ht _ _ _ h2 h12.2⟩
 ·rintro (rfl | ⟨h1,h2⟩)
  ·exact .inr ⟨h12.2,h12.1⟩
  ·exact .inr ⟨ht _ _ _ h12.2 h1,ht _ _ _ h2 h12.1⟩
theorem e4g {d f:Nat} (hf:f ∈ inM n R d):inM n R f=inM n R d:=by
 unfold inM at hf |-
 cases h:R d d with
 | true =>
  rw [if_pos h] at hf
  obtain ⟨q1,q2⟩:=f2k ht h hf
  rw [if_pos q2,if_pos rfl,q1]
 | false =>
  rw [if_neg (by rw [h];simp),List.mem_singleton] at hf
  subst hf
  rw [h]
theorem d6p {d:Nat} (hd:d < n):hdG (inM n R d) ∈ inM n R d/\hdG (inM n R d)<=d:=by
 have hm:=a4n (R:=R) hd
 have hp:(inM n R d).Pairwise (· < ·):=by
  unfold inM
  split
  ·exact List.Pairwise.filter _ List.pairwise_lt_range
  ·simp
 cases h:inM n R d with
 | nil=>rw [h] at hm;cases hm
 | cons a l =>
  rw [h] at hm hp
  refine ⟨List.mem_cons_self ..,?_⟩
  rcases List.mem_cons.1 hm with q | q
  ·rw [q];exact Nat.le_refl _
  ·exact Nat.le_of_lt ((List.pairwise_cons.1 hp).1 d q)
theorem a3n {g:List Nat}:g ∈ a7o n R ↔ ∃ f,f < n/\inM n R f=g/\hdG g=f:=by
 unfold a7o
 rw [List.mem_append]
 constructor
 ·rintro (h | h)
  ·simp only [a2s,List.mem_map,List.mem_filter,Bool.and_eq_true,List.mem_range,beq_iff_eq] at h
   obtain ⟨i,⟨hi,h1,h2⟩,rfl⟩:=h
   refine ⟨i,hi,by rw [inM,if_pos h1],?_⟩
   unfold hdG
   cases q:ringAt n R i with
   | nil=>rw [q] at h2;cases h2
   | cons a l=>rw [q] at h2;exact Option.some.inj h2
  ·simp only [List.mem_map,List.mem_filter,List.mem_range,Bool.not_eq_true'] at h
   obtain ⟨d,⟨hd,h1⟩,rfl⟩:=h
   exact ⟨d,hd,by rw [inM,if_neg (by rw [h1];simp)],rfl⟩
 ·rintro ⟨f,hf,h1,h2⟩
  cases q:R f f with
  | true =>
   left
   rw [inM,if_pos q] at h1
   simp only [a2s,List.mem_map,List.mem_filter,Bool.and_eq_true,List.mem_range,beq_iff_eq]
   refine ⟨f,⟨hf,q,?_⟩,h1⟩
   have hm:f ∈ ringAt n R f:=a0z.2 ⟨hf,.inl rfl⟩
   rw [h1] at hm |-
   cases g with
   | nil=>cases hm
   | cons a l=>exact congrArg some h2
  | false =>
   right
   rw [inM,if_neg (by rw [q];simp)] at h1
   simp only [List.mem_map,List.mem_filter,List.mem_range,Bool.not_eq_true']
   exact ⟨f,⟨hf,q⟩,h1⟩
theorem b9m:(a7o n R).Nodup:=by
 have h1:((a7o n R).map hdG).Nodup:=by
  have e1:(a2s n R).map hdG=(List.range n).filter fun i=>R i i && (ringAt n R i).head? == some i:=by
   rw [a2s,List.map_map]
   conv=>rhs;rw [<- List.map_id ((List.range n).filter fun i=>R i i && (ringAt n R i).head? == some i)]
   refine List.map_congr_left fun i hi=>?_
   have:=(List.mem_filter.1 hi).2
   rw [Bool.and_eq_true,beq_iff_eq] at this
   show hdG (ringAt n R i)=i
   unfold hdG
   cases q:ringAt n R i with
   | nil=>rw [q] at this;cases this.2
   | cons a l=>rw [q] at this;exact Option.some.inj this.2
  have e2:(((List.range n).filter fun d=>!R d d).map fun d=>[d]).map hdG=(List.range n).filter fun d=>!R d d:=by
   rw [List.map_map]
   conv=>rhs;rw [<- List.map_id ((List.range n).filter fun d=>!R d d)]
   exact List.map_congr_left fun _ _=>rfl
  rw [a7o,List.map_append,e1,e2,List.nodup_append]
  refine ⟨List.Pairwise.filter _ List.nodup_range,List.Pairwise.filter _ List.nodup_range,fun a ha b hb e=>?_⟩
  have h3:=(List.mem_filter.1 ha).2
  have h4:=(List.mem_filter.1 hb).2
  rw [Bool.and_eq_true] at h3
  rw [<- e,h3.1] at h4
  cases h4
 exact b5q h1
def a6z (n:Nat) (R:Nat->Nat->Bool) (D:List Nat):Prop:=∀ x ∈ D,x < n/\∀ k ∈ inM n R x,k ∈ D
theorem c3k {D:List Nat} (hD:a6z n R D) {d:Nat} (hd:d < n):a6z n R (a2c D (inM n R d)):=fun x hx=>by
 rcases a2f.1 hx with q | q
 ·exact ⟨(hD x q).1,fun k hk=>a2f.2 (.inl ((hD x q).2 k hk))⟩
 ·exact ⟨c2z hd q,fun k hk=>a2f.2 (.inr (by rw [e4g ht q] at hk;exact hk))⟩
theorem d0a {D:List Nat} (hD:a6z n R D) {d:Nat} (hf:(List.range n).find? (a3v n R D)=some d):c0f (b5n n R D) (a7o n R)=some (inM n R d)/\d < n/\hdG (inM n R d)=d/\d ∉ D:=by
 have hd:d < n:=List.mem_range.1 (List.mem_of_find?_eq_some hf)
 have hr:=List.find?_some hf
 have hmin:∀ k,k < d->a3v n R D k=false:=fun k hk=>by
  cases q:a3v n R D k with
  | false=>rfl
  | true =>
   obtain ⟨_,xs,ys,e,hno⟩:=List.find?_eq_some_iff_append.1 hf
   have hkr:k ∈ List.range n:=List.mem_range.2 (by omega)
   have hp:(List.range n).Pairwise (· < ·):=List.pairwise_lt_range
   rw [e] at hkr hp
   rcases List.mem_append.1 hkr with w | w
   ·have:=hno k w;rw [q] at this;cases this
   ·rcases List.mem_cons.1 w with w | w
    ·omega
    ·have:=(List.pairwise_cons.1 (List.pairwise_append.1 hp).2.1).1 k w
     omega
 have hdD:d ∉ D:=by
  unfold a3v at hr
  rw [Bool.and_eq_true] at hr
  simpa using hr.1
 obtain ⟨h1,h2⟩:=d6p ht hd
 have hhead:hdG (inM n R d)=d:=by
  refine Classical.byContradiction fun hne=>?_
  obtain ⟨f,hfe⟩:∃ f,hdG (inM n R d)=f:=⟨_,rfl⟩
  rw [hfe] at h1 h2 hne
  have hlt:f < d:=by omega
  have hnr:=hmin f hlt
  rw [b4l ht] at hnr hr
  have hRd:R d d=true:=by
   unfold inM at h1
   split at h1
   ·rename_i q;exact q
   ·rw [List.mem_singleton] at h1;exact absurd h1 hne
  rw [inM,if_pos hRd] at h1
  have hfd:R d f=true/\R f d=true:=(a0z.1 h1).2.resolve_left hne
  have hfD:f ∉ D:=fun q=>hdD ((hD f q).2 d (by
   rw [inM,if_pos (ht _ _ _ hfd.2 hfd.1)]
   exact a0z.2 ⟨hd,.inr ⟨hfd.2,hfd.1⟩⟩))
  have:b5n n R D f=true:=by
   unfold b5n at hr |-
   rw [Bool.and_eq_true,List.all_eq_true] at hr |-
   refine ⟨by simpa using hfD,fun k hk=>?_⟩
   have h3:=hr.2 k hk
   cases q:R f k with
   | false=>rfl
   | true =>
    rw [ht _ _ _ hfd.1 q] at h3
    cases q2:R k d with
    | true=>rw [ht _ _ _ q2 hfd.1];rfl
    | false=>rw [q2] at h3;simp at h3;simp [h3]
  rw [this] at hnr;cases hnr
 refine ⟨?_,hd,hhead,hdD⟩
 refine (f0e (by rw [hhead,<- b4l ht];exact hr) (a7o n R) fun g hg q=>?_).2 ((a3n ht).2 ⟨d,hd,rfl,hhead⟩)
 obtain ⟨f,hf',e1,e2⟩:=(a3n ht).1 hg
 rw [e2] at q |-
 rw [hhead]
 rw [<- b4l ht] at q
 rcases Nat.lt_trichotomy f d with w | w | w
 ·rw [hmin f w] at q;cases q
 ·left;rw [<- e1,w]
 ·exact .inr w
def cntG (n:Nat) (R:Nat->Nat->Bool) (D:List Nat):Nat:=((a7o n R).filter fun g=>!D.contains (hdG g)).length
theorem d7k {D:List Nat} (hD:a6z n R D) {d:Nat} (hd:d < n) (hh:hdG (inM n R d)=d) (hdD:d ∉ D):cntG n R (a2c D (inM n R d))=cntG n R D - 1:=by
 obtain ⟨A,hA⟩:∃ A,(a7o n R).filter (fun g=>!D.contains (hdG g))=A:=⟨_,rfl⟩
 have hAn:A.Nodup:=by rw [<- hA];exact List.Pairwise.filter _ (b9m ht)
 have hg0:inM n R d ∈ A:=by
  rw [<- hA]
  exact List.mem_filter.2 ⟨(a3n ht).2 ⟨d,hd,rfl,hh⟩,by rw [hh];simpa using hdD⟩
 have e:(a7o n R).filter (fun g=>!(a2c D (inM n R d)).contains (hdG g))=A.filter (· != inM n R d):=by
  rw [<- hA,List.filter_filter]
  refine List.filter_congr fun g hg=>?_
  obtain ⟨f,hf,e1,e2⟩:=(a3n ht).1 hg
  rw [Bool.eq_iff_iff]
  simp only [Bool.and_eq_true,Bool.not_eq_true',List.contains_eq_mem,decide_eq_false_iff_not,bne_iff_ne,ne_eq,a2f,not_or,e2]
  rw [and_comm]
  refine and_congr ?_ Iff.rfl
  constructor
  ·intro q w
   apply q
   rw [<- w]
   rw [<- e1];exact a4n hf
  ·intro q w
   apply q
   rw [<- e1,e4g ht w]
 unfold cntG
 rw [e,hA,<- hAn.erase_eq_filter,List.length_erase_of_mem hg0]
theorem b9x {D:List Nat} (hD:a6z n R D):cntG n R D=0 ↔ ∀ d,d < n->d ∈ D:=by
 unfold cntG
 rw [List.length_eq_zero_iff,List.filter_eq_nil_iff]
 constructor
 ·intro h d hd
  obtain ⟨h1,h2⟩:=d6p ht hd
  have hlt:=c2z hd h1
  have e:=e4g ht h1
  have h3:=h (inM n R d) ((a3n ht).2 ⟨_,hlt,e,rfl⟩)
  have h4:hdG (inM n R d) ∈ D:=by simpa using h3
  refine (hD _ h4).2 d ?_
  rw [e];exact a4n hd
 ·intro h g hg
  obtain ⟨f,hf,e1,e2⟩:=(a3n ht).1 hg
  rw [e2]
  simpa using h f hf
theorem f1d:∀ (f2 f1:Nat) (D:List Nat),a6z n R D->D.Nodup->cntG n R D=f2->n - D.length<=f1->a2z n R f1 D=c1i n R f2 D
 | 0,f1,D,hD,hn,hc,hf=>by
  have hall:=(b9x ht hD).1 hc
  have hlen:n<=D.length:=by
   have:=a2k (a:=List.range n) (b:=D) List.nodup_range fun x hx=>hall x (List.mem_range.1 hx)
   simpa using this
  rw [c1i]
  cases f1 with
  | zero=>rfl
  | succ f1=>rw [a2z,if_neg (by omega)]
 | f2+1,f1,D,hD,hn,hc,hf=>by
  have hlt:D.length < n:=by
   refine Classical.byContradiction fun hge=>?_
   have:∀ d,d < n->d ∈ D:=fun d hd=>Classical.byContradiction fun hdD=>by
    have h1:=a2k (a:=D ++ [d]) (b:=List.range n) (by
     rw [List.nodup_append]
     exact ⟨hn,by simp,fun a ha b hb q=>hdD (by rw [List.mem_singleton] at hb;rw [<- hb,<- q];exact ha)⟩) fun x hx=>by
     rcases List.mem_append.1 hx with q | q
     ·exact List.mem_range.2 (hD x q).1
     ·rw [List.mem_singleton.1 q];exact List.mem_range.2 hd
    simp at h1
    omega
   rw [(b9x ht hD).2 this] at hc
   cases hc
  obtain ⟨d,hfd⟩:=b4m ht hn (fun d hd=>(hD d hd).1) hlt
  obtain ⟨b1,b2,b3,b4⟩:=d0a ht hD hfd
  cases f1 with
  | zero=>omega
  | succ f1 =>
   rw [a2z,if_pos hlt,hfd,c1i,b1]
   simp only
   have hlen:=b5g (l:=inM n R d) (D:=D) (a4n b2) b4
   rw [f1d f2 f1 _ (c3k ht hD b2) (a4w hn) (by rw [d7k ht hD b2 b3 b4,hc];rfl) (by omega)]
theorem e8b:b0c n R=ordM n R:=by
 refine f1d ht _ n [] (fun x hx=>absurd hx List.not_mem_nil) .nil ?_ (by simp)
 unfold cntG
 rw [List.filter_eq_self.2 fun g _=>by simp]
end
end Go.Aft
end
section
set_option maxRecDepth 20000
namespace Go.Aft
section
variable {n:Nat} {R:Nat->Nat->Bool} (ht:∀ i j k,R i j=true->R j k=true->R i k=true)
include ht
theorem e8a {D:List Nat} {f:Nat} (hD:a6z n R D) (hn:D.Nodup) (hc:cntG n R D=f+1):∃ d,d < n/\c0f (b5n n R D) (a7o n R)=some (inM n R d)/\a6z n R (a2c D (inM n R d))/\(a2c D (inM n R d)).Nodup /\
  cntG n R (a2c D (inM n R d))=f/\c1i n R (f+1) D=inM n R d :: c1i n R f (a2c D (inM n R d)):=by
 have hlt:D.length < n:=by
  refine Classical.byContradiction fun hge=>?_
  have:∀ d,d < n->d ∈ D:=fun d hd=>Classical.byContradiction fun hdD=>by
   have h1:=a2k (a:=D ++ [d]) (b:=List.range n) (by
    rw [List.nodup_append]
    exact ⟨hn,by simp,fun a ha b hb q=>hdD (by rw [List.mem_singleton] at hb;rw [<- hb,<- q];exact ha)⟩) fun x hx=>by
    rcases List.mem_append.1 hx with q | q
    ·exact List.mem_range.2 (hD x q).1
    ·rw [List.mem_singleton.1 q];exact List.mem_range.2 hd
   simp at h1
   omega
  rw [(b9x ht hD).2 this] at hc
  cases hc
 obtain ⟨d,hfd⟩:=b4m ht hn (fun d hd=>(hD d hd).1) hlt
 obtain ⟨b1,b2,b3,b4⟩:=d0a ht hD hfd
 refine ⟨d,b2,b1,c3k ht hD b2,a4w hn,by rw [d7k ht hD b2 b3 b4,hc];rfl,?_⟩
 rw [c1i,b1]
theorem e8y {g:List Nat} (hg:g ∈ a7o n R):(∃ a t,g=a :: t/\a < n)/\(∀ k ∈ g,k < n)/\g.length<=n:=by
 obtain ⟨f,hf,e1,e2⟩:=(a3n ht).1 hg
 have hlt:∀ k ∈ g,k < n:=fun k hk=>by rw [<- e1] at hk;exact c2z hf hk
 have h1:=a4n (R:=R) hf
 rw [e1] at h1
 refine ⟨?_,hlt,?_⟩
 ·cases g with
  | nil=>cases h1
  | cons a t=>exact ⟨a,t,rfl,hlt a (List.mem_cons_self ..)⟩
 ·have hnd:g.Nodup:=by
   rw [<- e1]
   unfold inM
   split
   ·exact List.Pairwise.filter _ List.nodup_range
   ·simp
  have:=a2k hnd (b:=List.range n) fun k hk=>List.mem_range.2 (hlt k hk)
  simpa using this
theorem c8x:(a7o n R).length<=n:=by
 have h1:((a7o n R).map hdG).Nodup:=by
  have h2:=b9m (n:=n) (R:=R) ht
  refine List.pairwise_map.2 (List.Pairwise.imp_of_mem ?_ h2)
  intro a b ha hb hne e
  refine hne ?_
  obtain ⟨f,_,q1,q2⟩:=(a3n ht).1 ha
  obtain ⟨f',_,r1,r2⟩:=(a3n ht).1 hb
  rw [<- q1,<- r1,<- q2,<- r2,e]
 have:=a2k h1 (b:=List.range n) fun k hk=>by
  obtain ⟨g,hg,rfl⟩:=List.mem_map.1 hk
  obtain ⟨f,hf,_,q⟩:=(a3n ht).1 hg
  rw [q];exact List.mem_range.2 hf
 simpa using this
theorem d7j:cntG n R []=(a7o n R).length:=by
 unfold cntG
 rw [List.filter_eq_self.2 fun g _=>by simp]
theorem e1d:a6z n R []:=fun x hx=>absurd hx List.not_mem_nil
end
end Go.Aft
end
section
set_option maxRecDepth 20000
namespace Go.Aft
open Go.Proofs.Tryz
theorem c7i (l:List Event) (src:Int) (hl:l.length<=1000):AFun prog 70 [sl (l.map a0t),lvI src] (bagL (bagM (a5a l src))):=by
 intro H
 have cc:=a0g (p:=kds [] [] [])
 refine a0j.a1j (a0g (p:=kds [] [] [])) func70 rfl call70 (by rw [ntmps70];simp) rfl fun hf hw=>?_
 simp [ntmps70,results70] at hf |-
 refine AW.a0w cc (fun s:Nat × LV × GH=>⟨[(0,sl (l.map a0t)),(1,lvI src),(5,s.2.1),(6,lvI s.1)],[],s.2.2⟩) (fun s=>l.length - s.1)
  (fun s=>s.1<=l.length/\AppX 86 4 H s.2.1 ((a5a (l.take s.1) src).map a0i) s.2.2) (0,.d (.k (.slice none 0 0)),H) ⟨⟨Nat.zero_le _,by simpa [a5a] using AppX.nil⟩,by simp⟩ ?_
 rintro ⟨i,y,H2⟩ ⟨hi,happ⟩
 simp only at hi happ
 simp
 refine ⟨fun h=>?_,fun h=>?_⟩
 ·obtain ⟨x,hxe⟩:∃ x,l[i]=x:=⟨_,rfl⟩
  have htk:l.take (i+1)=l.take i ++ [x]:=by rw [<- a0p h,hxe]
  have hw':=wrap_succ (n:=9223372036854775807) (show i < 9223372036854775807 by omega)
  have hsn:=c1s (l.take i) x src
  rw [<- htk] at hsn
  have hsl:(a5a (l.take i) src).length<=1000:=Nat.le_trans (a9i _ _) (by simp;omega)
  simp [h,List.getElem?_eq_getElem h,hxe,a0t,rRec,happ.plain.all]
  refine ⟨fun q=>?_,fun q=>?_⟩
  ·refine APK.appX (ys:=[a0i ⟨x.rec_,1⟩]) tyE29 rfl tyE86 (by simp) (x:=y) (by simp) happ (by simp [a0i,rowsOf]) (by simp) (a1b _) (fun r hr=>by simp only [List.mem_singleton] at hr;subst hr;rfl) (by simp;omega) (by simp) fun x' H3 happ' _ _=>?_
   simp [happ'.plain.all,happ'.only,hw']
   refine NX.go (i+1,x',H3) (by simp only;omega) ⟨h,?_⟩ (by simp [happ'.only])
   rw [hsn,if_pos q,List.map_append];exact happ'
  ·rw [if_neg q,List.append_nil] at hsn
   exact NX.go (i+1,y,H2) (by simp only;omega) ⟨h,by rw [hsn];exact happ⟩ (by simp [happ.only,hw'])
 ·have:i=l.length:=by omega
  subst this
  rw [List.take_length] at happ
  have hsl:=a9i l src
  have hsu:=e7v (a5a l src) (by omega) (fun x hx=>by obtain ⟨e,_,rfl⟩:=List.mem_map.1 hx;simp)
  simp at hsu
  simp [happ.plain.all]
  refine ⟨happ.nb,EC.afun (AFun.fzA (v:=bagL (bagM (a5a l src))) (by simp only [fzs,fz,happ.fz];exact hsu)) ?_⟩
  simp [bagL]
  exact fun hz=>a0m happ.nx happ.ob hw.none
theorem d9e (p:Prog) (hs:∀ s ∈ p.srcs ++ a0d p,a2b s) (l:List Event) (src:Int):AFun prog 21 [lv (a0h p),sl (l.map a0t),lvI src] (saysV p l src):=by
 refine AFun.body (a0g (p:=kds [3] [] [])) func21 rfl call21 (by rw [ntmps21];simp) rfl fun hf H=>?_
 have h1:=d1m p hs l
 simp [a0h] at h1
 simp [ntmps21,results21,a0h]
 refine EC.afun h1 ?_
 cases ha:askedM p l with
 | false=>simp [saysV,ha]
 | true =>
  have hok:=b3w ha
  have hsb:b6g l src=bagM (a5a l src):=by
   unfold b6g a1i
   rw [List.filter_eq_self.2]
   intro x hx
   obtain ⟨e,he,_,rfl⟩:=c7e hx
   have h5:=(hok.2.2 e he).1
   simpa using h5
  have h2:=c7i l src (by omega)
  rw [<- hsb] at h2
  simp at h2
  by_cases h0:src < 0
  ·have hV:saysV p l src=.tup [sl [],lvI 2]:=by unfold saysV;rw [if_neg (by omega)]
   simp [h0,hV]
  ·by_cases h3:(p.srcs.length:Int)<=src
   ·have hV:saysV p l src=.tup [sl [],lvI 2]:=by unfold saysV;rw [if_neg (by omega)]
    simp [h0,h3,hV]
   ·have hV:saysV p l src=.tup [bagL (b6g l src),lvI 0]:=by unfold saysV;rw [if_pos ⟨ha,by omega,by omega⟩]
    simp [h0,h3]
    refine EC.afun h2 ?_
    simp [hV,bagL]
end Go.Aft
end
