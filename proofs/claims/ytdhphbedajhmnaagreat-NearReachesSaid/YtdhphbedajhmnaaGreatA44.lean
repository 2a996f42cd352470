import Derived.Test.YtdhphbedajhmnaaGreatA43
import Derived.Test.YtdhphbedajhmnaaGreatA41
set_option linter.all false
section
set_option maxRecDepth 20000
namespace Go.Aft
theorem foldOf_perm {A B:List Int} (h:A.Perm B) (f:Int):foldOf f A=foldOf f B:=by
 by_cases e:A=[]
 ·subst e;rw [List.nil_perm.1 h]
 ·have e':B ≠ []:=fun q=>by subst q;exact e (List.perm_nil.1 h)
  exact Int.le_antisymm ((Dom.perm h).fold e f) ((Dom.perm h.symm).fold e' f)
def fstepR (f:Int) (acc:Nat × Int) (v:Int):Nat × Int :=
 (acc.1+1,if f=1 then acc.2+1 else if f=2 then acc.2+v else if acc.1=0 \/ f=3/\v < acc.2 \/ f=4/\acc.2 < v then v else acc.2)
def foldAcc (f:Int) (l:List Int):Int:=(l.foldl (fstepR f) (0,0)).2
def foldR (f:Int) (l:List Int):Int:=clampM (foldAcc f l)
theorem foldAcc_one:∀ (l:List Int) (k:Nat) (a:Int),(l.foldl (fstepR 1) (k,a)).2=a+l.length
 | [],k,a=>by simp
 | v :: l,k,a=>by
  have hs:fstepR 1 (k,a) v=(k+1,a+1):=by simp [fstepR]
  rw [List.foldl_cons,hs,foldAcc_one l (k+1) (a+1)];simp only [List.length_cons];omega
theorem foldAcc_two:∀ (l:List Int) (k:Nat) (a:Int),(l.foldl (fstepR 2) (k,a)).2=a+sumI l
 | [],k,a=>by simp [sumI]
 | v :: l,k,a=>by
  have hs:fstepR 2 (k,a) v=(k+1,a+v):=by simp [fstepR]
  rw [List.foldl_cons,hs,foldAcc_two l (k+1) (a+v),sumI_cons];omega
theorem foldAcc_three:∀ (l:List Int) (k:Nat) (a:Int),0 < k->(l.foldl (fstepR 3) (k,a)).2=l.foldl minI a
 | [],k,a,_=>rfl
 | v :: l,k,a,hk=>by
  have h31:¬ (3:Int)=1:=by omega
  have h32:¬ (3:Int)=2:=by omega
  have h34:¬ (3:Int)=4:=by omega
  rw [List.foldl_cons,List.foldl_cons]
  have hs:fstepR 3 (k,a) v=(k+1,minI a v):=by
   simp only [fstepR,if_neg h31,if_neg h32,minI]
   congr 1
   have:¬ k=0:=by omega
   simp [this]
  rw [hs];exact foldAcc_three l (k+1) _ (by omega)
theorem foldAcc_four:∀ (l:List Int) (k:Nat) (a:Int),0 < k->(l.foldl (fstepR 4) (k,a)).2=l.foldl maxI a
 | [],k,a,_=>rfl
 | v :: l,k,a,hk=>by
  have h31:¬ (4:Int)=1:=by omega
  have h32:¬ (4:Int)=2:=by omega
  have h34:¬ (4:Int)=3:=by omega
  rw [List.foldl_cons,List.foldl_cons]
  have hs:fstepR 4 (k,a) v=(k+1,maxI a v):=by
   simp only [fstepR,if_neg h31,if_neg h32,maxI]
   congr 1
   have:¬ k=0:=by omega
   simp [this]
  rw [hs];exact foldAcc_four l (k+1) _ (by omega)
theorem clampM_same {n:Int} (h:inMost n):clampM n=n:=by
 unfold inMost at h
 unfold clampM minI maxI;split <;> split <;> omega
theorem foldR_eq {f:Int} (hf:1<=f/\f<=4) {l:List Int} (hl:l ≠ []) (h66:l.length<=1000) (hm:∀ x ∈ l,inMost x):foldR f l=foldOf f l:=by
 have h4:f=1 \/ f=2 \/ f=3 \/ f=4:=by omega
 unfold foldR foldAcc
 rcases h4 with rfl | rfl | rfl | rfl
 ·have e1:foldOf 1 l=l.length:=by simp [foldOf]
  have e2:inMost (l.length:Int):=⟨by omega,by omega⟩
  rw [foldAcc_one,e1,Int.zero_add]
  exact clampM_same e2
 ·have e1:foldOf 2 l=clampM (sumI l):=by simp [foldOf]
  rw [foldAcc_two,e1,Int.zero_add]
 ·have e1:foldOf 3 l=MinL l:=by simp [foldOf]
  rw [e1]
  have hin:inMost (MinL l):=hm _ (MinL_spec hl).2
  cases l with
  | nil=>exact absurd rfl hl
  | cons v l =>
   have h0:fstepR 3 (0,0) v=(1,v):=by simp [fstepR]
   have e:MinL (v :: l)=l.foldl minI v:=by
    unfold MinL;rw [List.headD_cons,List.foldl_cons]
    congr 1;unfold minI;split <;> omega
   rw [List.foldl_cons,h0,foldAcc_three l 1 v (by omega),<- e]
   exact clampM_same hin
 ·have e1:foldOf 4 l=MaxL l:=by simp [foldOf]
  rw [e1]
  have hin:inMost (MaxL l):=hm _ (MaxL_spec hl).2
  cases l with
  | nil=>exact absurd rfl hl
  | cons v l =>
   have h0:fstepR 4 (0,0) v=(1,v):=by simp [fstepR]
   have e:MaxL (v :: l)=l.foldl maxI v:=by
    unfold MaxL;rw [List.headD_cons,List.foldl_cons]
    congr 1;unfold maxI;split <;> omega
   rw [List.foldl_cons,h0,foldAcc_four l 1 v (by omega),<- e]
   exact clampM_same hin
def endV (F A:List Int) (lo:Int) (p:Nat × Nat):List Int:=F ++ A.take (A.length - p.1) ++ List.replicate p.2 lo
def endU (F A:List Int) (hi:Int) (p:Nat × Nat):List Int:=F ++ A.drop p.1 ++ List.replicate p.2 hi
def stepR (f:Int) (F A:List Int) (lo hi:Int) (can:Bool) (b:NB) (p:Nat × Nat):NB :=
 if endV F A lo p=[] \/ (0 < p.2/\can=false) then b
 else ⟨true,b.none,if b.some=false \/ foldR f (endV F A lo p) < b.low then foldR f (endV F A lo p) else b.low,if b.some=false \/ b.high < foldR f (endU F A hi p) then foldR f (endU F A hi p) else b.high⟩
def rowR (P a:Nat):List (Nat × Nat):=(List.range (P+1)).map fun m=>(a,m)
def pairsR (P mn:Nat):List (Nat × Nat):=(List.range (mn+1)).flatMap (rowR P)
def boundR (f:Int) (F A:List Int) (lo hi:Int) (can:Bool) (P:Nat):NB :=
 (pairsR P (min P A.length)).foldl (stepR f F A lo hi can) ⟨false,decide (F=[]/\A.length<=P),0,0⟩
theorem pairs_mem {P mn:Nat} {p:Nat × Nat}:p ∈ pairsR P mn ↔ p.1<=mn/\p.2<=P:=by
 obtain ⟨a,m⟩:=p
 simp only [pairsR,rowR,List.mem_flatMap,List.mem_range,List.mem_map,Prod.mk.injEq]
 constructor
 ·rintro ⟨x,h1,y,h2,rfl,rfl⟩;omega
 ·intro h;exact ⟨a,by omega,m,by omega,rfl,rfl⟩
structure RSpec (ok:Nat × Nat->Prop) (lo hi:Nat × Nat->Int) (n0:Bool) (ps:List (Nat × Nat)) (b:NB):Prop where
 s1:b.some=true->(∃ p ∈ ps,ok p/\b.low=lo p)/\(∃ p ∈ ps,ok p/\b.high=hi p)
 s2:∀ p ∈ ps,ok p->b.some=true/\b.low<=lo p/\hi p<=b.high
 s0:b.some=false->b.low=0/\b.high=0
 n:b.none=n0
theorem bound_specR (f:Int) (F A:List Int) (lo hi:Int) (can n0:Bool):∀ ps:List (Nat × Nat),RSpec (fun p=>¬ (endV F A lo p=[] \/ (0 < p.2/\can=false))) (fun p=>foldR f (endV F A lo p)) (fun p=>foldR f (endU F A hi p)) n0 ps (ps.foldl (stepR f F A lo hi can) ⟨false,n0,0,0⟩):=by
 refine snoc_ind ⟨fun q=>(by cases q),fun _ h=>(by simp at h),fun _=>⟨rfl,rfl⟩,rfl⟩ fun ps p ih=>?_
 rw [List.foldl_append]
 simp only [List.foldl_cons,List.foldl_nil]
 generalize ps.foldl (stepR f F A lo hi can) ⟨false,n0,0,0⟩=b at ih |-
 obtain ⟨h1,h2,h3,h4⟩:=ih
 have hin:∀ x,x ∈ ps->x ∈ ps ++ [p]:=fun x hx=>List.mem_append_left _ hx
 have hself:p ∈ ps ++ [p]:=by simp
 rw [stepR]
 by_cases q:endV F A lo p=[] \/ (0 < p.2/\can=false)
 ·rw [if_pos q]
  refine ⟨fun e=>?_,fun x hx=>?_,h3,h4⟩
  ·obtain ⟨⟨x,a1,a2⟩,y,a3,a4⟩:=h1 e
   exact ⟨⟨x,hin x a1,a2⟩,y,hin y a3,a4⟩
  ·rcases List.mem_append.1 hx with k | k
   ·exact h2 x k
   ·rw [List.mem_singleton] at k;subst k
    exact fun q'=>absurd q q'
 ·rw [if_neg q]
  obtain ⟨so,no,l0,hh⟩:=b
  simp only at h1 h2 h3 h4
  generalize hA:foldR f (endV F A lo p)=a
  generalize hB:foldR f (endU F A hi p)=c
  refine ⟨fun _=>⟨?_,?_⟩,fun x hx=>?_,fun e=>(by cases e),h4⟩
  ·simp only
   split
   ·exact ⟨p,hself,q,hA.symm⟩
   ·rename_i k
    have e:so=true:=by cases so with | true=>rfl | false=>exact absurd (.inl rfl) k
    obtain ⟨⟨x,a1,a2,a3⟩,_⟩:=h1 e
    exact ⟨x,hin x a1,a2,a3⟩
  ·simp only
   split
   ·exact ⟨p,hself,q,hB.symm⟩
   ·rename_i k
    have e:so=true:=by cases so with | true=>rfl | false=>exact absurd (.inl rfl) k
    obtain ⟨_,x,a1,a2,a3⟩:=h1 e
    exact ⟨x,hin x a1,a2,a3⟩
  ·rcases List.mem_append.1 hx with k | k
   ·intro q'
    obtain ⟨e,b1,b2⟩:=h2 x k q'
    subst e
    refine ⟨rfl,?_,?_⟩
    ·simp only
     split
     ·rename_i k
      rcases k with k | k
      ·cases k
      ·omega
     ·exact b1
    ·simp only
     split
     ·rename_i k
      rcases k with k | k
      ·cases k
      ·omega
     ·exact b2
   ·rw [List.mem_singleton] at k;subst k
    intro _
    simp only [hA,hB]
    refine ⟨trivial,?_,?_⟩
    ·split
     ·exact Int.le_refl _
     ·rename_i k;have:¬ a < l0:=fun e=>k (.inr e);omega
    ·split
     ·exact Int.le_refl _
     ·rename_i k;have:¬ hh < c:=fun e=>k (.inr e);omega
theorem nb_eq {V U:Way->List Int} {f:Int} {ws:List Way} {b:Bnd} {ok:Nat × Nat->Prop} {lo hi:Nat × Nat->Int} {n0:Bool} {ps:List (Nat × Nat)} {r:NB} (h:BSpec V U f ws b) (h':RSpec ok lo hi n0 ps r)
  (c1:∀ w ∈ ws,V w ≠ []->∃ p ∈ ps,ok p/\lo p=foldOf f (V w)/\hi p=foldOf f (U w)) (c2:∀ p ∈ ps,ok p->∃ w ∈ ws,V w ≠ []/\foldOf f (V w)=lo p/\foldOf f (U w)=hi p) (hn:b.nb.none=n0):r=b.nb:=by
 obtain ⟨⟨s1,n1,l1,h1⟩,wn,wl,wh⟩:=b
 obtain ⟨s2,n2,l2,h2⟩:=r
 obtain ⟨_,_,b1,b2,b0⟩:=h
 obtain ⟨r1,r2,r0,rn⟩:=h'
 simp only at *
 subst rn
 have hs:s1=true ↔ s2=true:=by
  constructor
  ·intro q
   obtain ⟨⟨k1,k2,_⟩,_⟩:=b1 q
   obtain ⟨p,p1,p2,_⟩:=c1 _ k1 k2
   exact (r2 p p1 p2).1
  ·intro q
   obtain ⟨⟨p,p1,p2,_⟩,_⟩:=r1 q
   obtain ⟨w,w1,w2,_⟩:=c2 p p1 p2
   exact (b2 w w1 w2).1
 by_cases q:s1=true
 ·have q2:=hs.1 q
  obtain ⟨⟨k1,k2,k3⟩,k4,k5,k6⟩:=b1 q
  obtain ⟨⟨x,x1,x2,x3⟩,y,y1,y2,y3⟩:=r1 q2
  obtain ⟨p,p1,p2,p3,_⟩:=c1 _ k1 k2
  obtain ⟨p',q1,q2',_,q4⟩:=c1 _ k4 k5
  obtain ⟨w,w1,w2,w3,_⟩:=c2 x x1 x2
  obtain ⟨w',v1,v2,_,v4⟩:=c2 y y1 y2
  have e1:=(r2 p p1 p2).2.1
  have e2:=(r2 p' q1 q2').2.2
  have e3:=(b2 w w1 w2).2.1
  have e4:=(b2 w' v1 v2).2.2
  subst q;subst q2
  simp only [NB.mk.injEq]
  refine ⟨trivial,hn.symm,?_,?_⟩ <;> omega
 ·have q1:s1=false:=by simpa using q
  have q2:s2=false:=by
   cases e:s2 with
   | false=>rfl
   | true=>exact absurd (hs.2 e) q
  obtain ⟨a1,a2⟩:=b0 q1
  obtain ⟨a3,a4⟩:=r0 q2
  subst q1;subst q2;subst a1;subst a2;subst a3;subst a4
  rw [hn]
theorem boundR_eq {s:Scene} {F F':List Int} {L:List Loose} {P:Nat} {lo hi:Int} (hF:F'.Perm F) (hlo:s.has=true->lo=s.low.val/\hi=s.high.val) (hf:1<=s.sh.fold/\s.sh.fold<=4) (hP:P<=6)
  (h60:F.length+L.length<=60) (hmF:∀ x ∈ F,inMost x) (hmL:∀ x ∈ valsL L,inMost x) (hmR:s.has=true->inMost lo/\inMost hi):boundR s.sh.fold F' (valsL L) lo hi s.has P=(boundM s F L P).nb:=by
 have hl:(valsL L).length=L.length:=by simp [valsL]
 have hFl:=hF.length_eq
 have hb:=bound_spec s F L P
 have hV:∀ (w:Way) (r:Int),w.gone+w.turned<=L.length->valsM F L w false r=F ++ (valsL L).take ((valsL L).length - (w.gone+w.turned)) ++ List.replicate (w.turned+w.more) r:=fun w r _=>by rw [valsM_eq];rfl
 have hU:∀ (w:Way) (r:Int),w.gone+w.turned<=L.length->valsM F L w true r=F ++ (valsL L).drop (w.gone+w.turned) ++ List.replicate (w.turned+w.more) r:=fun w r _=>by rw [valsM_eq];rfl
 have key:∀ (w:Way) (p:Nat × Nat),p.1=w.gone+w.turned->p.2=w.turned+w.more->p.1<=L.length->p.2<=6->(p.2=0 \/ s.has=true)->valsM F L w false (sRec s false) ≠ [] ->
   endV F' (valsL L) lo p ≠ []/\foldR s.sh.fold (endV F' (valsL L) lo p)=foldOf s.sh.fold (valsM F L w false (sRec s false))/\foldR s.sh.fold (endU F' (valsL L) hi p)=foldOf s.sh.fold (valsM F L w true (sRec s true)):=fun w p e1 e2 hp hp2 hc hne=>by
  have pv:(endV F' (valsL L) lo p).Perm (valsM F L w false (sRec s false)):=by
   rw [hV w _ (by omega),endV,e1]
   refine (hF.append_right _).append ?_
   rw [e2] at hc |-
   rcases hc with q | q
   ·rw [q];exact List.Perm.refl _
   ·rw [(hlo q).1];exact List.Perm.refl _
  have pu:(endU F' (valsL L) hi p).Perm (valsM F L w true (sRec s true)):=by
   rw [hU w _ (by omega),endU,e1]
   refine (hF.append_right _).append ?_
   rw [e2] at hc |-
   rcases hc with q | q
   ·rw [q];exact List.Perm.refl _
   ·rw [(hlo q).2];exact List.Perm.refl _
  have n1:endV F' (valsL L) lo p ≠ []:=fun q=>by rw [q] at pv;exact hne (List.nil_perm.1 pv)
  have lv:=valsM_len (F:=F) (L:=L) (w:=w) (by omega) false (sRec s false)
  have lu:=valsM_len (F:=F) (L:=L) (w:=w) (by omega) true (sRec s true)
  have n2:endU F' (valsL L) hi p ≠ []:=fun q=>by
   rw [q] at pu
   have:=pu.length_eq
   have h3:(valsM F L w false (sRec s false)).length ≠ 0:=fun q=>hne (List.eq_nil_of_length_eq_zero q)
   rw [List.length_nil] at this
   omega
  have hrep:∀ {x y:Int} {k:Nat},(k=0 \/ s.has=true)->(s.has=true->inMost y)->x ∈ List.replicate k y->inMost x:=fun hk hy hx=>by
   rw [List.mem_replicate] at hx
   rcases hk with q | q
   ·exact absurd q hx.1
   ·rw [hx.2];exact hy q
  refine ⟨n1,?_,?_⟩
  ·rw [foldR_eq hf n1 (by rw [pv.length_eq,lv];omega) (fun x hx=>?_)]
   ·exact foldOf_perm pv _
   ·simp only [endV,List.mem_append] at hx
    rcases hx with (hx | hx) | hx
    ·exact hmF x (hF.mem_iff.1 hx)
    ·exact hmL x (List.mem_of_mem_take hx)
    ·exact hrep hc (fun q=>(hmR q).1) hx
  ·rw [foldR_eq hf n2 (by rw [pu.length_eq,lu];omega) (fun x hx=>?_)]
   ·exact foldOf_perm pu _
   ·simp only [endU,List.mem_append] at hx
    rcases hx with (hx | hx) | hx
    ·exact hmF x (hF.mem_iff.1 hx)
    ·exact hmL x (List.mem_of_mem_drop hx)
    ·exact hrep hc (fun q=>(hmR q).2) hx
 have hr:=bound_specR s.sh.fold F' (valsL L) lo hi s.has (decide (F'=[]/\(valsL L).length<=P)) (pairsR P (min P (valsL L).length))
 refine nb_eq hb hr (fun w hw hne=>?_) (fun p hp hok=>?_) ?_
 ·rw [way_room] at hw
  have hc:w.turned+w.more=0 \/ s.has=true:=hw.2.2.symm
  obtain ⟨k1,k2,k3⟩:=key w (w.gone+w.turned,w.turned+w.more) rfl rfl (by simp only;omega) (by simp only;omega) hc hne
  refine ⟨_,pairs_mem.2 ⟨by simp only [hl];omega,by simp only;omega⟩,fun q=>?_,k2,k3⟩
  rcases q with q | ⟨q1,q2⟩
  ·exact k1 q
  ·rcases hc with c | c
   ·simp only at q1;omega
   ·rw [c] at q2;cases q2
 ·rw [pairs_mem,hl] at hp
  obtain ⟨a,m⟩:=p
  simp only at hp
  have hc:m=0 \/ s.has=true:=by
   cases e:s.has with
   | true=>exact .inr rfl
   | false =>
    left
    by_cases q:m=0
    ·exact q
    ·exact absurd (.inr ⟨by simp only;omega,e⟩) hok
  refine ⟨⟨a - min a m,min a m,m - min a m⟩,way_room.2 ⟨by simp only;omega,by simp only;omega,?_⟩,?_⟩
  ·rcases hc with q | q
   ·exact .inr (by simp only;omega)
   ·exact .inl q
  ·have hne:valsM F L ⟨a - min a m,min a m,m - min a m⟩ false (sRec s false) ≠ []:=fun q=>by
    have h1:=valsM_len (F:=F) (L:=L) (w:=⟨a - min a m,min a m,m - min a m⟩) (by simp only;omega) false (sRec s false)
    rw [q] at h1
    simp only [List.length_nil] at h1
    refine hok (.inl (List.eq_nil_of_length_eq_zero ?_))
    simp only [endV,List.length_append,List.length_take,List.length_replicate,hl]
    omega
   obtain ⟨_,k2,k3⟩:=key ⟨a - min a m,min a m,m - min a m⟩ (a,m) (by simp only;omega) (by simp only;omega) (by simp only;omega) (by simp only;omega) hc hne
   exact ⟨hne,k2.symm,k3.symm⟩
 ·rw [Bool.eq_iff_iff,decide_eq_true_eq]
  constructor
  ·intro q
   obtain ⟨h1,h2⟩:=hb.none1 q
   rw [way_room] at h1
   have h3:=valsM_len (F:=F) (L:=L) (w:=(boundM s F L P).wn) (by omega) false (sRec s false)
   have h4:(valsM F L (boundM s F L P).wn false (sRec s false)).length=0:=by rw [h2];rfl
   exact ⟨List.eq_nil_of_length_eq_zero (by omega),by omega⟩
  ·rintro ⟨q1,q2⟩
   refine hb.none2 ⟨L.length,0,0⟩ (way_room.2 ⟨by simp only;omega,by simp only;omega,.inr rfl⟩) (List.eq_nil_of_length_eq_zero ?_)
   show (valsM F L ⟨L.length,0,0⟩ false (sRec s false)).length=0
   rw [valsM_len (by simp)]
   have:F.length=0:=by rw [<- hFl,q1];rfl
   simp only;omega
end Go.Aft
end
section
set_option maxRecDepth 20000
namespace Go.Aft
open Go.Proofs.Tryz
def posI (l:List Int) (v:Int):Nat->Nat
 | 0=>0
 | k+1=>if h:k < l.length then (if v < l[k] then posI l v k else k+1) else k+1
def putI (l:List Int) (v:Int):List Int:=l.take (posI l v l.length) ++ v :: l.drop (posI l v l.length)
theorem posI_le (l:List Int) (v:Int):∀ k,posI l v k<=k
 | 0=>Nat.le_refl _
 | k+1=>by
  rw [posI]
  have:=posI_le l v k
  split
  ·split <;> omega
  ·omega
theorem posI_spec {l:List Int} (hs:SortedI l) (v:Int):∀ k,k<=l.length->(∀ i (h:i < l.length),i < posI l v k->l[i]<=v)/\(∀ i (h:i < l.length),posI l v k<=i->i < k->v < l[i])
 | 0,_=>⟨fun i _ h=>by simp [posI] at h,fun i _ _ h=>by omega⟩
 | k+1,hk=>by
  have h:k < l.length:=hk
  rw [posI,dif_pos h]
  split
  ·rename_i q
   obtain ⟨h1,h2⟩:=posI_spec hs v k (by omega)
   refine ⟨h1,fun i hi h3 h4=>?_⟩
   by_cases e:i=k
   ·subst e;exact q
   ·exact h2 i hi h3 (by omega)
  ·rename_i q
   refine ⟨fun i hi h3=>?_,fun i hi h3 h4=>by omega⟩
   rcases Nat.lt_or_ge i k with e | e
   ·have:=List.pairwise_iff_getElem.1 hs i k hi h e;omega
   ·have:i=k:=by omega
    subst this;omega
theorem putI_perm (l:List Int) (v:Int):(putI l v).Perm (v :: l):=by
 unfold putI
 refine List.perm_middle.trans ?_
 rw [List.take_append_drop]
theorem putI_sorted {l:List Int} (hs:SortedI l) (v:Int):SortedI (putI l v):=by
 obtain ⟨h1,h2⟩:=posI_spec hs v l.length (Nat.le_refl _)
 unfold putI SortedI
 generalize posI l v l.length=k at *
 rw [List.pairwise_append,List.pairwise_cons]
 refine ⟨hs.sublist (List.take_sublist ..),⟨fun x hx=>?_,hs.sublist (List.drop_sublist ..)⟩,fun x hx y hy=>?_⟩
 ·obtain ⟨i,hi,rfl⟩:=List.mem_iff_getElem.1 hx
  rw [List.length_drop] at hi
  rw [List.getElem_drop]
  exact Int.le_of_lt (h2 (k+i) (by omega) (by omega) (by omega))
 ·obtain ⟨i,hi,rfl⟩:=List.mem_iff_getElem.1 hx
  rw [List.length_take] at hi
  rw [List.getElem_take]
  rcases List.mem_cons.1 hy with rfl | hy
  ·exact h1 i (by omega) (by omega)
  ·obtain ⟨j,hj,rfl⟩:=List.mem_iff_getElem.1 hy
   rw [List.length_drop] at hj
   rw [List.getElem_drop]
   exact List.pairwise_iff_getElem.1 hs i (k+j) (by omega) (by omega) (by omega)
def putsI (l:List Int):List Int:=l.foldl putI []
theorem putsI_snoc (l:List Int) (v:Int):putsI (l ++ [v])=putI (putsI l) v:=by simp [putsI]
theorem putsI_perm (l:List Int):(putsI l).Perm l:=by
 refine snoc_ind (p:=fun l=>(putsI l).Perm l) (List.Perm.refl _) (fun l v ih=>?_) l
 rw [putsI_snoc]
 exact (putI_perm _ _).trans ((ih.cons v).trans (List.perm_append_comm (l₁:=[v])))
theorem putsI_sorted (l:List Int):SortedI (putsI l):=by
 refine snoc_ind (p:=fun l=>SortedI (putsI l)) List.Pairwise.nil (fun l v ih=>?_) l
 rw [putsI_snoc];exact putI_sorted ih v
theorem ref17_put (l:List Int) (hl:l.length<=1000) (v:Int):AFun prog 114 [sl (l.map rI),lvI v] (sl ((putI l v).map rI)):=by
 have cc:=cxK_ok (p:=kds [] [] [])
 refine AFun.bodyW (cxK_ok (p:=kds [] [] [])) func114 rfl call114 (by rw [ntmps114];simp) rfl fun hf H=>?_
 simp [ntmps114,results114] at hf |-
 refine AW.seq cc ?_
 simp
 refine AW.seq cc ?_
 simp
 refine AW.join (c:=cxK (kds [] [] [])) (fun _:Unit=>⟨[(0,sl (l.map rI)),(1,lvI v),(5,lvI (posI l v l.length))],[],H⟩) (fun _=>True) ?_ ?_
 ·refine AW.ev cc ?_
  simp
  refine AW.loopS cc (fun k:Nat=>⟨[(0,sl (l.map rI)),(1,lvI v),(5,lvI k)],[],H⟩) (fun k=>k) (fun k=>k<=l.length/\posI l v l.length=posI l v k) l.length ⟨⟨Nat.le_refl _,rfl⟩,by simp⟩ ?_
  rintro k ⟨hk,hp⟩
  cases k with
  | zero =>
   have hw0:(IntKind.i64.wrap (-1)).toNat=0:=rfl
   simp [hw0]
   have hz:posI l v l.length=0:=by simpa [posI] using hp
   cases l with
   | nil =>
    have hdf:(default:DV)=.k undef:=rfl
    simp [hdf,undef]
    exact JN.go () trivial (by simp [posI])
   | cons a l =>
    simp [rI]
    exact JN.go () trivial (by simp at hz;simp [hz,rI])
  | succ k =>
   have h:k < l.length:=hk
   have hw:IntKind.wrap .i64 ((k:Int)+1 - 1)=(k:Int):=by rw [wrap64] <;> omega
   have hw2:IntKind.wrap .i64 (k:Int)=(k:Int):=by rw [wrap64] <;> omega
   rw [posI,dif_pos h] at hp
   simp [hw,hw2,h,List.getElem?_eq_getElem h,rI]
   refine ⟨fun q=>?_,fun q=>?_⟩
   ·rw [if_pos q] at hp
    exact NX.go k (by omega) ⟨by omega,hp⟩ (by simp)
   ·rw [if_neg (by omega)] at hp
    exact JN.go () trivial (by simp [hp])
 ·rintro _ _
  have hk:=posI_le l v l.length
  have hput:putI l v=l.take (posI l v l.length) ++ v :: l.drop (posI l v l.length):=rfl
  generalize posI l v l.length=k at hk hput |-
  refine AW.ev cc ?_
  simp
  refine AW.draw cc [] (.q 0<|.q 1<|.q 4<|.q 5<|.q 7<|.q 8<|.f (.cons 2 (.f (.cons 3 (.f (.cons 6 (.q 9<|.f<|.one 10<|.q 11<|.done) (.cons 9 (.f<|.one 6<|.f<|.one 10<|.q 11<|.done) (.nil)))) (.cons 9 (.f<|.one 3<|.f<|.one 6<|.f<|.one 10<|.q 11<|.done) (.nil)))) (.cons 9 (.f<|.one 2<|.f<|.one 3<|.f<|.one 6<|.f<|.one 10<|.q 11<|.done) (.nil)))) (by kernel_rfl) ?_
  simp [hk,rI]
  have hrl:∀ (es:List Int),∀ r ∈ es.map rI,r.length=1:=fun es r hr=>by obtain ⟨_,_,rfl⟩:=List.mem_map.1 hr;rfl
  refine ⟨⟨?_,?_⟩,?_⟩
  all_goals
   refine APK.appX (ys:=(l.take k).map rI) tyE89 rfl tyE3 (by simp) (by simp) (.nil (H:=H)) (by simp [rowsOf]) (by simp) (by simp) (hrl _) (by simp;omega) (by simp) fun y1 H1 h1 _ _=>?_
   simp only [List.nil_append] at h1
   simp [h1.plain.all,hk,rI]
   try refine ⟨?_,?_⟩
   all_goals
    refine APK.appX (ys:=[rI v]) tyE89 rfl tyE3 (by simp) (x:=y1) (by simp) h1 (by simp [rowsOf,rI]) (by simp) (hrl _) (by simp) (by simp;omega) (by simp) fun y2 H2 h2 _ _=>?_
    simp [h2.plain.all,hk,rI]
    refine APK.appX (ys:=(l.drop k).map rI) tyE89 rfl tyE3 (by simp) (x:=y2) (by simp) h2 (by simp [rowsOf]) (by simp) (fun r hr=>by
     rcases List.mem_append.1 hr with q | q
     ·exact hrl _ r q
     ·rw [List.mem_singleton] at q;rw [q];rfl) (hrl _) (by simp;omega) (by simp) fun y3 H3 h3 _ _=>?_
    simp [h3.plain.all,h3.fz,hput]
    exact ⟨h3.nx,h3.ob⟩
theorem ref17_within (sh:Shape) (mark window key:Int) (r:Rec) (hw:0<=window/\window<=200) (hn:1<=sh.n/\sh.n<=50) (hr:recB r=true) (hc:∀ c ∈ sh.terms,0<=mFormed c 1 60) :
  AFun prog 112 [caseL sh mark window key,lv (rRec r)] (.d (.k (.bool (inB r.at_ (window - sh.n+1) window && decide (r.key=key) && passM sh r)))):=by
 have cc:=cxK_ok (p:=kds [2,3] [] [])
 refine AFun.bodyW (cxK_ok (p:=kds [2,3] [] [])) func112 rfl call112 (by rw [ntmps112];simp) rfl fun hf H=>?_
 have hri:recIn r:=by
  simp only [recB,inB,Bool.and_eq_true,decide_eq_true_eq] at hr
  unfold recIn inMost;omega
 have hp:=ref17_passes sh r hri (fun c hm=>mFormed_ok c _ _ (hc c hm))
 rw [<- passM_all hr hc] at hp
 have w1:IntKind.wrap .i64 (window - sh.n)=window - sh.n:=by rw [wrap64] <;> omega
 have w2:IntKind.wrap .i64 (window - sh.n+1)=window - sh.n+1:=by rw [wrap64] <;> omega
 simp [rShape,rRec] at hp
 simp [ntmps112,results112,caseL,rShape,rRec] at hf |-
 refine AW.seq cc ?_
 simp
 refine AW.ev cc ?_
 simp [w1,w2]
 refine EC.afun (ref17_in _ _ _) ?_
 cases h1:inB r.at_ (window - sh.n+1) window with
 | false=>simp
 | true =>
  by_cases h2:r.key=key
  ·have h2b:(r.key == key)=true:=by simpa using h2
   simp [h2,h2b]
   rw [h2] at hp
   refine EC.afun hp ?_
   simp [h2]
  ·have h2b:(r.key == key)=false:=by simpa using h2
   simp [h2,h2b]
theorem greatest_eq (l:List News) (s i:Int):greatest l s i=verM l s i:=rfl
theorem verM_most {l:List News} {srcs:Int} (hg:∀ n ∈ l,goodB n srcs=true) (s i:Int):verM l s i<=99:=by
 revert hg
 refine snoc_ind (p:=fun l=>(∀ n ∈ l,goodB n srcs=true)->verM l s i<=99) (fun _=>by simp [verM]) (fun l n ih hg=>?_) l
 have h1:=ih fun m hm=>hg m (by simp [hm])
 rw [verM_snoc,verStep]
 split
 ·rename_i q
  have:=good_ver (hg n (by simp)) q.1
  unfold maxI;split <;> omega
 ·exact h1
theorem stands_rec {l:List News} {srcs:Int} (h:formedB l srcs=true):∀ e ∈ standsM l,recB e.rec_=true:=by
 intro e he
 have he:=(standsM_mem l e).1 he
 unfold oneM at he
 split at he
 ·rename_i n hn
  split at he
  ·rename_i h1
   have hg:=formed_good h n (lastM_in hn)
   simp at he
   have hr:e.rec_=n.rec_:=by rw [he]
   rw [hr]
   simp [goodB,h1,saidB] at hg
   exact hg.2.2
  ·simp at he
 ·simp at he
theorem ref17_values (sh:Shape) (window key:Int) (l:List News) (srcs:Int) (hl:formedB l srcs=true) (hw:0<=window/\window<=200) (hn:1<=sh.n/\sh.n<=50) (hc:∀ c ∈ sh.terms,0<=mFormed c 1 60) :
  AFun prog 69 [caseL sh (markM l sh.src) window key,sl (l.map rNews)] (.tup [sl ((putsI (fixedM l sh window key (standsM l))).map rI),sl ((valsL (sortL (looseM l sh window key (standsM l)))).map rI)]):=by
 have cc:=cxK_ok (p:=kds [2] [] [])
 have hl60:l.length<=60:=by simp only [formedB,plainB,Bool.and_eq_true,decide_eq_true_eq] at hl;exact hl.1.1.2
 have hes:=stands_len l
 have hv:valsL (sortL (looseM l sh window key (standsM l)))=putsI (vmap ((standsM l).filter (lxP l sh window key))) :=
  sortedI_unique (loose_sorted _) (putsI_sorted _) ((loose_perm ..).trans (putsI_perm _).symm)
 rw [hv]
 have hrec:=stands_rec hl
 have hver:=verM_most (formed_good hl)
 refine AFun.bodyW (cxK_ok (p:=kds [2] [] [])) func69 rfl call69 (by rw [ntmps69];simp) rfl fun hf H=>?_
 have hst:=ref05_StandsOf l (by omega)
 simp [ntmps69,results69,caseL,rShape] at hf hst |-
 generalize standsM l=es at hes hrec hst |-
 refine AW.seq cc ?_
 simp
 refine AW.seq cc ?_
 simp
 refine AW.seq cc ?_
 simp
 refine EC.afun hst ?_
 simp
 refine AW.fzT 6 (AW.fzT 7 ?_)
 refine AW.ev cc ?_
 simp
 refine AW.loopS cc (fun k:Nat=>⟨[(1,sl (l.map rNews)),(2,.ip ((rShape sh).map .d ++ [lvI (markM l sh.src),lvI window,lvI key]) 0),(6,sl ((putsI (fixedM l sh window key (es.take k))).map rI)),(7,sl ((putsI (vmap ((es.take k).filter (lxP l sh window key)))).map rI)),(8,sl (es.map rEvent)),(9,lvI k)],[],H⟩) (fun k=>es.length - k)
  (fun k=>k<=es.length) 0 ⟨Nat.zero_le _,by simp [S.fzT,fz,rShape,fixedM,vmap,putsI]⟩ ?_
 intro k hk
 simp [rShape]
 refine ⟨fun h=>?_,fun h=>?_⟩
 ·have htk:es.take (k+1)=es.take k ++ [es[k]]:=by rw [List.take_add_one,List.getElem?_eq_getElem h];rfl
  have hwk:IntKind.wrap .i64 ((k:Int)+1)=(k:Int)+1:=by rw [wrap64] <;> omega
  have hwi:=ref17_within sh (markM l sh.src) window key es[k].rec_ hw hn (hrec _ (List.getElem_mem h)) hc
  simp [caseL,rShape,rRec] at hwi
  have hF:fixedM l sh window key (es.take (k+1))=fixedM l sh window key (es.take k) ++ (if fxP l sh window key es[k]=true then [es[k].rec_.val] else []):=by
   rw [fixed_eq,fixed_eq,htk,List.filter_append,vmap_app];simp only [List.filter_cons,List.filter_nil];split <;> simp [vmap]
  have hL:vmap ((es.take (k+1)).filter (lxP l sh window key))=vmap ((es.take k).filter (lxP l sh window key)) ++ (if lxP l sh window key es[k]=true then [es[k].rec_.val] else []):=by
   rw [htk,List.filter_append,vmap_app];simp only [List.filter_cons,List.filter_nil];split <;> simp [vmap]
  have hskip:inWin sh window key es[k]=false->fixedM l sh window key (es.take (k+1))=fixedM l sh window key (es.take k)/\vmap ((es.take (k+1)).filter (lxP l sh window key))=vmap ((es.take k).filter (lxP l sh window key)):=fun q=>by
   rw [hF,hL];simp [fxP,lxP,q]
  have hIw:inWin sh window key es[k]=(decide (es[k].src=sh.src) && (inB es[k].rec_.at_ (window - sh.n+1) window && decide (es[k].rec_.key=key) && passM sh es[k].rec_)):=by
   unfold inWin
   by_cases a:es[k].src=sh.src <;> by_cases b:es[k].rec_.key=key <;> simp [a,b]
  by_cases q1:es[k].src=sh.src
  rotate_left
  ·have q1b:(es[k].src != sh.src)=true:=by simpa using q1
   simp [h,List.getElem?_eq_getElem h,rEvent,rRec,q1,q1b]
   obtain ⟨s1,s2⟩:=hskip (by rw [hIw];simp [q1])
   exact NX.go (k+1) (by omega) h (by simp [rShape,hwk,s1,s2])
  ·have q1b:(es[k].src != sh.src)=false:=by simpa using q1
   simp [h,List.getElem?_eq_getElem h,rEvent,rRec,q1,q1b]
   refine EC.afun hwi ?_
   cases q2:(inB es[k].rec_.at_ (window - sh.n+1) window && decide (es[k].rec_.key=key) && passM sh es[k].rec_) with
   | false =>
    simp [q1b]
    obtain ⟨s1,s2⟩:=hskip (by rw [hIw,q2];simp)
    exact NX.go (k+1) (by omega) h (by simp [rShape,hwk,s1,s2])
   | true =>
    have hin:inWin sh window key es[k]=true:=by rw [hIw,q2];simp [q1]
    have hfl:(fixedM l sh window key (es.take k)).length<=k:=by
     simp only [fixedM,List.length_map]
     exact Nat.le_trans (List.length_filter_le ..) (by simp;omega)
    have hll:(vmap ((es.take k).filter (lxP l sh window key))).length<=k:=by
     simp only [vmap,List.length_map]
     exact Nat.le_trans (List.length_filter_le ..) (by simp;omega)
    have hpF:=ref17_put (putsI (fixedM l sh window key (es.take k))) (by rw [(putsI_perm _).length_eq];omega) es[k].rec_.val
    have hpL:=ref17_put (putsI (vmap ((es.take k).filter (lxP l sh window key)))) (by rw [(putsI_perm _).length_eq];omega) es[k].rec_.val
    rw [<- putsI_snoc] at hpF hpL
    have hgr:=ref17_greatest l sh.src es[k].id
    rw [greatest_eq] at hgr
    simp at hpF hpL hgr
    have hv99:=hver sh.src es[k].id
    have go1:isLoose l sh es[k]=false->fixedM l sh window key (es.take (k+1))=fixedM l sh window key (es.take k) ++ [es[k].rec_.val]/\vmap ((es.take (k+1)).filter (lxP l sh window key))=vmap ((es.take k).filter (lxP l sh window key)):=fun q=>by
     rw [hF,hL];simp [fxP,lxP,hin,q]
    have go2:isLoose l sh es[k]=true->fixedM l sh window key (es.take (k+1))=fixedM l sh window key (es.take k)/\vmap ((es.take (k+1)).filter (lxP l sh window key))=vmap ((es.take k).filter (lxP l sh window key)) ++ [es[k].rec_.val]:=fun q=>by
     rw [hF,hL];simp [fxP,lxP,hin,q]
    simp [q1b,h,List.getElem?_eq_getElem h,rEvent,rRec]
    by_cases q3:es[k].rec_.at_ < markM l sh.src
    ·simp [q3,h,List.getElem?_eq_getElem h,rEvent,rRec]
     refine ⟨fun q=>by omega,fun q=>by omega,EC.afun hpF ?_⟩
     simp
     obtain ⟨s1,s2⟩:=go1 (by simp only [isLoose,decide_eq_false_iff_not];omega)
     exact NX.go (k+1) (by omega) h (by simp [rShape,hwk,s1,s2])
    ·have q3':markM l sh.src<=es[k].rec_.at_:=by omega
     simp [q3,q3']
     refine EC.afun hgr ?_
     by_cases q4:verM l sh.src es[k].id=99
     ·simp [q3,q4,h,List.getElem?_eq_getElem h,rEvent,rRec]
      refine EC.afun hpF ?_
      simp
      obtain ⟨s1,s2⟩:=go1 (by simp only [isLoose,decide_eq_false_iff_not];omega)
      exact NX.go (k+1) (by omega) h (by simp [rShape,hwk,s1,s2])
     ·simp [q3,q4,h,List.getElem?_eq_getElem h,rEvent,rRec]
      refine EC.afun hpL ?_
      simp
      obtain ⟨s1,s2⟩:=go2 (by simp only [isLoose,decide_eq_true_eq];omega)
      exact NX.go (k+1) (by omega) h (by simp [rShape,hwk,s1,s2])
 ·have e:k=es.length:=by omega
  subst e
  rw [List.take_length]
  exact ⟨rfl,rfl⟩
end Go.Aft
end
section
set_option maxRecDepth 20000
namespace Go.Aft
theorem APK.appXf {c:Cx} {s:S} {K:KT} {dst:Option Nat} {T e:TypeId} {d ed:TyD} {a b:Operand} {H0:GH} {rows ys:List (List DV)} (hT:c.ty T=some d) (hd:d.k=.sl e) (he:c.ty e=some ed) (hsz:ed.sz ≠ 0)
  {x:LV} (ha:s.get a=x) (happ:AppX e ed.sz H0 x rows s.H) (hb:rowsOf (s.arg b)=some ys) (hbp:s.argP b) (hr:∀ r ∈ rows,r.length=ed.sz) (hy:∀ r ∈ ys,r.length=ed.sz)
  (hl:(rows.length+ys.length) * ed.bt<=140737488355328/\rows.length+ys.length<=140737488355328) (hv:∀ t,dst=some t->c.pub t ≠ .vec)
  (hk:∀ x' H',AppX e ed.sz H0 x' (rows ++ ys) H'->s.H.next<=H'.next->(∀ m,m < s.H.next->(∀ r,x ≠ .osl m r)->H'.obj m=s.H.obj m)->((∀ n r,x=.osl n r->x'=.osl n (rows ++ ys))/\((∀ n r,x ≠ .osl n r)->x'=.osl s.H.next (rows ++ ys)))->@AP K (({ s with H:=H' }:S).put dst x')):@APK c #[a,b] #[T,T] s dst K:=by
 obtain ⟨k,sz,z,bt⟩:=d
 simp only at hd;subst hd
 have hap:s.argP a:=by
  unfold S.argP;rw [ha]
  rcases happ.is with ⟨_,rfl⟩ | ⟨n,_,_,rfl,_⟩ <;> trivial
 have harg:s.arg a=x:=by
  unfold S.arg;rw [ha];exact happ.plain.un
 rcases id happ.is with ⟨rfl,e1⟩ | ⟨n,q1,q2,e1,e2⟩
 ·rw [e1] at harg
  have hvec:vecBi c.ty c.pub s dst .append [T,T] [a,b]=none:=by
   simp only [vecBi,hT,he,harg,if_true,Option.bind_some,if_neg hsz]
   cases dst with
   | none=>rfl
   | some t=>simp [hv t rfl]
  refine APK.ev ?_
  simp only [opX,hvec,Option.none_or,biSem,hT,he,harg,hb,if_true,Option.bind_some,if_neg hsz,RK_some]
  simp only [List.length_nil,Nat.zero_add] at hl
  refine ⟨⟨hap,hbp,hy,hl⟩,?_⟩
  refine hk (.osl s.H.next ([] ++ ys)) (s.H.add (.arr e ed.sz ys.length)) ⟨.inr ⟨s.H.next,happ.nx,by rw [GH.add_next];omega,rfl,by rw [GH.add_obj,if_pos rfl];simp⟩,by rw [GH.add_next];have:=happ.nx;omega,fun m hm=>?_⟩ (by rw [GH.add_next];omega) (fun m hm _=>by rw [GH.add_obj,if_neg (by omega)]) ⟨fun n r q=>(by rw [e1] at q;cases q),fun _=>rfl⟩
  have:=happ.nx
  rw [GH.add_obj,if_neg (by omega)];exact happ.ob m hm
 ·rw [e1] at harg
  have hvec:vecBi c.ty c.pub s dst .append [T,T] [a,b]=none:=by
   simp only [vecBi,hT,he,harg,if_true,Option.bind_some,if_neg hsz]
  refine APK.ev ?_
  simp only [opX,hvec,Option.none_or,biSem,hT,he,harg,e2,hb,if_true,Option.bind_some,if_neg hsz,and_self,RK_some]
  refine ⟨⟨hap,hbp,trivial,hr,hy,hl⟩,?_⟩
  refine hk (.osl n (rows ++ ys)) (s.H.set n (.arr e ed.sz (rows.length+ys.length))) ⟨.inr ⟨n,q1,q2,rfl,by rw [GH.set_obj,if_pos rfl];simp⟩,by rw [GH.set_next];exact happ.nx,fun m hm=>by rw [GH.set_obj,if_neg (by omega)];exact happ.ob m hm⟩ (by rw [GH.set_next];exact Nat.le_refl _) (fun m hm hne=>?_) ⟨fun n' r q=>(by rw [e1] at q;cases q;rfl),fun q=>absurd e1 (q _ _)⟩
  rw [GH.set_obj,if_neg];intro e;subst e;exact hne rows e1
structure Two (e:TypeId) (sz:Nat) (H:GH) (x:LV) (rx:List (List DV)) (y:LV) (ry:List (List DV)) (Hc:GH):Prop where
 hx:AppX e sz H x rx Hc
 hy:AppX e sz H y ry Hc
 ne:∀ n r r',x=.osl n r->y ≠ .osl n r'
theorem Two.left {e:TypeId} {sz:Nat} {H:GH} {x y x':LV} {rx ry rx':List (List DV)} {Hc H':GH} (h:Two e sz H x rx y ry Hc) (h1:AppX e sz H x' rx' H') (hn:Hc.next<=H'.next) (ho:∀ m,m < Hc.next->(∀ r,x ≠ .osl m r)->H'.obj m=Hc.obj m)
  (hf:(∀ n r,x=.osl n r->x'=.osl n rx')/\((∀ n r,x ≠ .osl n r)->x'=.osl Hc.next rx')):Two e sz H x' rx' y ry H':=by
 refine ⟨h1,⟨?_,h1.nx,h1.ob⟩,fun n r r' q q'=>?_⟩
 ·rcases h.hy.is with q | ⟨n,q1,q2,q3,q4⟩
  ·exact .inl q
  ·refine .inr ⟨n,q1,by omega,q3,?_⟩
   rw [ho n q2 fun r e=>h.ne n r _ e q3];exact q4
 ·rcases h.hx.is with ⟨_,e1⟩ | ⟨n',_,_,e1,_⟩
  ·have:=hf.2 (fun n r e=>by rw [e1] at e;cases e)
   rw [this] at q
   cases q
   rcases h.hy.is with ⟨_,e2⟩ | ⟨m,_,m2,e2,_⟩
   ·rw [e2] at q';cases q'
   ·rw [e2] at q';cases q';exact absurd m2 (Nat.lt_irrefl _)
  ·have:=hf.1 _ _ e1
   rw [this] at q
   cases q
   exact h.ne _ _ _ e1 q'
theorem Two.swap {e:TypeId} {sz:Nat} {H:GH} {x y:LV} {rx ry:List (List DV)} {Hc:GH} (h:Two e sz H x rx y ry Hc):Two e sz H y ry x rx Hc :=
 ⟨h.hy,h.hx,fun n r r' q q'=>h.ne n r' r q' q⟩
end Go.Aft
end
