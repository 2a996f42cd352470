import Derived.Test.YtdhphbedajhmnaaGreatA33
set_option linter.all false
section
set_option linter.unusedSectionVars false
set_option maxRecDepth 20000
namespace Go.Aft
open Go.Sort (swp insInner insOuter insertionSort SWO)
section
variable {α:Type} (lt:α->α->Bool)
def mergeL:List α->List α->List α
 | [],ys=>ys
 | x :: xs,[]=>x :: xs
 | x :: xs,y :: ys=>if lt y x=true then y :: mergeL (x :: xs) ys else x :: mergeL xs (y :: ys)
termination_by xs ys=>xs.length+ys.length
def SortedL (l:List α):Prop:=l.Pairwise fun x y=>lt y x=false
@[simp] theorem mergeL_nil (xs:List α):mergeL lt xs []=xs:=by cases xs <;> simp [mergeL]
@[simp] theorem mergeL_nil' (xs:List α):mergeL lt [] xs=xs:=by simp [mergeL]
theorem mergeL_lt {x y:α} {xs ys:List α} (h:lt y x=true):mergeL lt (x :: xs) (y :: ys)=y :: mergeL lt (x :: xs) ys:=by rw [mergeL,if_pos h]
theorem mergeL_ge {x y:α} {xs ys:List α} (h:lt y x=false):mergeL lt (x :: xs) (y :: ys)=x :: mergeL lt xs (y :: ys):=by rw [mergeL,if_neg (by simp [h])]
theorem mergeL_perm (xs ys:List α):(mergeL lt xs ys).Perm (xs ++ ys):=by
 induction xs,ys using mergeL.induct lt with
 | case1 ys=>simp
 | case2 x xs=>simp
 | case3 x xs y ys h ih =>
  rw [mergeL_lt _ h]
  exact (List.Perm.cons y ih).trans (List.perm_middle (l₁:=x :: xs)).symm
 | case4 x xs y ys h ih =>
  rw [mergeL_ge _ (by simpa using h)]
  exact List.Perm.cons x ih
@[simp] theorem mergeL_len (xs ys:List α):(mergeL lt xs ys).length=xs.length+ys.length:=by
 rw [(mergeL_perm lt xs ys).length_eq,List.length_append]
theorem mergeL_right {X Y:List α} (h:∀ x ∈ X,∀ y ∈ Y,lt y x=true) (Z:List α):mergeL lt X (Y ++ Z)=Y ++ mergeL lt X Z:=by
 induction Y with
 | nil=>rfl
 | cons y Y ih =>
  cases X with
  | nil=>simp
  | cons x X =>
   rw [List.cons_append,mergeL_lt _ (h x (by simp) y (by simp)),ih fun a ha b hb=>h a ha b (List.mem_cons_of_mem _ hb)];rfl
theorem mergeL_left {X Y:List α} (h:∀ x ∈ X,∀ y ∈ Y,lt y x=false) (Z:List α):mergeL lt (X ++ Z) Y=X ++ mergeL lt Z Y:=by
 induction X with
 | nil=>rfl
 | cons x X ih =>
  cases Y with
  | nil=>simp
  | cons y Y =>
   rw [List.cons_append,mergeL_ge _ (h x (by simp) y (by simp)),ih fun a ha b hb=>h a (List.mem_cons_of_mem _ ha) b hb];rfl
theorem mergeL_split {X1 Y1 X2 Y2:List α} (h1:∀ x ∈ X1,∀ y ∈ Y2,lt y x=false) (h2:∀ x ∈ X2,∀ y ∈ Y1,lt y x=true) :
  mergeL lt (X1 ++ X2) (Y1 ++ Y2)=mergeL lt X1 Y1 ++ mergeL lt X2 Y2:=by
 induction X1,Y1 using mergeL.induct lt with
 | case1 ys=>simpa using mergeL_right lt h2 Y2
 | case2 x xs=>simpa using mergeL_left lt h1 X2
 | case3 x xs y ys h ih =>
  rw [mergeL_lt _ h]
  simp only [List.cons_append]
  rw [mergeL_lt _ h]
  have:=ih h1 fun a ha b hb=>h2 a ha b (List.mem_cons_of_mem _ hb)
  simp only [List.cons_append] at this
  rw [this]
 | case4 x xs y ys h ih =>
  rw [mergeL_ge _ (by simpa using h)]
  simp only [List.cons_append]
  rw [mergeL_ge _ (by simpa using h)]
  have:=ih (fun a ha b hb=>h1 a (List.mem_cons_of_mem _ ha) b hb) h2
  simp only [List.cons_append] at this
  rw [this]
variable {lt}
theorem mergeL_sorted (hO:SWO lt) {X Y:List α} (hX:SortedL lt X) (hY:SortedL lt Y):SortedL lt (mergeL lt X Y):=by
 induction X,Y using mergeL.induct lt with
 | case1 ys=>simpa using hY
 | case2 x xs=>simpa using hX
 | case3 x xs y ys h ih =>
  rw [mergeL_lt _ h]
  unfold SortedL at hX hY ih |-
  rw [List.pairwise_cons] at hX hY |-
  refine ⟨fun z hz=>?_,ih (List.pairwise_cons.2 hX) hY.2⟩
  rcases List.mem_append.1 ((mergeL_perm lt _ _).mem_iff.1 hz) with q | q
  ·have hyx:lt x y=false:=by
    cases e:lt x y with
    | false=>rfl
    | true=>have:=hO.trans _ _ _ e h;rw [hO.irrefl] at this;cases this
   rcases List.mem_cons.1 q with rfl | q
   ·exact hyx
   ·exact hO.ntrans _ _ _ (hX.1 z q) hyx
  ·exact hY.1 z q
 | case4 x xs y ys h ih =>
  have h:lt y x=false:=by simpa using h
  rw [mergeL_ge _ h]
  unfold SortedL at hX hY ih |-
  rw [List.pairwise_cons] at hX hY |-
  refine ⟨fun z hz=>?_,ih hX.2 (List.pairwise_cons.2 hY)⟩
  rcases List.mem_append.1 ((mergeL_perm lt _ _).mem_iff.1 hz) with q | q
  ·exact hX.1 z q
  ·rcases List.mem_cons.1 q with rfl | q
   ·exact h
   ·exact hO.ntrans _ _ _ (hY.1 z q) h
theorem mergeL_assoc (hO:SWO lt):∀ (n:Nat) (X Y Z:List α),X.length+Y.length+Z.length<=n->mergeL lt (mergeL lt X Y) Z=mergeL lt X (mergeL lt Y Z)
 | _,[],Y,Z,_=>by simp
 | _,x :: X,[],Z,_=>by simp
 | _,x :: X,y :: Y,[],_=>by simp
 | 0,x :: X,y :: Y,z :: Z,h=>by simp at h
 | n+1,x :: X,y :: Y,z :: Z,h=>by
  simp only [List.length_cons] at h
  have i1:=mergeL_assoc hO n X (y :: Y) (z :: Z) (by simp only [List.length_cons];omega)
  have i2:=mergeL_assoc hO n (x :: X) Y (z :: Z) (by simp only [List.length_cons];omega)
  have i3:=mergeL_assoc hO n (x :: X) (y :: Y) Z (by simp only [List.length_cons];omega)
  have nt:=hO.ntrans
  cases a:lt y x with
  | true =>
   rw [mergeL_lt _ a] at i3 |-
   cases b:lt z y with
   | true =>
    have c:lt z x=true:=hO.trans _ _ _ b a
    rw [mergeL_lt _ b,mergeL_lt _ b,mergeL_lt _ c,i3]
   | false =>
    rw [mergeL_ge _ b,mergeL_ge _ b,mergeL_lt _ a,i2]
  | false =>
   rw [mergeL_ge _ a] at i3 |-
   cases b:lt z y with
   | true =>
    rw [mergeL_lt _ b] at i1 |-
    cases c:lt z x with
    | true=>rw [mergeL_lt _ c,mergeL_lt _ c,i3]
    | false=>rw [mergeL_ge _ c,mergeL_ge _ c,i1]
   | false =>
    rw [mergeL_ge _ b] at i1 |-
    have c:lt z x=false:=nt _ _ _ b a
    rw [mergeL_ge _ c,mergeL_ge _ a,i1]
variable (lt)
def isort (l:List α):List α:=l.foldl (fun acc x=>mergeL lt acc [x]) []
variable {lt}
theorem isort_snoc (l:List α) (x:α):isort lt (l ++ [x])=mergeL lt (isort lt l) [x]:=by simp [isort]
theorem rev_ind {p:List α->Prop} (h0:p []) (h1:∀ l x,p l->p (l ++ [x])) (l:List α):p l:=by
 have:∀ r:List α,p r.reverse:=fun r=>by
  induction r with
  | nil=>exact h0
  | cons x r ih=>rw [List.reverse_cons];exact h1 _ _ ih
 simpa using this l.reverse
theorem isort_perm (l:List α):(isort lt l).Perm l:=by
 induction l using rev_ind with
 | h0=>exact List.Perm.refl _
 | h1 l x ih=>rw [isort_snoc];exact (mergeL_perm lt _ _).trans (List.Perm.append_right _ ih)
@[simp] theorem isort_len (l:List α):(isort lt l).length=l.length:=(isort_perm l).length_eq
theorem isort_sorted (hO:SWO lt) (l:List α):SortedL lt (isort lt l):=by
 induction l using rev_ind with
 | h0=>exact List.Pairwise.nil
 | h1 l x ih=>rw [isort_snoc];exact mergeL_sorted hO ih (List.pairwise_singleton _ _)
theorem isort_append (hO:SWO lt) (X Y:List α):mergeL lt (isort lt X) (isort lt Y)=isort lt (X ++ Y):=by
 induction Y using rev_ind with
 | h0=>simp [isort]
 | h1 Y y ih=>rw [isort_snoc,<- mergeL_assoc hO _ _ _ _ (Nat.le_refl _),ih,<- isort_snoc,List.append_assoc]
variable [Inhabited α]
theorem get_mid (A B:List α) (x:α) {i:Nat} (h:i=A.length):(A ++ x :: B).toArray[i]! = x:=by
 subst h;simp
theorem set_mid (A B:List α) (x y:α) {i:Nat} (h:i=A.length):(A ++ x :: B).toArray.setIfInBounds i y=(A ++ y :: B).toArray:=by
 subst h;simp
theorem swp_mid (A B C:List α) (x y:α) {i j:Nat} (hi:i=A.length) (hj:j=A.length+1+B.length):swp (A ++ x :: (B ++ y :: C)).toArray i j=(A ++ y :: (B ++ x :: C)).toArray:=by
 have g1:=get_mid A (B ++ y :: C) x hi
 have g2:=get_mid (A ++ x :: B) C y (i:=j) (by simp;omega)
 simp only [List.append_assoc,List.cons_append] at g2
 rw [swp,g1,g2,set_mid _ _ _ _ hi]
 have:=set_mid (A ++ y :: B) C y x (i:=j) (by simp;omega)
 simp only [List.append_assoc,List.cons_append] at this
 exact this
theorem swp_mid' (A B C:List α) (x y:α) {i j:Nat} (hi:i=A.length) (hj:j=A.length+1+B.length):swp (A ++ x :: (B ++ y :: C)).toArray j i=(A ++ y :: (B ++ x :: C)).toArray:=by
 have g1:=get_mid A (B ++ y :: C) x hi
 have g2:=get_mid (A ++ x :: B) C y (i:=j) (by simp;omega)
 simp only [List.append_assoc,List.cons_append] at g2
 have:=set_mid (A ++ x :: B) C y x (i:=j) (by simp;omega)
 simp only [List.append_assoc,List.cons_append] at this
 rw [swp,g1,g2,this,set_mid _ _ _ _ hi]
theorem insInner_list (hO:SWO lt) (P:List α) (x:α) {a:Nat} (ha:a=P.length) (X:List α):∀ (S:List α) (j:Nat),j=P.length+X.length->SortedL lt X ->
  insInner lt a j (P ++ (X ++ x :: S)).toArray=(P ++ (mergeL lt X [x] ++ S)).toArray:=by
 induction X using rev_ind with
 | h0=>
  intro S j hj _
  simp at hj
  rw [insInner_stop (by omega)];simp
 | h1 X z ih =>
  intro S j hj hs
  simp at hj
  have g1:(P ++ (X ++ [z] ++ x :: S)).toArray[j]! = x:=by
   have:=get_mid (P ++ X ++ [z]) S x (i:=j) (by simp;omega)
   simpa using this
  have g2:(P ++ (X ++ [z] ++ x :: S)).toArray[j - 1]! = z:=by
   have:=get_mid (P ++ X) (x :: S) z (i:=j - 1) (by simp;omega)
   simpa using this
  have hsX:SortedL lt X:=(List.pairwise_append.1 hs).1
  cases c:lt x z with
  | true =>
   rw [insInner_go ⟨by omega,by rw [g1,g2];exact c⟩]
   have hsw:=swp_mid' (P ++ X) [] S z x (i:=j - 1) (j:=j) (by simp;omega) (by simp;omega)
   simp only [List.append_assoc,List.cons_append,List.nil_append] at hsw |-
   rw [hsw,ih (z :: S) (j - 1) (by omega) hsX]
   have e:=mergeL_split lt (X1:=X) (Y1:=[x]) (X2:=[z]) (Y2:=[]) (by simp) (by simpa using c)
   simp only [List.append_nil,mergeL_nil] at e
   rw [e];simp
  | false =>
   rw [insInner_stop (by rw [g1,g2];simp [c])]
   have e:=mergeL_split lt (X1:=X ++ [z]) (Y1:=[]) (X2:=[]) (Y2:=[x]) (by
    intro w hw y hy
    rw [List.mem_singleton] at hy;subst hy
    rcases List.mem_append.1 hw with q | q
    ·exact hO.ntrans _ _ _ c ((List.pairwise_append.1 hs).2.2 w q z (by simp))
    ·rw [List.mem_singleton] at q;subst q;exact c) (by simp)
   simp only [List.append_nil,List.nil_append,mergeL_nil,mergeL_nil'] at e
   rw [e];simp
theorem insOuter_list (hO:SWO lt) (P S:List α) {a b:Nat} (ha:a=P.length):∀ (Y X0:List α) (i:Nat),i=P.length+X0.length->b=P.length+X0.length+Y.length ->
  insOuter lt a b i (P ++ (isort lt X0 ++ (Y ++ S))).toArray=(P ++ (isort lt (X0 ++ Y) ++ S)).toArray
 | [],X0,i,hi,hb=>by
  rw [insOuter,if_neg (by simp at hb;omega)];simp
 | y :: Y,X0,i,hi,hb=>by
  simp at hb
  rw [insOuter,if_pos (by omega)]
  have e1:=insInner_list hO P y ha (isort lt X0) (Y ++ S) i (by simp;omega) (isort_sorted hO X0)
  simp only [List.cons_append]
  rw [e1,<- isort_snoc,insOuter_list hO P S ha Y (X0 ++ [y]) (i+1) (by simp;omega) (by simp;omega)]
  simp
theorem insertionSort_list (hO:SWO lt) (P X S:List α) {a b:Nat} (ha:a=P.length) (hb:b=P.length+X.length) :
  insertionSort lt (P ++ (X ++ S)).toArray a b=(P ++ (isort lt X ++ S)).toArray:=by
 rw [insertionSort]
 cases X with
 | nil=>rw [insOuter,if_neg (by simp at hb;omega)];simp [isort]
 | cons x X =>
  have h:=insOuter_list (b:=b) hO P S ha X [x] (a+1) (by simp;omega) (by simp at hb |-;omega)
  have e:isort lt [x]=[x]:=by simp [isort]
  rw [e] at h
  simpa using h
variable (lt)
def blocks (s:Nat) (l:List α):List α:=if h:0 < s/\s < l.length then isort lt (l.take s) ++ blocks s (l.drop s) else isort lt l
termination_by l.length
decreasing_by simp;omega
variable {lt}
theorem blocks_append {s:Nat} (hs:0 < s) {X:List α} (hX:X.length=s) (Y:List α):blocks lt s (X ++ Y)=isort lt X ++ blocks lt s Y:=by
 cases Y with
 | nil=>rw [blocks,dif_neg (by simp;omega),blocks,dif_neg (by simp)];simp [isort]
 | cons y Y=>
  rw [blocks,dif_pos (by simp;omega)]
  rw [List.take_append_of_le_length (by omega),List.take_of_length_le (by omega),List.drop_append_of_le_length (by omega),List.drop_of_length_le (by omega),List.nil_append]
theorem blocks_few {s:Nat} {X:List α} (hX:X.length<=s):blocks lt s X=isort lt X:=by rw [blocks,dif_neg (by omega)]
end
end Go.Aft
end
section
set_option linter.unusedSectionVars false
set_option maxRecDepth 20000
namespace Go.Aft
open Go.Proofs.Tryz
open Go.Sort (swp insInner insOuter insertionSort SWO)
theorem take_snoc {α:Type} {l:List α} {i:Nat} (h:i < l.length):l.take (i+1)=l.take i ++ [l[i]]:=by
 rw [List.take_add_one,List.getElem?_eq_getElem h];rfl
theorem loose_swapRange (F:FuncId) (cap:List LV) (hcap:∀ n,nbs n cap) (P U M V S:List Loose) (hUV:U.length=V.length) (N a b k:Nat) (hN:N=(P ++ (U ++ (M ++ (V ++ S)))).length) (hsz:N<=1000) (ha:a=P.length) (hb:b=P.length+(U.length+M.length)) (hk:k=U.length)
  (n g:Nat) (ex:Bool) (H:GH) (ho:H.obj n=some (vecO rLoose 181 g 6 (P ++ (U ++ (M ++ (V ++ S)))).toArray ex)) :
  ECall prog 297 [.vs n g 6 0 N,lvI a,lvI b,lvI k,.fn (.func F) [] cap] H fun ce H'=>(∃ v,ce=.ret v)/\H'=H.set n (vecO rLoose 181 g 6 (P ++ (V ++ (M ++ (U ++ S)))).toArray ex):=by
 have cc:=cxK_ok (p:=kds [] [] [])
 refine ECall.bodyN (cxK_ok (p:=kds [] [] [])) func297 rfl call297 (by rw [ntmps297];simp) rfl fun hf hw=>?_
 have ln:=hw.lt ho
 simp only [List.length_append] at hN
 simp [ntmps297,results297]
 refine AW.loopS cc (fun i:Nat=>⟨[(0,.vs n g 6 0 N),(1,lvI a),(2,lvI b),(3,lvI k),(10,lvI i)],[],H.set n (vecO rLoose 181 g 6 (P ++ (V.take i ++ (U.drop i ++ (M ++ (U.take i ++ (V.drop i ++ S)))))).toArray ex)⟩) (fun i=>k - i)
  (fun i=>i<=k) 0 ⟨by simp,by simp [GH.set_id ho,nbs_only _ (hcap 0)]⟩ ?_
 intro i hi
 have ob:∀ o,(H.set n o).obj n=some o:=fun o=>GH.set_same
 simp
 refine ⟨fun h=>?_,fun h=>?_⟩
 ·have hiU:i < U.length:=by omega
  have hiV:i < V.length:=by omega
  have eU:U.drop i=U[i] :: U.drop (i+1):=List.drop_eq_getElem_cons hiU
  have eV:V.drop i=V[i] :: V.drop (i+1):=List.drop_eq_getElem_cons hiV
  have hsw:=swp_mid (P ++ V.take i) (U.drop (i+1) ++ (M ++ U.take i)) (V.drop (i+1) ++ S) U[i] V[i] (i:=a+i) (j:=b+i) (by simp;omega) (by simp;omega)
  obtain ⟨d2,hd2⟩:∃ d2,(P ++ (V.take i ++ (U.drop i ++ (M ++ (U.take i ++ (V.drop i ++ S)))))).toArray=d2:=⟨_,rfl⟩
  have hds:d2.size=N:=by rw [<- hd2];simp;omega
  have hfin:(P ++ (V.take (i+1) ++ (U.drop (i+1) ++ (M ++ (U.take (i+1) ++ (V.drop (i+1) ++ S)))))).toArray=swp d2 (a+i) (b+i):=by
   rw [<- hd2,eU,eV,take_snoc hiV,take_snoc hiU]
   simp only [List.append_assoc,List.cons_append,List.nil_append] at hsw |-
   rw [hsw]
  rw [hd2]
  refine AW.draw cc [] (.q 0<|.q 1<|.q 2<|.q 3<|.q 4<|.q 5<|.q 6<|.q 7<|.q 8<|.q 9<|.q 10<|.q 11<|.q 12<|.q 14<|.q 15<|.q 16<|.q 17<|.q 18<|.q 13<|.q 19<|.q 20<|.f<|.one 21<|.q 22<|.f<|.one 23<|.done) (by kernel_rfl) ?_
  have wa:IntKind.wrap .i64 ((a:Int)+i)=(a:Int)+i:=by rw [wrap64] <;> omega
  have ta:((a:Int)+i).toNat=a+i:=by omega
  have wb:IntKind.wrap .i64 ((b:Int)+i)=(b:Int)+i:=by rw [wrap64] <;> omega
  have tb:((b:Int)+i).toNat=b+i:=by omega
  have hl2:=rowsV_len rLoose_len d2
  rw [hds] at hl2
  have c1:6<=N * 6 - (a+i) * 6:=by omega
  have c2:6<=N * 6 - (b+i) * 6:=by omega
  have g1:=rowsV_get rLoose_len d2 (show a+i < d2.size by omega)
  have g2:=rowsV_get rLoose_len d2 (show b+i < d2.size by omega)
  have s1:=rowsV_set rLoose_len d2 (show a+i < d2.size by omega) d2[b+i]!
  have s2:=rowsV_set rLoose_len (d2.setIfInBounds (a+i) d2[b+i]!) (show b+i < (d2.setIfInBounds (a+i) d2[b+i]!).size by simp;omega) d2[a+i]!
  simp [putAt] at s1 s2
  have hl3:=rowsV_len rLoose_len (d2.setIfInBounds (a+i) d2[b+i]!)
  simp [hds] at hl3
  have c3:(a+i) * 6+6<=N * 6:=by omega
  have c4:(b+i) * 6+6<=N * 6:=by omega
  simp [ob,vecO,wa,ta,wb,tb,hl2,c1,c2,g1,g2,c3,s1,hl3,c4,GH.set_set,nbs_map]
  have wi:=wrap_succ (n:=1000) (show i < 1000 by omega)
  refine ⟨⟨by omega,by omega⟩,⟨by omega,by omega⟩,⟨by omega,by omega⟩,NX.go (i+1) (by omega) (by omega) ?_⟩
  rw [hfin]
  simp [nbs_only _ (hcap 0),wi,s2,swp,vecO]
 ·have e:i=k:=by omega
  subst e;subst hk
  simp [hUV,List.take_of_length_le,List.drop_of_length_le]
  exact fun hz=>hz.drop (by rw [GH.set_next];exact Nat.le_refl _)
theorem loose_rotate (F:FuncId) (cap:List LV) (hcap:∀ n,nbs n cap) (P X Y S:List Loose) (hX:X ≠ []) (hY:Y ≠ []) (N a m b:Nat) (hN:N=(P ++ (X ++ (Y ++ S))).length) (hsz:N<=1000) (ha:a=P.length) (hm:m=P.length+X.length) (hb:b=P.length+(X.length+Y.length))
  (n g:Nat) (ex:Bool) (H:GH) (ho:H.obj n=some (vecO rLoose 181 g 6 (P ++ (X ++ (Y ++ S))).toArray ex)) :
  ECall prog 254 [.vs n g 6 0 N,lvI a,lvI m,lvI b,.fn (.func F) [] cap] H fun ce H'=>(∃ v,ce=.ret v)/\H'=H.set n (vecO rLoose 181 g 6 (P ++ (Y ++ (X ++ S))).toArray ex):=by
 have cc:=cxK_ok (p:=kds [] [] [])
 refine ECall.bodyN (cxK_ok (p:=kds [] [] [])) func254 rfl call254 (by rw [ntmps254];simp) rfl fun hf hw=>?_
 have ln:=hw.lt ho
 have hxl:=List.length_pos_iff.2 hX
 have hyl:=List.length_pos_iff.2 hY
 simp only [List.length_append] at hN
 have w1:IntKind.wrap .i64 ((m:Int) - a)=X.length:=by rw [wrap64] <;> omega
 have w2:IntKind.wrap .i64 ((b:Int) - m)=Y.length:=by rw [wrap64] <;> omega
 simp [ntmps254,results254,w1,w2]
 refine AW.loopS cc (fun s:List Loose × List Loose × List Loose × List Loose=>⟨[(0,.vs n g 6 0 N),(2,lvI m),(4,.fn (.func F) [] cap),(10,lvI s.2.1.length),(11,lvI s.2.2.1.length)],[],H.set n (vecO rLoose 181 g 6 (s.1 ++ (s.2.1 ++ (s.2.2.1 ++ s.2.2.2))).toArray ex)⟩) (fun s=>s.2.1.length+s.2.2.1.length)
  (fun s=>m=s.1.length+s.2.1.length/\N=s.1.length+(s.2.1.length+(s.2.2.1.length+s.2.2.2.length))/\0 < s.2.1.length/\0 < s.2.2.1.length/\s.1 ++ (s.2.2.1 ++ (s.2.1 ++ s.2.2.2))=P ++ (Y ++ (X ++ S))) (P,X,Y,S) ⟨⟨hm,hN,hxl,hyl,rfl⟩,by simp [GH.set_id ho,nbs_only _ (hcap 0)]⟩ ?_
 rintro ⟨P1,X1,Y1,S1⟩ ⟨i1,i2,i3,i4,i5⟩
 simp only at i1 i2 i3 i4 i5
 have ob:∀ o,(H.set n o).obj n=some o:=fun o=>GH.set_same
 have wm:IntKind.wrap .i64 ((m:Int) - X1.length)=P1.length:=by rw [wrap64] <;> omega
 simp [wm]
 have hnx:∀ o,n < (H.set n o).next:=fun o=>by rw [GH.set_next];exact ln
 refine ⟨fun h=>⟨fun q=>⟨⟨hnx _,hcap _⟩,?_⟩,fun q=>⟨⟨hnx _,hcap _⟩,?_⟩⟩,fun h=>⟨⟨hnx _,hcap _⟩,?_⟩⟩
 ·obtain ⟨U,M,rfl,hU⟩:∃ U M,X1=U ++ M/\U.length=Y1.length:=⟨X1.take Y1.length,X1.drop Y1.length,(List.take_append_drop _ _).symm,by simp;omega⟩
  simp only [List.length_append,List.append_assoc] at *
  have hsw:=loose_swapRange F cap hcap P1 U M Y1 S1 hU N P1.length m Y1.length (by simp only [List.length_append];omega) hsz rfl (by omega) hU.symm n g ex (H.set n (vecO rLoose 181 g 6 (P1 ++ (U ++ (M ++ (Y1 ++ S1)))).toArray ex)) (ob _)
  have ws:IntKind.wrap .i64 (((U.length+M.length:Nat):Int) - Y1.length)=M.length:=by rw [wrap64] <;> omega
  simp at hsw
  refine EC.of hsw (fun v H2 hR=>?_) (fun v H2 hR=>?_)
  rotate_left
  ·obtain ⟨⟨_,e⟩,_⟩:=hR;cases e
  obtain ⟨_,rfl⟩:=hR
  simp [ws]
  refine NX.go (P1 ++ Y1,M,U,S1) (by simp only [List.length_append];omega) ⟨by simp only [List.length_append];omega,by simp only [List.length_append];omega,by simp only;omega,by simp only;omega,by simp only [List.append_assoc];exact i5⟩ ?_
  have ws2:IntKind.wrap .i64 ((Y1.length:Int)+M.length - Y1.length)=M.length:=by rw [wrap64] <;> omega
  simp [nbs_only _ (hcap 0),GH.set_set,hU,ws2]
 ·obtain ⟨M,V,rfl,hV⟩:∃ M V,Y1=M ++ V/\V.length=X1.length:=⟨Y1.take (Y1.length - X1.length),Y1.drop (Y1.length - X1.length),(List.take_append_drop _ _).symm,by simp;omega⟩
  simp only [List.length_append,List.append_assoc] at *
  have hne:¬ X1.length=M.length+V.length:=fun e=>h (by omega)
  have hsw:=loose_swapRange F cap hcap P1 X1 M V S1 hV.symm N P1.length (P1.length+(X1.length+M.length)) X1.length (by simp only [List.length_append];omega) hsz rfl rfl rfl n g ex (H.set n (vecO rLoose 181 g 6 (P1 ++ (X1 ++ (M ++ (V ++ S1)))).toArray ex)) (ob _)
  have ws:IntKind.wrap .i64 (((M.length+V.length:Nat):Int) - X1.length)=M.length:=by rw [wrap64] <;> omega
  have w3:IntKind.wrap .i64 ((m:Int)+((M.length+V.length:Nat):Int))=(m:Int)+((M.length+V.length:Nat):Int):=by rw [wrap64] <;> omega
  have w4:IntKind.wrap .i64 ((m:Int)+((M.length+V.length:Nat):Int) - X1.length)=((P1.length+(X1.length+M.length):Nat):Int):=by rw [wrap64] <;> omega
  rw [w3,w4]
  simp only [lvI] at hsw
  refine EC.of hsw (fun v H2 hR=>?_) (fun v H2 hR=>?_)
  rotate_left
  ·obtain ⟨⟨_,e⟩,_⟩:=hR;cases e
  obtain ⟨_,rfl⟩:=hR
  simp [ws]
  refine NX.go (P1,V,M,X1 ++ S1) (by simp only [List.length_append];omega) ⟨by simp only;omega,by simp only [List.length_append];omega,by simp only;omega,by simp only;omega,i5⟩ ?_
  have ws2:IntKind.wrap .i64 (M.length:Int)=M.length:=by rw [wrap64] <;> omega
  simp [nbs_only _ (hcap 0),GH.set_set,hV,ws2]
 ·have hsw:=loose_swapRange F cap hcap P1 X1 [] Y1 S1 (by omega) N P1.length m X1.length (by simp;omega) hsz rfl (by simp;omega) rfl n g ex (H.set n (vecO rLoose 181 g 6 (P1 ++ (X1 ++ (Y1 ++ S1))).toArray ex)) (by simpa using ob _)
  simp at hsw
  refine EC.of hsw (fun v H2 hR=>?_) (fun v H2 hR=>?_)
  rotate_left
  ·obtain ⟨⟨_,e⟩,_⟩:=hR;cases e
  obtain ⟨_,rfl⟩:=hR
  rw [<- i5]
  simp [GH.set_set]
  exact fun hz=>hz.drop (by rw [GH.set_next];exact Nat.le_refl _)
end Go.Aft
end
section
set_option linter.unusedSectionVars false
set_option maxRecDepth 20000
namespace Go.Aft
open Go.Proofs.Tryz
open Go.Sort (swp insInner insOuter insertionSort SWO)
section
variable {α:Type} {lt:α->α->Bool}
theorem sorted_get {l:List α} (h:SortedL lt l) (hO:SWO lt) {i j:Nat} (hij:i<=j) (hj:j < l.length):lt l[j] (l[i]'(by omega))=false:=by
 rcases Nat.lt_or_eq_of_le hij with q | q
 ·exact List.pairwise_iff_getElem.1 h i j (by omega) hj q
 ·subst q;exact hO.irrefl _
theorem merge_one (hO:SWO lt) {x:α} {Y:List α} {i:Nat} (hY:SortedL lt Y) (h1:∀ c (h:c < Y.length),c < i->lt Y[c] x=true) (h2:∀ c (h:c < Y.length),i<=c->lt Y[c] x=false):mergeL lt [x] Y=Y.take i ++ x :: Y.drop i:=by
 have:=mergeL_split lt (X1:=[]) (Y1:=Y.take i) (X2:=[x]) (Y2:=Y.drop i) (by simp) (fun a ha y hy=>by
  rw [List.mem_singleton] at ha;subst ha
  obtain ⟨c,hc,rfl⟩:=List.mem_iff_getElem.1 hy
  rw [List.length_take] at hc
  rw [List.getElem_take]
  exact h1 c (by omega) (by omega))
 rw [List.nil_append,List.take_append_drop,mergeL_nil'] at this
 rw [this]
 have h3:=mergeL_split lt (X1:=[x]) (Y1:=[]) (X2:=[]) (Y2:=Y.drop i) (fun a ha y hy=>by
  rw [List.mem_singleton] at ha;subst ha
  obtain ⟨c,hc,rfl⟩:=List.mem_iff_getElem.1 hy
  rw [List.length_drop] at hc
  rw [List.getElem_drop]
  exact h2 (i+c) (by omega) (by omega)) (by simp)
 simp only [List.append_nil,List.nil_append,mergeL_nil,mergeL_nil'] at h3
 rw [h3];simp
theorem merge_last (hO:SWO lt) {y:α} {X:List α} {i:Nat} (hX:SortedL lt X) (h1:∀ c (h:c < X.length),c < i->lt y X[c]=false) (h2:∀ c (h:c < X.length),i<=c->lt y X[c]=true):mergeL lt X [y]=X.take i ++ y :: X.drop i:=by
 have:=mergeL_split lt (X1:=X.take i) (Y1:=[]) (X2:=X.drop i) (Y2:=[y]) (fun a ha b hb=>by
  rw [List.mem_singleton] at hb;subst hb
  obtain ⟨c,hc,rfl⟩:=List.mem_iff_getElem.1 ha
  rw [List.length_take] at hc
  rw [List.getElem_take]
  exact h1 c (by omega) (by omega)) (by simp)
 rw [List.nil_append,List.take_append_drop,mergeL_nil] at this
 rw [this]
 have h3:=mergeL_split lt (X1:=[]) (Y1:=[y]) (X2:=X.drop i) (Y2:=[]) (by simp) (fun a ha b hb=>by
  rw [List.mem_singleton] at hb;subst hb
  obtain ⟨c,hc,rfl⟩:=List.mem_iff_getElem.1 ha
  rw [List.length_drop] at hc
  rw [List.getElem_drop]
  exact h2 (i+c) (by omega) (by omega))
 simp only [List.append_nil,List.nil_append,mergeL_nil,mergeL_nil'] at h3
 rw [h3];simp
theorem merge_sym (hO:SWO lt) {X Y:List α} {h u:Nat} (hX:SortedL lt X) (hY:SortedL lt Y) (hh:h=(X.length+Y.length) / 2) (u0:h - Y.length<=u) (u1:u<=min X.length h)
  (h1:∀ v (hv:v < X.length) (hw:h - 1 - v < Y.length),h - Y.length<=v->v < u->lt Y[h - 1 - v] X[v]=false) (h2:∀ v (hv:v < X.length) (hw:h - 1 - v < Y.length),u<=v->v < min X.length h->lt Y[h - 1 - v] X[v]=true) :
  mergeL lt X Y=mergeL lt (X.take u) (Y.take (h - u)) ++ mergeL lt (X.drop u) (Y.drop (h - u)):=by
 have:=mergeL_split lt (X1:=X.take u) (Y1:=Y.take (h - u)) (X2:=X.drop u) (Y2:=Y.drop (h - u)) (fun a ha b hb=>by
  obtain ⟨c,hc,rfl⟩:=List.mem_iff_getElem.1 ha
  obtain ⟨e,he,rfl⟩:=List.mem_iff_getElem.1 hb
  rw [List.length_take] at hc
  rw [List.length_drop] at he
  rw [List.getElem_take,List.getElem_drop]
  have k:=h1 (u - 1) (by omega) (by omega) (by omega) (by omega)
  have k1:=sorted_get hX hO (i:=c) (j:=u - 1) (by omega) (by omega)
  have k2:=sorted_get hY hO (i:=h - 1 - (u - 1)) (j:=h - u+e) (by omega) (by omega)
  exact hO.ntrans _ _ _ (hO.ntrans _ _ _ k2 k) k1) (fun a ha b hb=>by
  obtain ⟨c,hc,rfl⟩:=List.mem_iff_getElem.1 ha
  obtain ⟨e,he,rfl⟩:=List.mem_iff_getElem.1 hb
  rw [List.length_drop] at hc
  rw [List.length_take] at he
  rw [List.getElem_drop,List.getElem_take]
  have k:=h2 u (by omega) (by omega) (Nat.le_refl _) (by omega)
  have k1:=sorted_get hX hO (i:=u) (j:=u+c) (by omega) (by omega)
  have k2:=sorted_get hY hO (i:=e) (j:=h - 1 - u) (by omega) (by omega)
  cases q:lt Y[e] X[u+c] with
  | true=>rfl
  | false =>
   have:=hO.ntrans _ _ _ (hO.ntrans _ _ _ k2 q) k1
   rw [this] at k;cases k)
 rw [List.take_append_drop,List.take_append_drop] at this
 exact this
theorem get_at [Inhabited α] (A B l:List α) {t:Nat} (h:t < l.length) {i:Nat} (hi:i=A.length+t):(A ++ (l ++ B)).toArray[i]! = l[t]:=by
 subst hi
 simp [List.getElem?_append_right,List.getElem?_append_left,h]
end
theorem mid_wrap {z:Int} {c:Nat} (h0:0<=z) (h1:z < 1000000) (hc:(c:Int)=z / 2):IntKind.wrap .i64 (IntKind.wrap .u64 (IntKind.wrap .i64 z) / 2)=c:=by
 have h2:IntKind.wrap .i64 z=z:=by rw [wrap64] <;> omega
 have h3:IntKind.wrap .u64 z=z:=by simp [IntKind.wrap,IntKind.bits,IntKind.signed];omega
 rw [h2,h3,wrap64] <;> omega
end Go.Aft
end
