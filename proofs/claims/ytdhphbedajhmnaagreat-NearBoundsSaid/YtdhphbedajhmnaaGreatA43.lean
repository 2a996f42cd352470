import Derived.Test.YtdhphbedajhmnaaGreatA42
set_option linter.all false
section
set_option maxRecDepth 20000
namespace Go.Aft
def SortedI (l : List Int) : Prop := l.Pairwise fun a b => a <= b
theorem Dom.shift : ∀ (S : List Int) (s : Int) (k : Nat), SortedI (s :: S) -> k <= S.length -> Dom ((s :: S).take k) (S.take k)
 | _, s, 0, _, _ => by simpa using Dom.refl []
 | [], s, k + 1, _, h => by simp at h
 | x :: S, s, k + 1, hs, h => by
  have hs' := List.pairwise_cons.1 hs
  rw [List.take_succ_cons, List.take_succ_cons]
  exact .cons (hs'.1 x (by simp)) (Dom.shift S x k hs'.2 (by simpa using h))
structure Step (F A F' A' E N A0 X0 : List Int) : Prop where
 a : A.Perm (E ++ A0)
 n : (N ++ A0).Perm (A' ++ X0)
 f : F'.Perm (F ++ X0)
 e1 : E.length <= 1
 n1 : N.length <= 1
def valI (F A : List Int) (w : Way) (great : Bool) (r : Int) : List Int :=
 F ++ (if great = true then A.drop (w.gone + w.turned) else A.take (A.length - (w.gone + w.turned))) ++ List.replicate (w.turned + w.more) r
def a4c (L : List Loose) : List Int := L.map fun x => x.ev.rec_.val
theorem valsM_eq (F : List Int) (L : List Loose) (w : Way) (great : Bool) (r : Int) : a2z F L w great r = valI F (a4c L) w great r := by
 unfold a2z valI keptM a4c
 split <;> simp [List.map_drop, List.map_take]
end Go.Aft
end
section
set_option maxRecDepth 20000
namespace Go.Aft
open Go.Sort (insertionSort)
theorem good_ver {n : News} {srcs : Int} (h : a3e n srcs = true) (h3 : n.do_ ≠ 3) : 1 <= n.ver /\ n.ver <= 99 := by
 by_cases d1 : n.do_ = 1
 ·simp [a3e, d1, saidB, inB] at h; omega
 ·by_cases d2 : n.do_ = 2
  ·simp [a3e, d2, saidB, inB] at h; omega
  ·simp [a3e, d1, d2, h3] at h
def vmap (l : List Event) : List Int := l.map fun e => e.rec_.val
theorem vmap_app (a b : List Event) : vmap (a ++ b) = vmap a ++ vmap b := by simp [vmap]
def fxP (l : List News) (sh : Shape) (window key : Int) (e : Event) : Bool := inWin sh window key e && !a3k l sh e
def lxP (l : List News) (sh : Shape) (window key : Int) (e : Event) : Bool := inWin sh window key e && a3k l sh e
theorem fixed_eq (l : List News) (sh : Shape) (window key : Int) (es : List Event) : a1g l sh window key es = vmap (es.filter (fxP l sh window key)) := rfl
theorem loose_perm (l : List News) (sh : Shape) (window key : Int) (es : List Event) : (a4c (sortL (a1q l sh window key es))).Perm (vmap (es.filter (lxP l sh window key))) := by
 unfold a4c
 refine ((Go.Aft.sortL_perm _).map _).trans ?_
 rw [a1q, List.map_map]
 exact List.Perm.refl _
theorem loose_sorted (L : List Loose) : SortedI (a4c (sortL L)) := by
 have h2 := (Go.Sort.insertionSort_holds cmpL_swo L.toArray 0 L.toArray.size (Nat.zero_le _) (Nat.le_refl _)).2
 have hl := sortL_len L
 unfold SortedI a4c
 rw [List.pairwise_map, List.pairwise_iff_getElem]
 intro i j hi hj hij
 have h3 := h2 i j (Nat.zero_le _) hij (by simp; omega)
 have hsz : (insertionSort (a0y cmpL) L.toArray 0 L.length).size = L.length := by
  have := (Go.Sort.insertionSort_holds cmpL_swo L.toArray 0 L.toArray.size (Nat.zero_le _) (Nat.le_refl _)).1.1
  simpa using this
 simp only [List.size_toArray] at h3
 rw [getElem!_pos _ i (by omega), getElem!_pos _ j (by omega)] at h3
 have g : ∀ k (hk : k < (sortL L).length), (sortL L)[k] = (insertionSort (a0y cmpL) L.toArray 0 L.length)[k]'(by omega) := fun k hk => by simp [sortL]
 rw [<- g i hi, <- g j hj] at h3
 have h4 : ¬ cmpL (sortL L)[j] (sortL L)[i] < 0 := by simpa [a0y] using h3
 unfold cmpL at h4
 omega
end Go.Aft
end
section
set_option maxRecDepth 20000
namespace Go.Aft
theorem sortedI_unique : ∀ {a b : List Int}, SortedI a -> SortedI b -> a.Perm b -> a = b
 | [], b, _, _, h => (List.nil_perm.1 h).symm
 | x :: a, [], _, _, h => by have := h.length_eq; simp at this
 | x :: a, y :: b, ha, hb, h => by
  have ha' := List.pairwise_cons.1 ha
  have hb' := List.pairwise_cons.1 hb
  have h1 : x <= y := by
   rcases List.mem_cons.1 (h.mem_iff.2 (List.mem_cons_self ..)) with q | q
   ·omega
   ·exact ha'.1 y q
  have h2 : y <= x := by
   rcases List.mem_cons.1 (h.mem_iff.1 (List.mem_cons_self ..)) with q | q
   ·omega
   ·exact hb'.1 x q
  have e : x = y := by omega
  subst e
  rw [sortedI_unique ha'.2 hb'.2 ((List.perm_cons x).1 h)]
end Go.Aft
end
