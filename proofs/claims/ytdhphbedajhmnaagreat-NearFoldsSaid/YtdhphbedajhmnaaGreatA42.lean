import Derived.Test.YtdhphbedajhmnaaGreatA40
import Derived.Test.YtdhphbedajhmnaaGreatA41
set_option linter.unusedVariables false
set_option linter.unusedSimpArgs false
set_option linter.deprecated false
section
set_option maxRecDepth 20000
namespace Go.Aft
theorem askE_zero {p : Prog} {d : Int} {l : List News} {room : Room} {window key : Int} (h : askE p d l room window key = 0) :
  askedB p d l room key = true /\ lookE (plainOf p (p.defs.getD d.toNat default).exp) l.length room window = 0 /\ ofM p d l room window key = (boundV p d.toNat l room window key, 0) := by
 rw [askE] at h
 split at h
 ·rename_i q
  exact ⟨q, h, by rw [ofM, if_pos q, if_pos h]⟩
 ·cases h
def bndM (l : List News) (sh : Shape) (room : Room) (window key : Int) : Bnd :=
 boundM (sceneM l sh room window key 0) (fixedM l sh window key (standsM l)) (sortL (looseM l sh window key (standsM l))) room.most.toNat
theorem boundV_eq (p : Prog) (d : Nat) (l : List News) (room : Room) (window key : Int) : boundV p d l room window key = (bndM l (plainOf p (p.defs.getD d default).exp).1 room window key).nb := rfl
theorem lessB_of {a b : NB} (h : (a.none = true -> b.none = true) /\ (a.some = true -> b.some = true /\ b.low <= a.low /\ a.high <= b.high)) : lessB a b = true := by
 obtain ⟨s1, n1, l1, h1⟩ := a
 obtain ⟨s2, n2, l2, h2⟩ := b
 simp only at h
 cases n1 <;> cases s1 <;> simp_all [lessB]
theorem way_room {P mn : Nat} {can : Bool} {w : Way} : w ∈ waysM P mn can ↔ w.gone + w.turned <= mn /\ w.gone + w.turned + w.more <= P /\ (can = true \/ w.turned + w.more = 0) := by
 rw [waysM_mem]
 constructor
 ·rintro (h | ⟨_, _, h⟩)
  ·exact h
  ·exact h.elim
 ·exact .inl
theorem canV_mono {sh : Shape} {r r' : Room} {window key m m' u : Int} (h1 : r'.low <= r.low) (h2 : r.high <= r'.high) (h3 : m' <= m) (h : canV sh r window key m u) : canV sh r' window key m' u := by
 obtain ⟨a, b, t, c, d, e⟩ := h
 exact ⟨Int.le_trans h1 a, Int.le_trans b h2, t, by have := maxI_ge (window - sh.n + 1) m; have := maxI_ge (window - sh.n + 1) m'; unfold maxI at *; split at * <;> split at * <;> omega, d, e⟩
theorem grows (l : List News) (sh : Shape) (a b : Room) (window key : Int) (h1 : a.most <= b.most) (h2 : b.low <= a.low) (h3 : a.high <= b.high) : lessB (bndM l sh a window key).nb (bndM l sh b window key).nb = true := by
 have sa := scene_spec l sh a window key 0
 have sb := scene_spec l sh b window key 0
 have ba := bound_spec (sceneM l sh a window key 0) (fixedM l sh window key (standsM l)) (sortL (looseM l sh window key (standsM l))) a.most.toNat
 have bb := bound_spec (sceneM l sh b window key 0) (fixedM l sh window key (standsM l)) (sortL (looseM l sh window key (standsM l))) b.most.toNat
 have hc : (sceneM l sh a window key 0).has = true -> (sceneM l sh b window key 0).has = true /\ (sceneM l sh b window key 0).low.val <= (sceneM l sh a window key 0).low.val /\ (sceneM l sh a window key 0).high.val <= (sceneM l sh b window key 0).high.val := fun q => by
  have c1 := sb.has _ (canV_mono h2 h3 (Int.le_refl _) (sa.low q).1)
  have c2 := sb.has _ (canV_mono h2 h3 (Int.le_refl _) (sa.high q).1)
  exact ⟨c1.1, c1.2.1, c2.2.2⟩
 rw [sa.sh] at ba
 rw [sb.sh] at bb
 unfold bndM
 generalize fixedM l sh window key (standsM l) = F at *
 generalize sortL (looseM l sh window key (standsM l)) = L at *
 have hw : ∀ w ∈ waysM a.most.toNat (min a.most.toNat L.length) (sceneM l sh a window key 0).has, w ∈ waysM b.most.toNat (min b.most.toNat L.length) (sceneM l sh b window key 0).has := fun w h => by
  rw [way_room] at h |-
  refine ⟨by omega, by omega, ?_⟩
  rcases h.2.2 with q | q
  ·exact .inl (hc q).1
  ·exact .inr q
 have hD : ∀ w ∈ waysM a.most.toNat (min a.most.toNat L.length) (sceneM l sh a window key 0).has, ∀ (g : Bool) (x y : Int), ((sceneM l sh a window key 0).has = true -> x <= y) -> Dom (valsM F L w g x) (valsM F L w g y) := fun w h g x y hxy => by
  rw [way_room] at h
  unfold valsM
  refine .left _ ?_
  rcases h.2.2 with q | q
  ·exact .rep _ (hxy q)
  ·rw [q]; exact .refl _
 have hlen : ∀ (P : Nat) (c : Bool), ∀ w ∈ waysM P (min P L.length) c, ∀ x y : Int, (valsM F L w false x).length = (valsM F L w true y).length := fun P c w h x y => by
  rw [way_room] at h
  rw [valsM_len (by omega), valsM_len (by omega)]
 exact lessB_of (less_of ba bb (fun w h => hlen _ _ w h _ _) (fun w h => ⟨w, hw w h, hD w h false _ _ fun q => (hc q).2.1⟩) (fun w h => ⟨w, hw w h, hD w h true _ _ fun q => (hc q).2.2⟩) (fun w h => hlen _ _ w h _ _))
def shD (p : Prog) (d : Int) : Shape := (plainOf p (p.defs.getD d.toNat default).exp).1
theorem askE_facts {p : Prog} {d : Int} {l : List News} {room : Room} {window key : Int} (h : askE p d l room window key = 0) :
  isDefM p d /\ (plainOf p (p.defs.getD d.toNat default).exp).2 = true /\ formedB l p.srcs.length = true /\ lateM l = [] /\ roomB room = true /\ l.length + room.most <= 60 /\
  plainV p d = .tup [lvI (shD p d).src, lvI (shD p d).n, lvI 0] /\ ofM p d l room window key = ((bndM l (shD p d) room window key).nb, 0) /\ inB window 0 200 = true /\ 1 <= (shD p d).n /\ (shD p d).n <= 50 := by
 obtain ⟨h1, h2, h3⟩ := askE_zero h
 simp only [askedB, Bool.and_eq_true, decide_eq_true_eq] at h1
 obtain ⟨⟨⟨⟨a1, a2⟩, a3⟩, a4⟩, a5⟩ := h1
 have hd : d.toNat < p.defs.length := by have := a1.2; omega
 have hgd : p.defs.getD d.toNat default = p.defs[d.toNat] := by simp [List.getD, List.getElem?_eq_getElem hd]
 have hq : (plainOf p (p.defs.getD d.toNat default).exp).2 = true := by
  unfold lookE at h2
  split at h2
  ·cases h2
  ·rename_i q
   cases hb : (plainOf p (p.defs.getD d.toNat default).exp).2 with
   | true => rfl
   | false => exact absurd hb q
 have hpl := formed_plain a1.1 hd (by rw [<- hgd]; exact hq)
 unfold lookE at h2
 rw [if_neg (by rw [hq]; simp)] at h2
 split at h2
 ·cases h2
 rename_i h2w
 split at h2
 ·cases h2
 ·rename_i q
  refine ⟨a1, hq, a2, a3, a4, by omega, ?_, by rw [h3, boundV_eq]; rfl, ?_, ?_⟩
  ·unfold plainV shD
   rw [dif_pos a1, hgd]
   rw [hgd] at hq
   generalize plainOf p p.defs[d.toNat].exp = z at hq |-
   obtain ⟨z1, z2⟩ := z
   simp only at hq; subst hq; rfl
  ·simp only [Bool.not_eq_false, Bool.and_eq_true] at h2w; exact h2w.1
  ·unfold shD; rw [hgd]; exact ⟨hpl.1, hpl.2.1⟩
theorem roomB_most {r : Room} (h : roomB r = true) : 0 <= r.most /\ r.most <= 6 := by
 simp [roomB, inB] at h; exact h.1.1.1
end Go.Aft
end
section
set_option maxRecDepth 20000
namespace Go.Aft
def SortedI (l : List Int) : Prop := l.Pairwise fun a b => a <= b
theorem Dom.shift : ∀ (S : List Int) (s : Int) (k : Nat), SortedI (s :: S) -> k <= S.length -> Dom ((s :: S).take k) (S.take k)
 | _, s, 0, _, _ => by simpa using Dom.refl []
 | [], s, k + 1, _, h => by simp at h
 | x :: S, s, k + 1, hs, h => by
  have hs' := List.pairwise_cons.1 hs
  rw [List.take_succ_cons, List.take_succ_cons]
  exact .cons (hs'.1 x (by simp)) (Dom.shift S x k hs'.2 (by simpa using h))
theorem Dom.take_low : ∀ (S T X : List Int), SortedI S -> S.Perm (T ++ X) -> Dom (S.take T.length) T
 | [], T, X, _, h => by
  have := h.length_eq
  have : T = [] := List.eq_nil_of_length_eq_zero (by simp at this; omega)
  subst this; exact .refl _
 | s :: S, T, X, hs, h => by
  have hs' := (List.pairwise_cons.1 hs).2
  by_cases ht : s ∈ T
  ·have h1 := List.perm_cons_erase ht
   have h2 : S.Perm (T.erase s ++ X) := (List.perm_cons s).1 (h.trans (h1.append_right X))
   have ih := Dom.take_low S (T.erase s) X hs' h2
   have hl := h1.length_eq
   rw [hl, List.length_cons, List.take_succ_cons]
   exact .trans (.cons (Int.le_refl s) ih) (.perm h1.symm)
  ·have hx : s ∈ X := by
    have : s ∈ T ++ X := h.mem_iff.1 (by simp)
    rcases List.mem_append.1 this with q | q
    ·exact absurd q ht
    ·exact q
   have h1 := List.perm_cons_erase hx
   have h2 : S.Perm (T ++ X.erase s) := (List.perm_cons s).1 (h.trans ((h1.append_left T).trans List.perm_middle))
   have ih := Dom.take_low S T (X.erase s) hs' h2
   have hl := h2.length_eq
   refine .trans (Dom.shift S s T.length hs (by rw [hl]; simp)) ih
theorem Dom.drop_high : ∀ (S T X : List Int), SortedI S -> S.Perm (T ++ X) -> Dom T (S.drop X.length)
 | [], T, X, _, h => by
  have := h.length_eq
  have : T = [] := List.eq_nil_of_length_eq_zero (by simp at this; omega)
  subst this; simpa using Dom.refl []
 | s :: S, T, X, hs, h => by
  have hs' := List.pairwise_cons.1 hs
  by_cases hx : s ∈ X
  ·have h1 := List.perm_cons_erase hx
   have h2 : S.Perm (T ++ X.erase s) := (List.perm_cons s).1 (h.trans ((h1.append_left T).trans List.perm_middle))
   have ih := Dom.drop_high S T (X.erase s) hs'.2 h2
   rw [h1.length_eq, List.length_cons, List.drop_succ_cons]
   exact ih
  ·have ht : s ∈ T := by
    have : s ∈ T ++ X := h.mem_iff.1 (by simp)
    rcases List.mem_append.1 this with q | q
    ·exact q
    ·exact absurd q hx
   have h1 := List.perm_cons_erase ht
   have h2 : S.Perm (T.erase s ++ X) := (List.perm_cons s).1 (h.trans (h1.append_right X))
   have ih := Dom.drop_high S (T.erase s) X hs'.2 h2
   refine .trans (.perm h1) ?_
   cases hn : X.length with
   | zero =>
    rw [hn] at ih
    exact .cons (Int.le_refl s) ih
   | succ n =>
    rw [hn] at ih
    have hlt : n < S.length := by have := h2.length_eq; simp at this; omega
    rw [List.drop_succ_cons, List.drop_eq_getElem_cons hlt]
    exact .cons (hs'.1 _ (List.getElem_mem hlt)) ih
theorem Dom.rep_low (V : List Int) (a : Int) (h : ∀ v ∈ V, a <= v) : Dom (List.replicate V.length a) V := by
 induction V with
 | nil => exact .refl _
 | cons v V ih => exact .cons (h v (by simp)) (ih fun x hx => h x (by simp [hx]))
theorem Dom.rep_high (V : List Int) (a : Int) (h : ∀ v ∈ V, v <= a) : Dom V (List.replicate V.length a) := by
 induction V with
 | nil => exact .refl _
 | cons v V ih => exact .cons (h v (by simp)) (ih fun x hx => h x (by simp [hx]))
structure Step (F A F' A' E N A0 X0 : List Int) : Prop where
 a : A.Perm (E ++ A0)
 n : (N ++ A0).Perm (A' ++ X0)
 f : F'.Perm (F ++ X0)
 e1 : E.length <= 1
 n1 : N.length <= 1
theorem perm_of {A B : List Int} (h : ∀ a, A.count a = B.count a) : A.Perm B := List.perm_iff_count.2 h
theorem step_way {F A F' A' E N A0 X0 K X : List Int} (h : Step F A F' A' E N A0 X0) {P P' : Nat} {can can' : Bool} (hE : P' + E.length <= P) (hN : P' + N.length <= P) (hc : can' = true -> can = true) (hNc : N ≠ [] -> can = true)
  {w' : Way} (hw : w'.gone + w'.turned + w'.more <= P' /\ (can' = true \/ w'.turned + w'.more = 0)) (hK : A'.Perm (K ++ X)) (hX : X.length = w'.gone + w'.turned) :
  ∃ w : Way, w ∈ waysM P (min P A.length) can /\ ∃ K0 Y V : List Int, A.Perm (K0 ++ Y) /\ Y.length = w.gone + w.turned /\ (F' ++ K).Perm ((F ++ K0) ++ V) /\ (∀ v ∈ V, v ∈ N) /\ w.turned + w.more = w'.turned + w'.more + V.length := by
 obtain ⟨g', t', m'⟩ := w'
 simp only at hw hX
 have ca := fun x => h.a.count_eq x
 have cn := fun x => h.n.count_eq x
 have cf := fun x => h.f.count_eq x
 have ck := fun x => hK.count_eq x
 simp only [List.count_append] at ca cn cf ck
 have la := h.a.length_eq
 have ln := h.n.length_eq
 have lk := hK.length_eq
 simp only [List.length_append] at la ln lk
 have e1 := h.e1
 have n1 := h.n1
 have hcan : can' = true \/ t' + m' = 0 -> can = true \/ t' + m' = 0 := fun q => q.imp hc id
 match hNe : N, n1 with
 | [], _ =>
  simp only [List.count_nil, List.length_nil] at cn ln
  refine ⟨⟨g' + E.length, t', m'⟩, way_room.2 ⟨by simp only; omega, by simp only; omega, hcan hw.2⟩, K ++ X0, E ++ X, [], perm_of fun x => ?_, by simp; omega, perm_of fun x => ?_, by simp, by simp⟩
  ·have := ca x; have := cn x; have := ck x; simp only [List.count_append]; omega
  ·have := cf x; simp only [List.count_append, List.count_nil]; omega
 | [v], _ =>
  have hcv : can = true := hNc (by simp)
  have hv : v ∈ (K ++ X0) ++ X := by
   have h1 : v ∈ A' ++ X0 := h.n.mem_iff.1 (by simp)
   rcases List.mem_append.1 h1 with q | q
   ·rcases List.mem_append.1 (hK.mem_iff.1 q) with q | q
    ·simp [q]
    ·simp [q]
   ·simp [q]
  simp only [List.length_singleton] at ln hN
  rcases List.mem_append.1 hv with q | q
  ·have h1 := List.perm_cons_erase q
   have c1 := fun x => h1.count_eq x
   have l1 := h1.length_eq
   simp only [List.length_append, List.length_cons] at l1
   have c1' : ∀ x, List.count x K + List.count x X0 = List.count x [v] + List.count x ((K ++ X0).erase v) := fun x => by
    have := c1 x
    rw [show v :: (K ++ X0).erase v = [v] ++ (K ++ X0).erase v from rfl, List.count_append, List.count_append] at this
    omega
   have pe : A.Perm ((K ++ X0).erase v ++ (E ++ X)) := perm_of fun x => by
    have := ca x; have := cn x; have := ck x; have := c1' x; simp only [List.count_append]; omega
   have pf : (F' ++ K).Perm ((F ++ (K ++ X0).erase v) ++ [v]) := perm_of fun x => by
    have := cf x; have := c1' x; simp only [List.count_append]; omega
   match hEe : E, e1 with
   | [], _ =>
    simp only [List.length_nil] at la
    exact ⟨⟨g', t', m' + 1⟩, way_room.2 ⟨by simp only; omega, by simp only; omega, .inl hcv⟩, _, X, [v], by simpa using pe, by simp; omega, pf, by simp, by simp; omega⟩
   | [e], _ =>
    simp only [List.length_singleton] at la
    exact ⟨⟨g', t' + 1, m'⟩, way_room.2 ⟨by simp only; omega, by simp only; omega, .inl hcv⟩, _, [e] ++ X, [v], pe, by simp; omega, pf, by simp, by simp; omega⟩
  ·have h1 := List.perm_cons_erase q
   have c1 := fun x => h1.count_eq x
   have l1 := h1.length_eq
   simp only [List.length_cons] at l1
   have c1' : ∀ x, List.count x X = List.count x [v] + List.count x (X.erase v) := fun x => by
    have := c1 x
    rw [show v :: X.erase v = [v] ++ X.erase v from rfl, List.count_append] at this
    omega
   have pe : A.Perm ((K ++ X0) ++ (E ++ X.erase v)) := perm_of fun x => by
    have := ca x; have := cn x; have := ck x; have := c1' x; simp only [List.count_append]; omega
   have pf : (F' ++ K).Perm ((F ++ (K ++ X0)) ++ []) := perm_of fun x => by
    have := cf x; simp only [List.count_append, List.count_nil]; omega
   match hEe : E, e1 with
   | [], _ =>
    simp only [List.length_nil] at la
    cases g' with
    | succ g =>
     exact ⟨⟨g, t', m'⟩, way_room.2 ⟨by simp only; omega, by simp only; omega, .inl hcv⟩, _, X.erase v, [], by simpa using pe, by simp only; omega, pf, by simp, by simp⟩
    | zero =>
     cases t' with
     | zero => omega
     | succ t => exact ⟨⟨0, t, m' + 1⟩, way_room.2 ⟨by simp only; omega, by simp only; omega, .inl hcv⟩, _, X.erase v, [], by simpa using pe, by simp only; omega, pf, by simp, by simp; omega⟩
   | [e], _ =>
    simp only [List.length_singleton] at la
    exact ⟨⟨g', t', m'⟩, way_room.2 ⟨by simp only; omega, by simp only; omega, .inl hcv⟩, _, [e] ++ X.erase v, [], pe, by simp; omega, pf, by simp, by simp⟩
def valI (F A : List Int) (w : Way) (great : Bool) (r : Int) : List Int :=
 F ++ (if great = true then A.drop (w.gone + w.turned) else A.take (A.length - (w.gone + w.turned))) ++ List.replicate (w.turned + w.more) r
def valsL (L : List Loose) : List Int := L.map fun x => x.ev.rec_.val
theorem valsM_eq (F : List Int) (L : List Loose) (w : Way) (great : Bool) (r : Int) : valsM F L w great r = valI F (valsL L) w great r := by
 unfold valsM valI keptM valsL
 split <;> simp [List.map_drop, List.map_take]
theorem step_low {F A F' A' E N A0 X0 : List Int} (h : Step F A F' A' E N A0 X0) (hA : SortedI A) {P P' : Nat} {can can' : Bool} {lo lo' : Int} (hE : P' + E.length <= P) (hN : P' + N.length <= P) (hc : can' = true -> can = true /\ lo <= lo') (hNc : ∀ v ∈ N, can = true /\ lo <= v)
  {w' : Way} (hw : w' ∈ waysM P' (min P' A'.length) can') : ∃ w ∈ waysM P (min P A.length) can, Dom (valI F A w false lo) (valI F' A' w' false lo') := by
 rw [way_room] at hw
 obtain ⟨w, h1, K0, Y, V, h2, h3, h4, h5, h6⟩ := step_way h hE hN (fun q => (hc q).1) (fun q => by
  obtain ⟨v, hv⟩ := List.exists_mem_of_ne_nil _ q; exact (hNc v hv).1) ⟨hw.2.1, hw.2.2⟩ (K := A'.take (A'.length - (w'.gone + w'.turned))) (X := A'.drop (A'.length - (w'.gone + w'.turned))) (by rw [List.take_append_drop]) (by simp; omega)
 refine ⟨w, h1, ?_⟩
 have hl : A.length - (w.gone + w.turned) = K0.length := by have := h2.length_eq; rw [List.length_append] at this; omega
 have d1 : Dom (A.take K0.length) K0 := .take_low A K0 Y hA h2
 have d2 : Dom (List.replicate (w.turned + w.more) lo) (V ++ List.replicate (w'.turned + w'.more) lo') := by
  rw [h6, Nat.add_comm, <- List.replicate_append_replicate (n := V.length)]
  refine .append (.rep_low V lo fun v hv => (hNc v (h5 v hv)).2) ?_
  rcases hw.2.2 with q | q
  ·exact .rep _ (hc q).2
  ·rw [q]; exact .refl _
 unfold valI
 simp only [Bool.false_eq_true, if_false, hl]
 refine .trans (.append (.append (.refl F) d1) d2) (.perm ?_)
 rw [<- List.append_assoc]
 exact h4.symm.append_right _
theorem step_high {F A F' A' E N A0 X0 : List Int} (h : Step F A F' A' E N A0 X0) (hA : SortedI A) {P P' : Nat} {can can' : Bool} {hi hi' : Int} (hE : P' + E.length <= P) (hN : P' + N.length <= P) (hc : can' = true -> can = true /\ hi' <= hi) (hNc : ∀ v ∈ N, can = true /\ v <= hi)
  {w' : Way} (hw : w' ∈ waysM P' (min P' A'.length) can') : ∃ w ∈ waysM P (min P A.length) can, Dom (valI F' A' w' true hi') (valI F A w true hi) := by
 rw [way_room] at hw
 obtain ⟨w, h1, K0, Y, V, h2, h3, h4, h5, h6⟩ := step_way h hE hN (fun q => (hc q).1) (fun q => by
  obtain ⟨v, hv⟩ := List.exists_mem_of_ne_nil _ q; exact (hNc v hv).1) ⟨hw.2.1, hw.2.2⟩ (K := A'.drop (w'.gone + w'.turned)) (X := A'.take (w'.gone + w'.turned)) (by
   refine List.Perm.trans ?_ List.perm_append_comm; rw [List.take_append_drop]) (by simp; omega)
 refine ⟨w, h1, ?_⟩
 have d1 : Dom K0 (A.drop (w.gone + w.turned)) := by rw [<- h3]; exact .drop_high A K0 Y hA h2
 have d2 : Dom (V ++ List.replicate (w'.turned + w'.more) hi') (List.replicate (w.turned + w.more) hi) := by
  rw [h6, Nat.add_comm (w'.turned + w'.more), <- List.replicate_append_replicate (n := V.length)]
  refine .append (.rep_high V hi fun v hv => (hNc v (h5 v hv)).2) ?_
  rcases hw.2.2 with q | q
  ·exact .rep _ (hc q).2
  ·rw [q]; exact .refl _
 unfold valI
 simp only [if_true]
 refine .trans (.perm ?_) (.append (.append (.refl F) d1) d2)
 rw [<- List.append_assoc]
 exact h4.append_right _
end Go.Aft
end
section
set_option maxRecDepth 20000
namespace Go.Aft
open Go.Sort (insertionSort)
theorem good_ver {n : News} {srcs : Int} (h : goodB n srcs = true) (h3 : n.do_ ≠ 3) : 1 <= n.ver /\ n.ver <= 99 := by
 by_cases d1 : n.do_ = 1
 ·simp [goodB, d1, saidB, inB] at h; omega
 ·by_cases d2 : n.do_ = 2
  ·simp [goodB, d2, saidB, inB] at h; omega
  ·simp [goodB, d1, d2, h3] at h
theorem lastM_ver {srcs : Int} (s i : Int) : ∀ l : List News, (∀ n ∈ l, goodB n srcs = true) -> match lastM l s i with | none => verM l s i = 0 | some w => verM l s i = w.ver := by
 refine snoc_ind ?_ fun l n ih => ?_
 ·intro _; simp [lastM, verM]
 ·intro hg
  have ih := ih fun m hm => hg m (by simp [hm])
  have hn := hg n (by simp)
  rw [lastM_snoc, verM_snoc, hearL, verStep]
  by_cases hk : n.do_ ≠ 3 /\ n.src = s /\ n.id = i
  ·have hv := good_ver hn hk.1
   rw [if_pos hk]
   cases hl : lastM l s i with
   | none =>
    rw [hl] at ih
    rw [if_pos ⟨hk.1, hk.2.1, hk.2.2, fun w q => by cases q⟩]
    simp only at ih |-
    rw [ih]; unfold maxI; split <;> omega
   | some w =>
    rw [hl] at ih
    simp only at ih
    by_cases q : w.ver < n.ver
    ·rw [if_pos ⟨hk.1, hk.2.1, hk.2.2, fun w' q' => by cases q'; exact q⟩]
     simp only
     rw [ih]; unfold maxI; split <;> omega
    ·rw [if_neg (fun q' => q (q'.2.2.2 w rfl))]
     simp only
     rw [ih]; unfold maxI; split <;> omega
  ·rw [if_neg hk, if_neg (fun q => hk ⟨q.1, q.2.1, q.2.2.1⟩)]
   exact ih
theorem verM_le (l : List News) (n : News) (s i : Int) : verM l s i <= verM (l ++ [n]) s i := by
 rw [verM_snoc, verStep]
 split
 ·exact (maxI_ge _ _).1
 ·exact Int.le_refl _
theorem markM_le (l : List News) (n : News) (s : Int) : markM l s <= markM (l ++ [n]) s := by
 rw [markM_snoc, hearM]
 split
 ·exact (maxI_ge _ _).1
 ·exact Int.le_refl _
theorem markM_keep {l : List News} {n : News} {s : Int} (h : n.do_ ≠ 3) : markM (l ++ [n]) s = markM l s := by
 rw [markM_snoc, hearM, if_neg (fun q => h q.1)]
theorem lastM_other {l : List News} {n : News} {s i : Int} (h : ¬ (n.src = s /\ n.id = i)) : lastM (l ++ [n]) s i = lastM l s i := by
 rw [lastM_snoc, hearL, if_neg (fun q => h ⟨q.2.1, q.2.2.1⟩)]
theorem verM_other {l : List News} {n : News} {s i : Int} (h : ¬ (n.src = s /\ n.id = i)) : verM (l ++ [n]) s i = verM l s i := by
 rw [verM_snoc, verStep, if_neg (fun q => h q.2)]
theorem oneM_other {l : List News} {n : News} {s i : Int} (h : ¬ (n.src = s /\ n.id = i)) : oneM (l ++ [n]) s i = oneM l s i := by
 unfold oneM; rw [lastM_other h]
theorem stands_same {l l' : List News} (h : ∀ s i, oneM l' s i = oneM l s i) : standsM l' = standsM l :=
 standsM_eq (standsM_sorted l') fun e => by rw [standsM_mem, h]
theorem stands_nodup (l : List News) : (standsM l).Nodup := (standsM_sorted l).imp fun {a b} q e => by subst e; exact evLt_irr a q
theorem oneM_nodup (l : List News) (s i : Int) : (oneM l s i).Nodup := by
 have := oneM_len' l s i
 match oneM l s i, this with
 | [], _ => simp
 | [x], _ => simp
def notK (s i : Int) (e : Event) : Bool := !decide (e.src = s /\ e.id = i)
theorem stands_split (l : List News) (s i : Int) : (standsM l).Perm (oneM l s i ++ (standsM l).filter (notK s i)) := by
 refine (List.perm_ext_iff_of_nodup (stands_nodup l) ?_).2 fun e => ?_
 ·rw [List.nodup_append]
  refine ⟨oneM_nodup l s i, (stands_nodup l).filter _, fun a ha b hb => ?_⟩
  rw [List.mem_filter] at hb
  intro e; subst e
  have := oneM_mem ha
  simp [notK, this] at hb
 ·rw [List.mem_append, List.mem_filter]
  by_cases hk : e.src = s /\ e.id = i
  ·rw [standsM_mem, hk.1, hk.2]
   simp [notK, hk]
  ·constructor
   ·exact fun q => .inr ⟨q, by simp only [notK, Bool.not_eq_true', decide_eq_false_iff_not]; exact hk⟩
   ·rintro (q | q)
    ·exact absurd (oneM_mem q) hk
    ·exact q.1
theorem rest_same {l : List News} {n : News} : (standsM (l ++ [n])).filter (notK n.src n.id) = (standsM l).filter (notK n.src n.id) := by
 refine sorted_unique evLt_irr (fun _ _ _ => evLt_trans) ((standsM_sorted _).filter _) ((standsM_sorted _).filter _) fun e => ?_
 rw [List.mem_filter, List.mem_filter]
 by_cases hk : e.src = n.src /\ e.id = n.id
 ·simp [notK, hk]
 ·rw [standsM_mem, standsM_mem, oneM_other (fun q => hk ⟨q.1.symm, q.2.symm⟩)]
def vmap (l : List Event) : List Int := l.map fun e => e.rec_.val
theorem filter_split {p p1 p2 : Event -> Bool} : ∀ {es : List Event}, (∀ e ∈ es, p e = (p1 e || p2 e) /\ ¬ (p1 e = true /\ p2 e = true)) -> (vmap (es.filter p)).Perm (vmap (es.filter p1) ++ vmap (es.filter p2))
 | [], _ => by simp [vmap]
 | e :: es, h => by
  have ih := filter_split (es := es) fun x hx => h x (by simp [hx])
  obtain ⟨h1, h2⟩ := h e (by simp)
  cases a : p1 e with
  | true =>
   have b : p2 e = false := by
    cases b : p2 e with
    | false => rfl
    | true => exact absurd ⟨a, b⟩ h2
   rw [List.filter_cons_of_pos (by rw [h1, a]; rfl), List.filter_cons_of_pos a, List.filter_cons_of_neg (by simp [b])]
   exact ih.cons _
  | false =>
   cases b : p2 e with
   | true =>
    rw [List.filter_cons_of_pos (by rw [h1, b]; simp), List.filter_cons_of_neg (by simp [a]), List.filter_cons_of_pos b]
    exact (ih.cons _).trans List.perm_middle.symm
   | false =>
    rw [List.filter_cons_of_neg (by rw [h1, a, b]; simp), List.filter_cons_of_neg (by simp [a]), List.filter_cons_of_neg (by simp [b])]
    exact ih
theorem vmap_perm {a b : List Event} (h : a.Perm b) : (vmap a).Perm (vmap b) := h.map _
theorem vmap_app (a b : List Event) : vmap (a ++ b) = vmap a ++ vmap b := by simp [vmap]
def fxP (l : List News) (sh : Shape) (window key : Int) (e : Event) : Bool := inWin sh window key e && !isLoose l sh e
def lxP (l : List News) (sh : Shape) (window key : Int) (e : Event) : Bool := inWin sh window key e && isLoose l sh e
theorem fixed_eq (l : List News) (sh : Shape) (window key : Int) (es : List Event) : fixedM l sh window key es = vmap (es.filter (fxP l sh window key)) := rfl
theorem loose_perm (l : List News) (sh : Shape) (window key : Int) (es : List Event) : (valsL (sortL (looseM l sh window key es))).Perm (vmap (es.filter (lxP l sh window key))) := by
 unfold valsL
 refine ((Go.Aft.sortL_perm _).map _).trans ?_
 rw [looseM, List.map_map]
 exact List.Perm.refl _
theorem loose_sorted (L : List Loose) : SortedI (valsL (sortL L)) := by
 have h2 := (Go.Sort.insertionSort_holds cmpL_swo L.toArray 0 L.toArray.size (Nat.zero_le _) (Nat.le_refl _)).2
 have hl := sortL_len L
 unfold SortedI valsL
 rw [List.pairwise_map, List.pairwise_iff_getElem]
 intro i j hi hj hij
 have h3 := h2 i j (Nat.zero_le _) hij (by simp; omega)
 have hsz : (insertionSort (ltOf' cmpL) L.toArray 0 L.length).size = L.length := by
  have := (Go.Sort.insertionSort_holds cmpL_swo L.toArray 0 L.toArray.size (Nat.zero_le _) (Nat.le_refl _)).1.1
  simpa using this
 simp only [List.size_toArray] at h3
 rw [getElem!_pos _ i (by omega), getElem!_pos _ j (by omega)] at h3
 have g : ∀ k (hk : k < (sortL L).length), (sortL L)[k] = (insertionSort (ltOf' cmpL) L.toArray 0 L.length)[k]'(by omega) := fun k hk => by simp [sortL]
 rw [<- g i hi, <- g j hj] at h3
 have h4 : ¬ cmpL (sortL L)[j] (sortL L)[i] < 0 := by simpa [ltOf'] using h3
 unfold cmpL at h4
 omega
theorem heard_step {l : List News} {n : News} {srcs : Int} {sh : Shape} {room : Room} {window key : Int} (hk : keptB (l ++ [n]) srcs = true) (ho : lateOne sh.src room n = true) :
  ∃ E N A0 X0, Step (fixedM l sh window key (standsM l)) (valsL (sortL (looseM l sh window key (standsM l)))) (fixedM (l ++ [n]) sh window key (standsM (l ++ [n]))) (valsL (sortL (looseM (l ++ [n]) sh window key (standsM (l ++ [n]))))) E N A0 X0 /\
   (n.do_ = 3 -> E = [] /\ N = []) /\ ∀ v ∈ N, canV sh room window key (markM l sh.src) v := by
 rw [keptB] at hk
 simp only [Bool.and_eq_true, decide_eq_true_eq] at hk
 have hg := formed_good hk.1
 have hgl : ∀ m ∈ l, goodB m srcs = true := fun m hm => hg m (by simp [hm])
 have hgn := hg n (by simp)
 have hlate : lateAt l n = false := by
  have h2 := hk.2
  rw [lateM, lateFrom_snoc l] at h2
  cases q : lateAt l n with
  | false => rfl
  | true => simp [q] at h2
 have hsrc : n.src = sh.src := by simp [lateOne] at ho; exact ho.1
 have p1 := loose_perm l sh window key (standsM l)
 have p2 := loose_perm (l ++ [n]) sh window key (standsM (l ++ [n]))
 rw [fixed_eq, fixed_eq]
 have hmono : ∀ e, isLoose (l ++ [n]) sh e = true -> isLoose l sh e = true := fun e q => by
  simp only [isLoose, decide_eq_true_eq] at q |-
  have := markM_le l n sh.src
  have := verM_le l n sh.src e.id
  omega
 by_cases hA : ∀ s i, oneM (l ++ [n]) s i = oneM l s i
 ·rw [stands_same hA] at p2 |-
  have q1 : (vmap ((standsM l).filter (lxP l sh window key))).Perm (vmap ((standsM l).filter (lxP (l ++ [n]) sh window key)) ++ vmap ((standsM l).filter fun e => lxP l sh window key e && !isLoose (l ++ [n]) sh e)) := filter_split fun e _ => by
   have := hmono e
   simp only [lxP]
   revert this
   cases inWin sh window key e <;> cases isLoose l sh e <;> cases isLoose (l ++ [n]) sh e <;> simp
  have q2 : (vmap ((standsM l).filter (fxP (l ++ [n]) sh window key))).Perm (vmap ((standsM l).filter (fxP l sh window key)) ++ vmap ((standsM l).filter fun e => lxP l sh window key e && !isLoose (l ++ [n]) sh e)) := filter_split fun e _ => by
   have := hmono e
   simp only [lxP, fxP]
   revert this
   cases inWin sh window key e <;> cases isLoose l sh e <;> cases isLoose (l ++ [n]) sh e <;> simp
  exact ⟨[], [], _, _, ⟨List.Perm.refl _, (p1.trans q1).trans (p2.symm.append_right _), q2, by simp, by simp⟩, fun _ => ⟨rfl, rfl⟩, by simp⟩
 ·have h3 : n.do_ ≠ 3 := fun q => hA fun s i => by
   unfold oneM
   rw [lastM_snoc, hearL, if_neg (fun q' => q'.1 q)]
  have hB : oneM (l ++ [n]) n.src n.id ≠ oneM l n.src n.id := fun q => hA fun s i => by
   by_cases e : n.src = s /\ n.id = i
   ·rw [<- e.1, <- e.2]; exact q
   ·exact oneM_other e
  have hlast : lastM (l ++ [n]) n.src n.id = some n := by
   rw [lastM_snoc, hearL]
   split
   ·rfl
   ·rename_i q
    exfalso; apply hB
    unfold oneM; rw [lastM_snoc, hearL, if_neg q]
  have hver : verM l sh.src n.id < 99 := by
   have hv := lastM_ver n.src n.id l hgl
   have hn := good_ver hgn h3
   rw [lastM_snoc, hearL] at hlast
   rw [<- hsrc]
   split at hlast
   ·rename_i q
    cases hl : lastM l n.src n.id with
    | none => rw [hl] at hv; simp only at hv; omega
    | some w =>
     rw [hl] at hv
     simp only at hv
     have := q.2.2.2 w hl
     omega
   ·rename_i q
    exfalso; apply hB
    unfold oneM; rw [lastM_snoc, hearL, if_neg q]
  have hmk : markM (l ++ [n]) sh.src = markM l sh.src := markM_keep h3
  have hat : ∀ e, e ∈ oneM l n.src n.id \/ e ∈ oneM (l ++ [n]) n.src n.id -> markM l sh.src <= e.rec_.at_ := fun e he => by
   rw [lateAt, stepM, if_neg h3, if_neg (fun q => hB q.symm), List.any_eq_false] at hlate
   have := hlate e (List.mem_append.2 he)
   rw [hsrc] at this
   simpa using this
  have hl1 : ∀ e ∈ oneM l n.src n.id, isLoose l sh e = true := fun e he => by
   have := oneM_mem he
   simp only [isLoose, decide_eq_true_eq]
   exact ⟨hat e (.inl he), by rw [this.2]; exact hver⟩
  have hlR : ∀ e ∈ (standsM l).filter (notK n.src n.id), isLoose (l ++ [n]) sh e = isLoose l sh e \/ inWin sh window key e = false := fun e he => by
   rw [List.mem_filter] at he
   by_cases hs : e.src = sh.src
   ·left
    have hne : ¬ (n.src = sh.src /\ n.id = e.id) := fun q => by
     have := he.2
     simp [notK, hs, hsrc, q.2] at this
    simp only [isLoose, hmk, verM_other hne]
   ·right; simp [inWin, hs]
  have s1 := stands_split l n.src n.id
  have s2 := stands_split (l ++ [n]) n.src n.id
  rw [rest_same] at s2
  generalize hR : (standsM l).filter (notK n.src n.id) = R at *
  have c1 : ∀ p : Event -> Bool, (vmap ((standsM l).filter p)).Perm (vmap ((oneM l n.src n.id).filter p) ++ vmap (R.filter p)) := fun p => by
   have := vmap_perm (s1.filter p)
   rwa [List.filter_append, vmap_app] at this
  have c2 : ∀ p : Event -> Bool, (vmap ((standsM (l ++ [n])).filter p)).Perm (vmap ((oneM (l ++ [n]) n.src n.id).filter p) ++ vmap (R.filter p)) := fun p => by
   have := vmap_perm (s2.filter p)
   rwa [List.filter_append, vmap_app] at this
  have r1 : R.filter (lxP (l ++ [n]) sh window key) = R.filter (lxP l sh window key) := List.filter_congr fun e he => by
   simp only [lxP]; rcases hlR e he with q | q <;> simp [q]
  have r2 : R.filter (fxP (l ++ [n]) sh window key) = R.filter (fxP l sh window key) := List.filter_congr fun e he => by
   simp only [fxP]; rcases hlR e he with q | q <;> simp [q]
  have o1 : (oneM l n.src n.id).filter (fxP l sh window key) = [] := by
   rw [List.filter_eq_nil_iff]
   intro e he
   simp [fxP, hl1 e he]
  have o2 : (vmap ((oneM (l ++ [n]) n.src n.id).filter (inWin sh window key))).Perm (vmap ((oneM (l ++ [n]) n.src n.id).filter (lxP (l ++ [n]) sh window key)) ++ vmap ((oneM (l ++ [n]) n.src n.id).filter (fxP (l ++ [n]) sh window key))) := filter_split fun e _ => by
   simp only [lxP, fxP]
   cases inWin sh window key e <;> cases isLoose (l ++ [n]) sh e <;> simp
  have k1 := c1 (lxP l sh window key)
  have k2 := c1 (fxP l sh window key)
  have k3 := c2 (lxP (l ++ [n]) sh window key)
  have k4 := c2 (fxP (l ++ [n]) sh window key)
  rw [o1] at k2
  rw [r1] at k3
  rw [r2] at k4
  refine ⟨vmap ((oneM l n.src n.id).filter (lxP l sh window key)), vmap ((oneM (l ++ [n]) n.src n.id).filter (inWin sh window key)), vmap (R.filter (lxP l sh window key)), vmap ((oneM (l ++ [n]) n.src n.id).filter (fxP (l ++ [n]) sh window key)), ⟨p1.trans k1, ?_, ?_, ?_, ?_⟩, fun q => absurd q h3, fun v hv => ?_⟩
  ·refine (o2.append_right _).trans ?_
   refine List.Perm.trans ?_ ((p2.trans k3).symm.append_right _)
   rw [List.append_assoc, List.append_assoc]
   exact List.Perm.append_left _ List.perm_append_comm
  ·refine k4.trans (List.perm_append_comm.trans ?_)
   exact k2.symm.append_right _
  ·simp only [vmap, List.length_map]
   exact Nat.le_trans (List.length_filter_le ..) (oneM_len' ..)
  ·simp only [vmap, List.length_map]
   exact Nat.le_trans (List.length_filter_le ..) (oneM_len' ..)
  ·obtain ⟨e, he, rfl⟩ := List.mem_map.1 hv
   rw [List.mem_filter] at he
   obtain ⟨he, hin⟩ := he
   have hate := hat e (.inr he)
   unfold oneM at he
   rw [hlast] at he
   simp only at he
   split at he
   ·rename_i h1
    rw [List.mem_singleton] at he
    have hr : e.rec_ = n.rec_ := by rw [he]
    have hval : room.low <= n.rec_.val /\ n.rec_.val <= room.high := by
     simp [lateOne, h1, inB] at ho; exact ho.2
    simp only [inWin, Bool.and_eq_true, decide_eq_true_eq, inB] at hin
    refine ⟨by rw [hr]; exact hval.1, by rw [hr]; exact hval.2, e.rec_.at_, ?_, hin.1.2.2, ?_⟩
    ·have := hin.1.2.1; unfold maxI; split <;> omega
    ·have := hin.2
     rw [<- hin.1.1.2]; exact this
   ·simp at he
theorem heard {l : List News} {n : News} {srcs : Int} {sh : Shape} {room room' : Room} {window key : Int} (hk : keptB (l ++ [n]) srcs = true) (ho : lateOne sh.src room n = true)
  (hm : room'.most = if n.do_ = 3 then room.most else room.most - 1) (h0 : 0 <= room'.most) (hl : room'.low = room.low) (hh : room'.high = room.high) : lessB (bndM (l ++ [n]) sh room' window key).nb (bndM l sh room window key).nb = true := by
 obtain ⟨E, N, A0, X0, hs, h3, hN⟩ := heard_step (window := window) (key := key) hk ho
 have sa := scene_spec l sh room window key 0
 have sb := scene_spec (l ++ [n]) sh room' window key 0
 have ba := bound_spec (sceneM l sh room window key 0) (fixedM l sh window key (standsM l)) (sortL (looseM l sh window key (standsM l))) room.most.toNat
 have bb := bound_spec (sceneM (l ++ [n]) sh room' window key 0) (fixedM (l ++ [n]) sh window key (standsM (l ++ [n]))) (sortL (looseM (l ++ [n]) sh window key (standsM (l ++ [n])))) room'.most.toNat
 have hml := markM_le l n sh.src
 have hc : (sceneM (l ++ [n]) sh room' window key 0).has = true -> (sceneM l sh room window key 0).has = true /\ (sceneM l sh room window key 0).low.val <= (sceneM (l ++ [n]) sh room' window key 0).low.val /\ (sceneM (l ++ [n]) sh room' window key 0).high.val <= (sceneM l sh room window key 0).high.val := fun q => by
  have c1 := sa.has _ (canV_mono (by omega) (by omega) hml (sb.low q).1)
  have c2 := sa.has _ (canV_mono (by omega) (by omega) hml (sb.high q).1)
  exact ⟨c1.1, c1.2.1, c2.2.2⟩
 rw [sa.sh] at ba
 rw [sb.sh] at bb
 have hsort := loose_sorted (looseM l sh window key (standsM l))
 have hEP : room'.most.toNat + E.length <= room.most.toNat := by
  split at hm
  ·rename_i q; rw [(h3 q).1]; simp; omega
  ·have := hs.e1; omega
 have hNP : room'.most.toNat + N.length <= room.most.toNat := by
  split at hm
  ·rename_i q; rw [(h3 q).2]; simp; omega
  ·have := hs.n1; omega
 have hlen : ∀ (F : List Int) (L : List Loose) (P : Nat) (c : Bool), ∀ w ∈ waysM P (min P L.length) c, ∀ x y : Int, (valsM F L w false x).length = (valsM F L w true y).length := fun F L P c w h x y => by
  rw [way_room] at h
  rw [valsM_len (by omega), valsM_len (by omega)]
 have hvl : ∀ L : List Loose, (valsL L).length = L.length := fun L => by simp [valsL]
 refine lessB_of (less_of bb ba (fun w h => hlen _ _ _ _ w h _ _) (fun w h => ?_) (fun w h => ?_) (fun w h => hlen _ _ _ _ w h _ _))
 ·obtain ⟨w', h1, h2⟩ := step_low hs hsort hEP hNP (fun q => ⟨(hc q).1, (hc q).2.1⟩) (fun v hv => ⟨(sa.has v (hN v hv)).1, (sa.has v (hN v hv)).2.1⟩) (w' := w) (by rw [hvl]; exact h)
  rw [hvl] at h1
  exact ⟨w', h1, by simp only [valsM_eq]; exact h2⟩
 ·obtain ⟨w', h1, h2⟩ := step_high hs hsort hEP hNP (fun q => ⟨(hc q).1, (hc q).2.2⟩) (fun v hv => ⟨(sa.has v (hN v hv)).1, (sa.has v (hN v hv)).2.2⟩) (w' := w) (by rw [hvl]; exact h)
  rw [hvl] at h1
  exact ⟨w', h1, by simp only [valsM_eq]; exact h2⟩
end Go.Aft
end
section
set_option maxRecDepth 20000
namespace Go.Aft
theorem sortedI_unique : ∀ {a b : List Int}, SortedI a -> SortedI b -> a.Perm b -> a = b
 | [], b, _, _, h => (List.nil_perm.1 h).symm
 | x :: a, [], _, _, h => by have := h.length_eq; simp at this
 | x :: a, y :: b, ha, hb, h => by
  have ha' := List.pairwise_cons.1 ha
  have hb' := List.pairwise_cons.1 hb
  have h1 : x <= y := by
   rcases List.mem_cons.1 (h.mem_iff.2 (List.mem_cons_self ..)) with q | q
   ·omega
   ·exact ha'.1 y q
  have h2 : y <= x := by
   rcases List.mem_cons.1 (h.mem_iff.1 (List.mem_cons_self ..)) with q | q
   ·omega
   ·exact hb'.1 x q
  have e : x = y := by omega
  subst e
  rw [sortedI_unique ha'.2 hb'.2 ((List.perm_cons x).1 h)]
theorem stepB_vals {s : Scene} {F : List Int} {L L' : List Loose} (h : valsL L = valsL L') (b : Bnd) (w : Way) : stepB s F L b w = stepB s F L' b w := by
 unfold stepB; simp only [valsM_eq, h]
theorem boundM_vals {s : Scene} {F : List Int} {L L' : List Loose} (h : valsL L = valsL L') (P : Nat) : boundM s F L P = boundM s F L' P := by
 have hl : L.length = L'.length := by simpa [valsL] using congrArg List.length h
 unfold boundM
 rw [hl]
 congr 1
 funext b w; exact stepB_vals h b w
theorem boundM_scene {s s' : Scene} {F : List Int} {L : List Loose} (h1 : s.has = s'.has) (h2 : s.low = s'.low) (h3 : s.high = s'.high) (h4 : s.sh.fold = s'.sh.fold) (P : Nat) : boundM s F L P = boundM s' F L P := by
 have hr : ∀ g, sRec s g = sRec s' g := fun g => by unfold sRec; rw [h2, h3]
 unfold boundM
 rw [h1]
 congr 1
 funext b w; unfold stepB; rw [hr, hr, h4]
theorem bnd_same {l l' : List News} {sh : Shape} {room : Room} {window key : Int} (hm : markM l' sh.src = markM l sh.src) (hw : (standsM l').filter (inWin sh window key) = (standsM l).filter (inWin sh window key))
  (hi : ∀ e ∈ (standsM l).filter (inWin sh window key), isLoose l' sh e = isLoose l sh e) : bndM l' sh room window key = bndM l sh room window key := by
 have h1 : ∀ (k : List News) (p : Event -> Bool), (standsM k).filter (fun e => inWin sh window key e && p e) = ((standsM k).filter (inWin sh window key)).filter p := fun k p => by
  rw [List.filter_filter]; congr 1; funext e; rw [Bool.and_comm]
 have hf : fixedM l' sh window key (standsM l') = fixedM l sh window key (standsM l) := by
  unfold fixedM
  rw [h1 l' (fun e => !isLoose l' sh e), h1 l (fun e => !isLoose l sh e), hw]
  congr 1
  exact List.filter_congr fun e he => by rw [hi e he]
 have hlx : (standsM l').filter (lxP l' sh window key) = (standsM l).filter (lxP l sh window key) := by
  unfold lxP
  rw [h1 l' (isLoose l' sh), h1 l (isLoose l sh), hw]
  exact List.filter_congr fun e he => by rw [hi e he]
 have hv : valsL (sortL (looseM l' sh window key (standsM l'))) = valsL (sortL (looseM l sh window key (standsM l))) :=
  sortedI_unique (loose_sorted _) (loose_sorted _) ((loose_perm ..).trans (by rw [hlx]; exact (loose_perm ..).symm))
 unfold bndM
 rw [boundM_vals hv, hf]
 have hk := fun (k : List News) (y z : LV) => comeM_keep (maxI (window - sh.n + 1) (markM k sh.src)) key (window - maxI (window - sh.n + 1) (markM k sh.src) + 1).toNat (room.high - room.low + 1).toNat (scene0 sh room y z 0) room.low
 have hs : ∀ k : List News, sceneM k sh room window key 0 = { comeM (maxI (window - sh.n + 1) (markM k sh.src)) key (window - maxI (window - sh.n + 1) (markM k sh.src) + 1).toNat (scene0 sh room nilS nilS 0) room.low (room.high - room.low + 1).toNat with vals := sl ((fixedM k sh window key (standsM k)).map rI), loose := sl ((sortL (looseM k sh window key (standsM k))).map rLoose) } := fun k =>
  comeM_lists _ _ _ _ _ _ (scene0 sh room nilS nilS 0) room.low
 refine boundM_scene ?_ ?_ ?_ ?_ _ <;> rw [hs, hs, hm]
theorem others_src {l : List News} {n : News} {sh : Shape} {room : Room} {window key : Int} (h : n.src ≠ sh.src) : bndM (l ++ [n]) sh room window key = bndM l sh room window key := by
 refine bnd_same ?_ ?_ fun e he => ?_
 ·rw [markM_snoc, hearM, if_neg (fun q => h q.2)]
 ·refine sorted_unique evLt_irr (fun _ _ _ => evLt_trans) ((standsM_sorted _).filter _) ((standsM_sorted _).filter _) fun e => ?_
  rw [List.mem_filter, List.mem_filter]
  refine and_congr_left fun q => ?_
  have hs : e.src = sh.src := by simp only [inWin, Bool.and_eq_true, decide_eq_true_eq] at q; exact q.1.1.1
  rw [standsM_mem, standsM_mem, oneM_other (fun q => h (q.1.trans hs))]
 ·rw [List.mem_filter] at he
  simp only [isLoose]
  rw [verM_other (fun q => h q.1), markM_snoc, hearM, if_neg (fun q => h q.2)]
theorem others_out {l : List News} {n : News} {srcs : Int} {sh : Shape} {room : Room} {window key : Int} (hg : goodB n srcs = true) (h : n.src = sh.src) (h3 : n.do_ ≠ 3) (h99 : n.ver ≠ 99)
  (ho : ∀ e, e ∈ (stepM l n).1 \/ e ∈ (stepM l n).2 -> ¬ (window - sh.n < e.rec_.at_ /\ e.rec_.at_ <= window)) : bndM (l ++ [n]) sh room window key = bndM l sh room window key := by
 have hv := good_ver hg h3
 have hwin : ∀ e, inWin sh window key e = true -> window - sh.n < e.rec_.at_ /\ e.rec_.at_ <= window := fun e q => by
  simp only [inWin, Bool.and_eq_true, decide_eq_true_eq, inB] at q; omega
 have hmem : ∀ e, inWin sh window key e = true -> (e ∈ standsM (l ++ [n]) ↔ e ∈ standsM l) /\ (e ∈ standsM l -> e.id = n.id -> oneM l n.src n.id = oneM (l ++ [n]) n.src n.id) := fun e q => by
  have hs : e.src = sh.src := by simp only [inWin, Bool.and_eq_true, decide_eq_true_eq] at q; exact q.1.1.1
  rw [standsM_mem, standsM_mem]
  by_cases hk : n.src = e.src /\ n.id = e.id
  ·rw [<- hk.1, <- hk.2]
   by_cases hB : oneM l n.src n.id = oneM (l ++ [n]) n.src n.id
   ·rw [hB]; exact ⟨Iff.rfl, fun _ _ => rfl⟩
   ·rw [stepM, if_neg h3, if_neg hB] at ho
    have h1 : ¬ e ∈ oneM l n.src n.id := fun q' => ho e (.inl q') (hwin e q)
    have h2 : ¬ e ∈ oneM (l ++ [n]) n.src n.id := fun q' => ho e (.inr q') (hwin e q)
    exact ⟨⟨fun q' => absurd q' h2, fun q' => absurd q' h1⟩, fun q' => absurd q' h1⟩
  ·rw [oneM_other hk]
   exact ⟨Iff.rfl, fun _ q' => absurd ⟨h.trans hs.symm, q'.symm⟩ hk⟩
 refine bnd_same (markM_keep h3) ?_ fun e he => ?_
 ·refine sorted_unique evLt_irr (fun _ _ _ => evLt_trans) ((standsM_sorted _).filter _) ((standsM_sorted _).filter _) fun e => ?_
  rw [List.mem_filter, List.mem_filter]
  exact and_congr_left fun q => (hmem e q).1
 ·rw [List.mem_filter] at he
  simp only [isLoose, markM_keep h3]
  by_cases hk : n.src = sh.src /\ n.id = e.id
  ·rw [verM_snoc, verStep, if_pos ⟨h3, hk⟩]
   have : (verM l sh.src e.id < 99) ↔ maxI (verM l sh.src e.id) n.ver < 99 := by unfold maxI; split <;> omega
   exact decide_eq_decide.2 (and_congr_right fun _ => this.symm)
  ·rw [verM_other hk]
end Go.Aft
end
