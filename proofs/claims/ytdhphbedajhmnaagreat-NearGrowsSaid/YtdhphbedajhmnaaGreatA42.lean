import Derived.Test.YtdhphbedajhmnaaGreatA40
import Derived.Test.YtdhphbedajhmnaaGreatA41
set_option linter.unusedVariables false
set_option linter.unusedSimpArgs false
set_option linter.deprecated false
section
set_option maxRecDepth 20000
namespace Go.Aft
theorem askE_zero {p : Prog} {d : Int} {l : List News} {room : Room} {window key : Int} (h : askE p d l room window key = 0) :
  askedB p d l room key = true /\ lookE (plainOf p (p.defs.getD d.toNat default).exp) l.length room window = 0 /\ ofM p d l room window key = (boundV p d.toNat l room window key, 0) := by
 rw [askE] at h
 split at h
 ·rename_i q
  exact ⟨q, h, by rw [ofM, if_pos q, if_pos h]⟩
 ·cases h
def bndM (l : List News) (sh : Shape) (room : Room) (window key : Int) : Bnd :=
 boundM (sceneM l sh room window key 0) (fixedM l sh window key (standsM l)) (sortL (looseM l sh window key (standsM l))) room.most.toNat
theorem boundV_eq (p : Prog) (d : Nat) (l : List News) (room : Room) (window key : Int) : boundV p d l room window key = (bndM l (plainOf p (p.defs.getD d default).exp).1 room window key).nb := rfl
theorem lessB_of {a b : NB} (h : (a.none = true -> b.none = true) /\ (a.some = true -> b.some = true /\ b.low <= a.low /\ a.high <= b.high)) : lessB a b = true := by
 obtain ⟨s1, n1, l1, h1⟩ := a
 obtain ⟨s2, n2, l2, h2⟩ := b
 simp only at h
 cases n1 <;> cases s1 <;> simp_all [lessB]
theorem way_room {P mn : Nat} {can : Bool} {w : Way} : w ∈ waysM P mn can ↔ w.gone + w.turned <= mn /\ w.gone + w.turned + w.more <= P /\ (can = true \/ w.turned + w.more = 0) := by
 rw [waysM_mem]
 constructor
 ·rintro (h | ⟨_, _, h⟩)
  ·exact h
  ·exact h.elim
 ·exact .inl
theorem canV_mono {sh : Shape} {r r' : Room} {window key m m' u : Int} (h1 : r'.low <= r.low) (h2 : r.high <= r'.high) (h3 : m' <= m) (h : canV sh r window key m u) : canV sh r' window key m' u := by
 obtain ⟨a, b, t, c, d, e⟩ := h
 exact ⟨Int.le_trans h1 a, Int.le_trans b h2, t, by have := maxI_ge (window - sh.n + 1) m; have := maxI_ge (window - sh.n + 1) m'; unfold maxI at *; split at * <;> split at * <;> omega, d, e⟩
theorem grows (l : List News) (sh : Shape) (a b : Room) (window key : Int) (h1 : a.most <= b.most) (h2 : b.low <= a.low) (h3 : a.high <= b.high) : lessB (bndM l sh a window key).nb (bndM l sh b window key).nb = true := by
 have sa := scene_spec l sh a window key 0
 have sb := scene_spec l sh b window key 0
 have ba := bound_spec (sceneM l sh a window key 0) (fixedM l sh window key (standsM l)) (sortL (looseM l sh window key (standsM l))) a.most.toNat
 have bb := bound_spec (sceneM l sh b window key 0) (fixedM l sh window key (standsM l)) (sortL (looseM l sh window key (standsM l))) b.most.toNat
 have hc : (sceneM l sh a window key 0).has = true -> (sceneM l sh b window key 0).has = true /\ (sceneM l sh b window key 0).low.val <= (sceneM l sh a window key 0).low.val /\ (sceneM l sh a window key 0).high.val <= (sceneM l sh b window key 0).high.val := fun q => by
  have c1 := sb.has _ (canV_mono h2 h3 (Int.le_refl _) (sa.low q).1)
  have c2 := sb.has _ (canV_mono h2 h3 (Int.le_refl _) (sa.high q).1)
  exact ⟨c1.1, c1.2.1, c2.2.2⟩
 rw [sa.sh] at ba
 rw [sb.sh] at bb
 unfold bndM
 generalize fixedM l sh window key (standsM l) = F at *
 generalize sortL (looseM l sh window key (standsM l)) = L at *
 have hw : ∀ w ∈ waysM a.most.toNat (min a.most.toNat L.length) (sceneM l sh a window key 0).has, w ∈ waysM b.most.toNat (min b.most.toNat L.length) (sceneM l sh b window key 0).has := fun w h => by
  rw [way_room] at h |-
  refine ⟨by omega, by omega, ?_⟩
  rcases h.2.2 with q | q
  ·exact .inl (hc q).1
  ·exact .inr q
 have hD : ∀ w ∈ waysM a.most.toNat (min a.most.toNat L.length) (sceneM l sh a window key 0).has, ∀ (g : Bool) (x y : Int), ((sceneM l sh a window key 0).has = true -> x <= y) -> Dom (valsM F L w g x) (valsM F L w g y) := fun w h g x y hxy => by
  rw [way_room] at h
  unfold valsM
  refine .left _ ?_
  rcases h.2.2 with q | q
  ·exact .rep _ (hxy q)
  ·rw [q]; exact .refl _
 have hlen : ∀ (P : Nat) (c : Bool), ∀ w ∈ waysM P (min P L.length) c, ∀ x y : Int, (valsM F L w false x).length = (valsM F L w true y).length := fun P c w h x y => by
  rw [way_room] at h
  rw [valsM_len (by omega), valsM_len (by omega)]
 exact lessB_of (less_of ba bb (fun w h => hlen _ _ w h _ _) (fun w h => ⟨w, hw w h, hD w h false _ _ fun q => (hc q).2.1⟩) (fun w h => ⟨w, hw w h, hD w h true _ _ fun q => (hc q).2.2⟩) (fun w h => hlen _ _ w h _ _))
def shD (p : Prog) (d : Int) : Shape := (plainOf p (p.defs.getD d.toNat default).exp).1
theorem askE_facts {p : Prog} {d : Int} {l : List News} {room : Room} {window key : Int} (h : askE p d l room window key = 0) :
  isDefM p d /\ (plainOf p (p.defs.getD d.toNat default).exp).2 = true /\ formedB l p.srcs.length = true /\ lateM l = [] /\ roomB room = true /\ l.length + room.most <= 60 /\
  plainV p d = .tup [lvI (shD p d).src, lvI (shD p d).n, lvI 0] /\ ofM p d l room window key = ((bndM l (shD p d) room window key).nb, 0) /\ inB window 0 200 = true /\ 1 <= (shD p d).n /\ (shD p d).n <= 50 := by
 obtain ⟨h1, h2, h3⟩ := askE_zero h
 simp only [askedB, Bool.and_eq_true, decide_eq_true_eq] at h1
 obtain ⟨⟨⟨⟨a1, a2⟩, a3⟩, a4⟩, a5⟩ := h1
 have hd : d.toNat < p.defs.length := by have := a1.2; omega
 have hgd : p.defs.getD d.toNat default = p.defs[d.toNat] := by simp [List.getD, List.getElem?_eq_getElem hd]
 have hq : (plainOf p (p.defs.getD d.toNat default).exp).2 = true := by
  unfold lookE at h2
  split at h2
  ·cases h2
  ·rename_i q
   cases hb : (plainOf p (p.defs.getD d.toNat default).exp).2 with
   | true => rfl
   | false => exact absurd hb q
 have hpl := formed_plain a1.1 hd (by rw [<- hgd]; exact hq)
 unfold lookE at h2
 rw [if_neg (by rw [hq]; simp)] at h2
 split at h2
 ·cases h2
 rename_i h2w
 split at h2
 ·cases h2
 ·rename_i q
  refine ⟨a1, hq, a2, a3, a4, by omega, ?_, by rw [h3, boundV_eq]; rfl, ?_, ?_⟩
  ·unfold plainV shD
   rw [dif_pos a1, hgd]
   rw [hgd] at hq
   generalize plainOf p p.defs[d.toNat].exp = z at hq |-
   obtain ⟨z1, z2⟩ := z
   simp only at hq; subst hq; rfl
  ·simp only [Bool.not_eq_false, Bool.and_eq_true] at h2w; exact h2w.1
  ·unfold shD; rw [hgd]; exact ⟨hpl.1, hpl.2.1⟩
theorem roomB_most {r : Room} (h : roomB r = true) : 0 <= r.most /\ r.most <= 6 := by
 simp [roomB, inB] at h; exact h.1.1.1
end Go.Aft
end
section
set_option maxRecDepth 20000
namespace Go.Aft
open Go.Proofs.Tryz
theorem walk_Grows (p : Prog) (hs : fitP p) (l : List News) (a : Ask) (room : Room)
  (hpl : askE p a.d l a.room a.window a.key = 0 -> askE p a.d l room a.window a.key = 0 -> a.room.most <= room.most -> room.low <= a.room.low -> a.room.high <= room.high ->
   (ofM p a.d l a.room a.window a.key).2 = 0 /\ (ofM p a.d l room a.window a.key).2 = 0 /\ lessB (ofM p a.d l a.room a.window a.key).1 (ofM p a.d l room a.window a.key).1 = true) :
  AFun prog 5 [lv (rProg p), sl (l.map rNews), lv (rAsk a), lv (rRoom room)] (.d (.k (.bool true))) := by
 have cc := cxK_ok (p := kds [4, 6, 7] [] [])
 refine AFun.bodyW (cxK_ok (p := kds [4, 6, 7] [] [])) func5 rfl call5 (by rw [ntmps5]; simp) rfl fun hf H => ?_
 have a1 := law_asked p hs l a
 have a2 := law_asked p hs l { a with room := room }
 have b1 := law_bound p hs l a
 have b2 := law_bound p hs l { a with room := room }
 have hk := law_known
 dsimp only at a2 b2
 generalize askE p a.d l a.room a.window a.key = e1 at hpl a1
 generalize askE p a.d l room a.window a.key = e2 at hpl a2
 generalize ofM p a.d l a.room a.window a.key = o1 at hpl b1
 generalize ofM p a.d l room a.window a.key = o2 at hpl b2
 obtain ⟨⟨s1, n1, l1, h1⟩, w1⟩ := o1
 obtain ⟨⟨s2, n2, l2, h2⟩, w2⟩ := o2
 have hl := law_less ⟨s1, n1, l1, h1⟩ ⟨s2, n2, l2, h2⟩
 generalize lessB ⟨s1, n1, l1, h1⟩ ⟨s2, n2, l2, h2⟩ = ls at hl hpl
 simp [rProg, rAsk, rRoom, dI, rNB, dB] at a1 a2 b1 b2 hl
 simp [ntmps5, results5, rProg, rAsk, rRoom, dI] at hf |-
 iterate 4
  refine AW.seq cc ?_
  simp
 refine EC.afun a1 ?_
 by_cases q1 : e1 = 0
 ·by_cases q2 : e2 = 0
  ·simp [q1]
   refine EC.afun a2 ?_
   by_cases q3 : a.room.most <= room.most
   ·by_cases q4 : room.low <= a.room.low
    ·by_cases q5 : a.room.high <= room.high
     ·obtain ⟨rfl, rfl, rfl⟩ := hpl q1 q2 q3 q4 q5
      simp [q2, show ¬ room.most < a.room.most by omega, show ¬ a.room.low < room.low by omega, show ¬ room.high < a.room.high by omega]
      refine AW.seq cc ?_
      simp
      refine EC.afun b1 ?_
      simp
      refine AW.seq cc ?_
      simp
      refine EC.afun b2 ?_
      simp
      refine AW.ev cc ?_
      simp
      refine EC.afun hl ?_
      simp
      refine EC.afun hk ?_
      simp
     ·simp [q2, show ¬ room.most < a.room.most by omega, show ¬ a.room.low < room.low by omega, show room.high < a.room.high by omega]
      refine EC.afun hk ?_
      simp
    ·simp [q2, show ¬ room.most < a.room.most by omega, show a.room.low < room.low by omega]
     refine EC.afun hk ?_
     simp
   ·simp [q2, show room.most < a.room.most by omega]
    refine EC.afun hk ?_
    simp
  ·simp [q1]
   refine EC.afun a2 ?_
   simp [q2]
   refine EC.afun hk ?_
   simp
 ·simp [q1]
  refine EC.afun hk ?_
  simp
end Go.Aft
end
section
set_option maxRecDepth 20000
namespace Go.Aft
open Go.Proofs.Tryz
theorem law_Grows (p : Prog) (hs : fitP p) (l : List News) (a : Ask) (room : Room) : AFun prog 5 [lv (rProg p), sl (l.map rNews), lv (rAsk a), lv (rRoom room)] (.d (.k (.bool true))) :=
 walk_Grows p hs l a room fun h1 h2 h3 h4 h5 => by
  obtain ⟨_, _, _, _, _, _, _, a8, _⟩ := askE_facts h1
  obtain ⟨_, _, _, _, _, _, _, b8, _⟩ := askE_facts h2
  rw [a8, b8]
  exact ⟨rfl, rfl, grows l (shD p a.d) a.room room a.window a.key h3 h4 h5⟩
end Go.Aft
end
section
set_option maxRecDepth 20000
namespace Go.Aft
open Go.RowKit
open Go.Proofs.Tryz
section
variable {H : Type} {enc : TypeId × Value -> H} {w : World}
theorem read_slice {P : Program} {α : Type} {t e : TypeId} {r : List α -> List DV} {x1 : List α -> DV} {fit : List α -> Prop} {base : Nat} {v : Value} {d : DataW H} {p : List MemPlace} (hr : ∀ fuel, Rd enc P w t r fit fuel) (hx : ∀ x, r x = [x1 x]) (hu : P.underlying t = some (.slice e))
  (hval : Value.okWide P w .any base t v) (hd : DataW.Trod enc P w 0 (fun _ => true) true t v d p) (hw : Wt P t d) : ∃ x, fit x /\ LR (allG w) 0 noL (.d (x1 x)) v := by
 obtain ⟨a, len, cap, rfl⟩ := Go.WideShapes.okWide_slice hu hval
 obtain ⟨fuel, hf⟩ := hd
 obtain ⟨x, h1, h2⟩ := hr fuel _ _ _ hf
 refine ⟨x, h2 hw, ?_⟩
 rw [hx] at h1
 have h3 := RL_LRs (G := allG w) (nx := 0) (lm := noL) h1
 simp only [List.map_cons, List.map_nil] at h3
 unfold LRs at h3
 obtain ⟨v', vs', e, h4, _⟩ := h3
 have : v' = .slice a len cap := by
  have := congrArg List.head? e
  simpa [Value.cells] using this.symm
 rw [<- this]; exact h4
theorem rd_news (fuel : Nat) : Rd enc prog w 53 rNews (fun _ => True) fuel :=
 Rd.struct underlying53 fuel fun f hf => ((RdFs.cons (n := 7) rfl (Rd.int underlying51 f) <| RdFs.cons rfl (Rd.int underlying3 f) <| RdFs.cons rfl (Rd.int underlying3 f) <| RdFs.cons rfl (Rd.int underlying3 f) <| RdFs.cons rfl (rd_rec f) <| RdFs.nil)).conv (fun x => ⟨x.1, x.2.1, x.2.2.1, x.2.2.2.1, x.2.2.2.2.1⟩) (fun _ => rfl) (fun _ _ => trivial)
theorem rd_newsL (fuel : Nat) : Rd enc prog w 35 (fun l : List News => [.sl (l.map rNews)]) (fun l => ∀ n ∈ l, True) fuel := Rd.slice underlying35 (by decide +kernel) (fun x => by rw [show prog.cellsOf 53 = 7 by decide +kernel]; rfl) fuel fun f _ => rd_news f
theorem rd_room (fuel : Nat) : Rd enc prog w 37 rRoom (fun _ => True) fuel :=
 Rd.struct underlying37 fuel fun f hf => ((RdFs.cons (n := 3) rfl (Rd.int underlying3 f) <| RdFs.cons rfl (Rd.int underlying3 f) <| RdFs.cons rfl (Rd.int underlying3 f) <| RdFs.nil)).conv (fun x => ⟨x.1, x.2.1, x.2.2.1⟩) (fun _ => rfl) (fun _ _ => trivial)
theorem rd_ask (fuel : Nat) : Rd enc prog w 39 rAsk (fun _ => True) fuel :=
 Rd.struct underlying39 fuel fun f hf => ((RdFs.cons (n := 6) rfl (Rd.int underlying3 f) <| RdFs.cons rfl (rd_room f) <| RdFs.cons rfl (Rd.int underlying3 f) <| RdFs.cons rfl (Rd.int underlying3 f) <| RdFs.nil)).conv (fun x => ⟨x.1, x.2.1, x.2.2.1, x.2.2.2.1⟩) (fun _ => rfl) (fun _ _ => trivial)
end
end Go.Aft
end
