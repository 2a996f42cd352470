import Derived.Test.YtdhphbedajhmnaaGreatA42
import Derived.Test.YtdhphbedajhmnaaGreatA40
set_option linter.unusedVariables false
set_option linter.unusedSimpArgs false
set_option linter.deprecated false
section
set_option maxRecDepth 20000
namespace Go.Aft
open Go.Proofs.Tryz
theorem lateAll_one {p : Prog} {l : List News} {d : Int} {room : Room} {window key : Int} (h : askE p d l room window key = 0) {more : List News} : lateAllB p l more d room = lateNB l more p.srcs.length (shD p d).src room := by
 obtain ⟨_, _, _, _, _, _, h7, _⟩ := askE_facts h
 unfold lateAllB
 rw [h7]; simp
def lessR (room : Room) (n : News) : Room := if n.do_ = 3 then room else { room with most := IntKind.wrap .i64 (room.most - 1) }
theorem heard_law {p : Prog} {l : List News} {d : Int} {room : Room} {window key : Int} {n : News} (h1 : askE p d l room window key = 0) (h2 : lateAllB p l [n] d room = true) (h3 : askE p d (l ++ [n]) (lessR room n) window key = 0) :
  (ofM p d l room window key).2 = 0 /\ (ofM p d (l ++ [n]) (lessR room n) window key).2 = 0 /\ lessB (ofM p d (l ++ [n]) (lessR room n) window key).1 (ofM p d l room window key).1 = true := by
 obtain ⟨_, _, _, _, a5, _, _, a8, _⟩ := askE_facts h1
 obtain ⟨_, _, _, _, b5, _, _, b8, _⟩ := askE_facts h3
 have hm := roomB_most a5
 have hm' := roomB_most b5
 have hw : IntKind.wrap .i64 (room.most - 1) = room.most - 1 := by rw [wrap64] <;> omega
 rw [lateAll_one h1] at h2
 simp only [lateNB, List.all_cons, List.all_nil, Bool.and_true, Bool.and_eq_true, decide_eq_true_eq] at h2
 rw [a8, b8]
 refine ⟨rfl, rfl, heard h2.2 h2.1.1 ?_ hm'.1 ?_ ?_⟩
 ·unfold lessR; split
  ·rfl
  ·exact hw
 ·unfold lessR; split <;> rfl
 ·unfold lessR; split <;> rfl
def inWinB (window many : Int) (es : List Event) : Bool := es.any fun e => decide (window - many < e.rec_.at_ /\ e.rec_.at_ <= window)
theorem others_law {p : Prog} {l : List News} {d : Int} {room : Room} {window key : Int} {n : News} (h1 : askE p d l room window key = 0) (h3 : askE p d (l ++ [n]) room window key = 0)
  (h : n.src = (shD p d).src -> inWinB window (shD p d).n ((stepM l n).1 ++ (stepM l n).2) = false /\ n.do_ ≠ 3 /\ n.ver ≠ 99) :
  (ofM p d l room window key).2 = 0 /\ (ofM p d (l ++ [n]) room window key).2 = 0 /\ (ofM p d l room window key).1 = (ofM p d (l ++ [n]) room window key).1 := by
 obtain ⟨_, _, _, _, _, _, _, a8, _⟩ := askE_facts h1
 obtain ⟨_, _, b3, _, _, _, _, b8, _⟩ := askE_facts h3
 rw [a8, b8]
 refine ⟨rfl, rfl, ?_⟩
 have hg := formed_good b3 n (by simp)
 by_cases hs : n.src = (shD p d).src
 ·obtain ⟨q1, q2, q3⟩ := h hs
  refine congrArg Bnd.nb (others_out hg hs q2 q3 fun e he => ?_).symm
  rw [inWinB, List.any_eq_false] at q1
  have := q1 e (List.mem_append.2 he)
  simpa using this
 ·exact congrArg Bnd.nb (others_src hs).symm
end Go.Aft
end
section
set_option maxRecDepth 20000
namespace Go.Aft
open Go.Proofs.Tryz
theorem law_Heard (p : Prog) (hs : fitP p) (l : List News) (a : Ask) (n : News) : AFun prog 6 [lv (rProg p), sl (l.map rNews), lv (rAsk a), lv (rNews n)] (.d (.k (.bool true))) := by
 have cc := cxK_ok (p := kds [4, 6, 7] [] [])
 refine AFun.bodyW (cxK_ok (p := kds [4, 6, 7] [] [])) func6 rfl call6 (by rw [ntmps6]; simp) rfl fun hf H => ?_
 have hlen : askE p a.d l a.room a.window a.key = 0 -> l.length <= 1000 := fun h => by
  obtain ⟨_, _, _, _, b5, b6, _⟩ := askE_facts h
  have := roomB_most b5; omega
 have a1 := law_asked p hs l a
 have a2 := fun h => law_late p hs l [n] ⟨h, by simp⟩ a
 have a3 := law_asked p hs (l ++ [n]) ⟨a.d, lessR a.room n, a.window, a.key⟩
 have j := fun h => law_joined l [n] ⟨h, by simp⟩
 have b1 := law_bound p hs (l ++ [n]) ⟨a.d, lessR a.room n, a.window, a.key⟩
 have b2 := law_bound p hs l a
 have hk := law_known
 have hpl := @heard_law p l a.d a.room a.window a.key n
 dsimp only at a3 b1
 generalize askE p a.d l a.room a.window a.key = e1 at hpl a1 hlen
 generalize lateAllB p l [n] a.d a.room = e2 at hpl a2
 generalize askE p a.d (l ++ [n]) (lessR a.room n) a.window a.key = e3 at hpl a3
 generalize ofM p a.d l a.room a.window a.key = o1 at hpl b2
 generalize ofM p a.d (l ++ [n]) (lessR a.room n) a.window a.key = o2 at hpl b1
 obtain ⟨⟨s1, n1, l1, h1⟩, w1⟩ := o1
 obtain ⟨⟨s2, n2, l2, h2⟩, w2⟩ := o2
 have hl := law_less ⟨s2, n2, l2, h2⟩ ⟨s1, n1, l1, h1⟩
 generalize lessB ⟨s2, n2, l2, h2⟩ ⟨s1, n1, l1, h1⟩ = ls at hl hpl
 obtain ⟨y, hy⟩ : ∃ y, lessR a.room n = y := ⟨_, rfl⟩
 rw [hy] at a3 b1
 rw [List.map_append] at a3 b1 j
 obtain ⟨N, hN⟩ : ∃ N, l.map rNews ++ [n].map rNews = N := ⟨_, rfl⟩
 rw [hN] at a3 b1 j
 simp [rProg, rAsk, rRoom, rNews, rRec, dI, rNB, dB] at a1 a2 a3 j b1 b2 hl
 simp [ntmps6, results6, rProg, rAsk, rRoom, rNews, rRec, dI] at hf |-
 refine AW.seq cc ?_
 simp
 refine AW.seq cc ?_
 simp
 refine AW.join (c := cxK (kds [4, 6, 7] [] [])) (fun _ : Unit => ⟨[(1, sl (l.map rNews)), (4, .ip ((rProg p).map .d) 0), (6, .ip ((rAsk a).map .d) 0), (7, .ip ((rNews n).map .d) 0), (9, .lp 9 0)], [(9, [lvI a.d, lvI y.most, lvI y.low, lvI y.high, lvI a.window, lvI a.key])], H⟩) (fun _ => True) ?_ ?_
 ·refine AW.ev cc ?_
  by_cases hd : n.do_ = 3
  ·simp [hd]
   refine JN.go () trivial ?_
   simp [rProg, rAsk, rRoom, rNews, rRec, dI, <- hy, lessR, hd]
   done
  ·have hdb : (n.do_ != 3) = true := by simpa using hd
   simp [hd, hdb]
   refine JN.go () trivial ?_
   simp [rProg, rAsk, rRoom, rNews, rRec, dI, <- hy, lessR, hd]
   done
 ·rintro _ _
  refine AW.seq cc ?_
  simp [rProg, rAsk, rRoom, rNews, rRec, dI]
  refine AW.draw cc [(3, .n), (11, .n), (19, .n), (21, .n)] (.q 1 <| .q 0 <| .q 2 <| .q 3 <| .q 4 <| .q 5 <| .q 7 <| .q 6 <| .q 8 <| .q 9 <| .q 10 <| .q 11 <| .q 12 <| .q 13 <| .q 14 <| .q 16 <| .q 15 <| .q 17 <| .q 18 <| .q 19 <| .q 20 <| .q 21 <| .q 22 <| .q 23 <| .done) (by kernel_rfl) ?_
  simp
  refine FC.afun a1 ?_
  by_cases q1 : e1 = 0
  ·simp [q1]
   refine FCg.afun (fun _ => a2 (hlen q1)) ?_
   cases e2 with
   | true =>
    simp
    refine FCg.afun (fun _ => j (hlen q1)) ?_
    simp
    refine FCg.afun (fun _ => a3) ?_
    by_cases q3 : e3 = 0
    ·obtain ⟨rfl, rfl, rfl⟩ := hpl q1 rfl q3
     simp [q3]
     refine AW.seq cc ?_
     simp
     refine AW.draw cc [(4, .n), (6, .n)] (.q 1 <| .q 0 <| .q 2 <| .q 3 <| .q 4 <| .q 5 <| .q 6 <| .q 7 <| .q 8 <| .q 9 <| .f <| .one 10 <| .f <| .one 11 <| .q 12 <| .done) (by kernel_rfl) ?_
     simp
     refine FC.afun (j (hlen q1)) ?_
     simp
     refine FC.afun b1 ?_
     simp
     refine AW.seq cc ?_
     simp
     refine EC.afun b2 ?_
     simp
     refine AW.ev cc ?_
     simp
     refine EC.afun hl ?_
     simp
     refine EC.afun hk ?_
     simp
    ·simp [q3]
     refine EC.afun hk ?_
     simp
   | false =>
    simp
    refine FCg.afun (v := sl []) (fun h => by cases h) ?_
    simp
    refine FCg.afun (v := .d (.k (.bool true))) (fun h => by cases h) ?_
    simp
    refine EC.afun hk ?_
    simp
  ·simp [q1]
   refine FCg.afun (v := .d (.k (.bool true))) (fun h => by cases h) ?_
   simp
   refine FCg.afun (v := sl []) (fun h => by cases h) ?_
   simp
   refine FCg.afun (v := .d (.k (.bool true))) (fun h => by cases h) ?_
   simp
   refine EC.afun hk ?_
   simp
end Go.Aft
end
section
set_option maxRecDepth 20000
namespace Go.Aft
open Go.RowKit
open Go.Proofs.Tryz
section
variable {H : Type} {enc : TypeId × Value -> H} {w : World}
theorem read_slice {P : Program} {α : Type} {t e : TypeId} {r : List α -> List DV} {x1 : List α -> DV} {fit : List α -> Prop} {base : Nat} {v : Value} {d : DataW H} {p : List MemPlace} (hr : ∀ fuel, Rd enc P w t r fit fuel) (hx : ∀ x, r x = [x1 x]) (hu : P.underlying t = some (.slice e))
  (hval : Value.okWide P w .any base t v) (hd : DataW.Trod enc P w 0 (fun _ => true) true t v d p) (hw : Wt P t d) : ∃ x, fit x /\ LR (allG w) 0 noL (.d (x1 x)) v := by
 obtain ⟨a, len, cap, rfl⟩ := Go.WideShapes.okWide_slice hu hval
 obtain ⟨fuel, hf⟩ := hd
 obtain ⟨x, h1, h2⟩ := hr fuel _ _ _ hf
 refine ⟨x, h2 hw, ?_⟩
 rw [hx] at h1
 have h3 := RL_LRs (G := allG w) (nx := 0) (lm := noL) h1
 simp only [List.map_cons, List.map_nil] at h3
 unfold LRs at h3
 obtain ⟨v', vs', e, h4, _⟩ := h3
 have : v' = .slice a len cap := by
  have := congrArg List.head? e
  simpa [Value.cells] using this.symm
 rw [<- this]; exact h4
theorem rd_news (fuel : Nat) : Rd enc prog w 53 rNews (fun _ => True) fuel :=
 Rd.struct underlying53 fuel fun f hf => ((RdFs.cons (n := 7) rfl (Rd.int underlying51 f) <| RdFs.cons rfl (Rd.int underlying3 f) <| RdFs.cons rfl (Rd.int underlying3 f) <| RdFs.cons rfl (Rd.int underlying3 f) <| RdFs.cons rfl (rd_rec f) <| RdFs.nil)).conv (fun x => ⟨x.1, x.2.1, x.2.2.1, x.2.2.2.1, x.2.2.2.2.1⟩) (fun _ => rfl) (fun _ _ => trivial)
theorem rd_newsL (fuel : Nat) : Rd enc prog w 35 (fun l : List News => [.sl (l.map rNews)]) (fun l => ∀ n ∈ l, True) fuel := Rd.slice underlying35 (by decide +kernel) (fun x => by rw [show prog.cellsOf 53 = 7 by decide +kernel]; rfl) fuel fun f _ => rd_news f
theorem rd_room (fuel : Nat) : Rd enc prog w 37 rRoom (fun _ => True) fuel :=
 Rd.struct underlying37 fuel fun f hf => ((RdFs.cons (n := 3) rfl (Rd.int underlying3 f) <| RdFs.cons rfl (Rd.int underlying3 f) <| RdFs.cons rfl (Rd.int underlying3 f) <| RdFs.nil)).conv (fun x => ⟨x.1, x.2.1, x.2.2.1⟩) (fun _ => rfl) (fun _ _ => trivial)
theorem rd_ask (fuel : Nat) : Rd enc prog w 39 rAsk (fun _ => True) fuel :=
 Rd.struct underlying39 fuel fun f hf => ((RdFs.cons (n := 6) rfl (Rd.int underlying3 f) <| RdFs.cons rfl (rd_room f) <| RdFs.cons rfl (Rd.int underlying3 f) <| RdFs.cons rfl (Rd.int underlying3 f) <| RdFs.nil)).conv (fun x => ⟨x.1, x.2.1, x.2.2.1, x.2.2.2.1⟩) (fun _ => rfl) (fun _ _ => trivial)
end
end Go.Aft
end
