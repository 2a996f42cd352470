import Derived.Test.YtdhphbedajhmnaaGreatA42
import Derived.Test.YtdhphbedajhmnaaGreatA40
set_option linter.unusedVariables false
set_option linter.unusedSimpArgs false
set_option linter.deprecated false
section
set_option maxRecDepth 20000
namespace Go.Aft
open Go.Proofs.Tryz
theorem lateAll_one {p : Prog} {l : List News} {d : Int} {room : Room} {window key : Int} (h : askE p d l room window key = 0) {more : List News} : lateAllB p l more d room = lateNB l more p.srcs.length (shD p d).src room := by
 obtain ⟨_, _, _, _, _, _, h7, _⟩ := askE_facts h
 unfold lateAllB
 rw [h7]; simp
def lessR (room : Room) (n : News) : Room := if n.do_ = 3 then room else { room with most := IntKind.wrap .i64 (room.most - 1) }
theorem heard_law {p : Prog} {l : List News} {d : Int} {room : Room} {window key : Int} {n : News} (h1 : askE p d l room window key = 0) (h2 : lateAllB p l [n] d room = true) (h3 : askE p d (l ++ [n]) (lessR room n) window key = 0) :
  (ofM p d l room window key).2 = 0 /\ (ofM p d (l ++ [n]) (lessR room n) window key).2 = 0 /\ lessB (ofM p d (l ++ [n]) (lessR room n) window key).1 (ofM p d l room window key).1 = true := by
 obtain ⟨_, _, _, _, a5, _, _, a8, _⟩ := askE_facts h1
 obtain ⟨_, _, _, _, b5, _, _, b8, _⟩ := askE_facts h3
 have hm := roomB_most a5
 have hm' := roomB_most b5
 have hw : IntKind.wrap .i64 (room.most - 1) = room.most - 1 := by rw [wrap64] <;> omega
 rw [lateAll_one h1] at h2
 simp only [lateNB, List.all_cons, List.all_nil, Bool.and_true, Bool.and_eq_true, decide_eq_true_eq] at h2
 rw [a8, b8]
 refine ⟨rfl, rfl, heard h2.2 h2.1.1 ?_ hm'.1 ?_ ?_⟩
 ·unfold lessR; split
  ·rfl
  ·exact hw
 ·unfold lessR; split <;> rfl
 ·unfold lessR; split <;> rfl
def inWinB (window many : Int) (es : List Event) : Bool := es.any fun e => decide (window - many < e.rec_.at_ /\ e.rec_.at_ <= window)
theorem others_law {p : Prog} {l : List News} {d : Int} {room : Room} {window key : Int} {n : News} (h1 : askE p d l room window key = 0) (h3 : askE p d (l ++ [n]) room window key = 0)
  (h : n.src = (shD p d).src -> inWinB window (shD p d).n ((stepM l n).1 ++ (stepM l n).2) = false /\ n.do_ ≠ 3 /\ n.ver ≠ 99) :
  (ofM p d l room window key).2 = 0 /\ (ofM p d (l ++ [n]) room window key).2 = 0 /\ (ofM p d l room window key).1 = (ofM p d (l ++ [n]) room window key).1 := by
 obtain ⟨_, _, _, _, _, _, _, a8, _⟩ := askE_facts h1
 obtain ⟨_, _, b3, _, _, _, _, b8, _⟩ := askE_facts h3
 rw [a8, b8]
 refine ⟨rfl, rfl, ?_⟩
 have hg := formed_good b3 n (by simp)
 by_cases hs : n.src = (shD p d).src
 ·obtain ⟨q1, q2, q3⟩ := h hs
  refine congrArg Bnd.nb (others_out hg hs q2 q3 fun e he => ?_).symm
  rw [inWinB, List.any_eq_false] at q1
  have := q1 e (List.mem_append.2 he)
  simpa using this
 ·exact congrArg Bnd.nb (others_src hs).symm
end Go.Aft
end
section
set_option maxRecDepth 20000
namespace Go.Aft
open Go.Proofs.Tryz
theorem law_Others (p : Prog) (hs : fitP p) (l : List News) (a : Ask) (n : News) : AFun prog 8 [lv (rProg p), sl (l.map rNews), lv (rAsk a), lv (rNews n)] (.d (.k (.bool true))) := by
 have cc := cxS_ok (p := kds [4, 6, 7] [] [])
 refine AFun.bodyW (cxS_ok (p := kds [4, 6, 7] [] [])) func8 rfl call8 (by rw [ntmps8]; simp) rfl fun hf H => ?_
 have hlen : askE p a.d l a.room a.window a.key = 0 -> l.length <= 1000 := fun h => by
  obtain ⟨_, _, _, _, b5, b6, _⟩ := askE_facts h
  have := roomB_most b5; omega
 have a1 := law_asked p hs l a
 have a3 := law_asked p hs (l ++ [n]) a
 have j := fun h => law_joined l [n] ⟨h, by simp⟩
 have b1 := law_bound p hs l a
 have b2 := law_bound p hs (l ++ [n]) a
 have hk := law_known
 have hp := ref17_Plain p hs a.d
 have hst := fun h => ref05_StepOf l h n
 have hpl := @others_law p l a.d a.room a.window a.key n
 have hfa := @askE_facts p a.d l a.room a.window a.key
 generalize askE p a.d l a.room a.window a.key = e1 at hpl a1 hlen hfa
 generalize askE p a.d (l ++ [n]) a.room a.window a.key = e3 at hpl a3
 generalize ofM p a.d l a.room a.window a.key = o1 at hpl b1 hfa
 generalize ofM p a.d (l ++ [n]) a.room a.window a.key = o2 at hpl b2
 rw [List.map_append] at a3 b2 j
 obtain ⟨N, hN⟩ : ∃ N, l.map rNews ++ [n].map rNews = N := ⟨_, rfl⟩
 rw [hN] at a3 b2 j
 simp [rProg, rAsk, rRoom, rNews, rRec, dI] at a1 a3 j b1 b2 hp hst
 simp [ntmps8, results8, rProg, rAsk, rRoom, rNews, rRec, dI] at hf |-
 refine AW.seq cc ?_
 simp
 refine AW.seq cc ?_
 simp
 refine AW.draw cc [(3, .n), (10, .n), (12, .n)] (.q 1 <| .q 0 <| .q 2 <| .q 3 <| .q 4 <| .q 5 <| .q 7 <| .q 6 <| .q 8 <| .q 9 <| .q 10 <| .q 11 <| .q 12 <| .q 13 <| .q 14 <| .done) (by kernel_rfl) ?_
 simp
 refine FC.afun a1 ?_
 by_cases q1 : e1 = 0
 rotate_left
 ·simp [q1]
  refine FCg.afun (v := sl []) (fun h => by cases h) ?_
  simp
  refine FCg.afun (v := .d (.k (.bool true))) (fun h => by cases h) ?_
  simp
  refine EC.afun hk ?_
  simp
 obtain ⟨_, _, _, _, _, _, hpv, _, hwi, hn1, hn2⟩ := hfa q1
 have hwi2 : 0 <= a.window /\ a.window <= 200 := by simp [inB] at hwi; exact hwi
 simp [q1]
 refine FCg.afun (fun _ => j (hlen q1)) ?_
 simp
 refine FCg.afun (fun _ => a3) ?_
 by_cases q3 : e3 = 0
 rotate_left
 ·simp [q3]
  refine EC.afun hk ?_
  simp
 simp [q3]
 have hpl := hpl q1 q3
 rw [hpv] at hp
 generalize shD p a.d = sh at hp hpl hn1 hn2
 refine AW.seq cc ?_
 simp
 refine EC.afun hp ?_
 simp
 refine AW.join (c := cxS (kds [4, 6, 7] [] [])) (fun H' : GH => ⟨[(1, sl (l.map rNews)), (4, .ip ((rProg p).map .d) 0), (6, .ip ((rAsk a).map .d) 0), (7, .ip ((rNews n).map .d) 0)], [], H'⟩) (fun H' => (n.src = sh.src -> inWinB a.window sh.n ((stepM l n).1 ++ (stepM l n).2) = false /\ n.do_ ≠ 3 /\ n.ver ≠ 99) /\ H.next <= H'.next /\ ∀ m, m < H.next -> H'.obj m = H.obj m) ?_ ?_
 ·refine AW.ev cc ?_
  by_cases q4 : n.src = sh.src
  rotate_left
  ·simp [q4]
   exact JN.go H ⟨fun h => absurd h q4, Nat.le_refl _, fun _ _ => rfl⟩ (by simp [rProg, rAsk, rRoom, rNews, rRec, dI])
  ·simp [q4]
   have hl1 := hst (hlen q1)
   rw [q4] at hl1
   refine EC.afun hl1 ?_
   have l1 : (stepM l n).1.length <= 1 /\ (stepM l n).2.length <= 1 := by
    have h1 := oneM_len' l n.src n.id
    have h2 := oneM_len' (l ++ [n]) n.src n.id
    unfold stepM; split
    ·simp
    ·split
     ·simp
     ·exact ⟨h1, h2⟩
   obtain ⟨A, hA⟩ : ∃ A, (stepM l n).1 = A := ⟨_, rfl⟩
   obtain ⟨B, hB⟩ : ∃ B, (stepM l n).2 = B := ⟨_, rfl⟩
   rw [hA, hB] at l1 |-
   simp
   refine APK.appX tyE59 rfl tyE63 (by simp) (by simp) (.nil) (by simp [rowsOf]; rfl) (by simp) (by simp) (fun r hr => by obtain ⟨_, _, rfl⟩ := List.mem_map.1 hr; rfl) (by simp; omega) (by simp) fun y1 H2 hy1 hn2 ho2 => ?_
   simp [hy1.plain.all]
   refine APK.appX tyE59 rfl tyE63 (by simp) (by simp) hy1 (by simp [rowsOf]; rfl) (by simp) (fun r hr => by obtain ⟨_, _, rfl⟩ := List.mem_map.1 (by simpa using hr); rfl) (fun r hr => by obtain ⟨_, _, rfl⟩ := List.mem_map.1 hr; rfl) (by simp; omega) (by simp) fun y2 H3 hy2 hn3 ho3 => ?_
   simp [hy2.plain.all]
   obtain ⟨both, hbo⟩ : ∃ both, A ++ B = both := ⟨_, rfl⟩
   have hyf : fz y2 = sl (both.map rEvent) := by rw [hy2.fz, <- hbo]; simp
   have hbl : both.length <= 2 := by rw [<- hbo]; simp; omega
   rw [hbo]
   refine AW.fzT 14 ?_
   refine AW.loopS cc (fun k : Nat => ⟨[(1, sl (l.map rNews)), (4, .ip ((rProg p).map .d) 0), (6, .ip ((rAsk a).map .d) 0), (7, .ip ((rNews n).map .d) 0), (10, lvI sh.n), (14, .d (.sl (both.map rEvent))), (15, lvI k)], [], H3⟩) (fun k => both.length - k)
    (fun k => k <= both.length /\ inWinB a.window sh.n (both.take k) = false) 0 ⟨⟨Nat.zero_le _, by simp [inWinB]⟩, by simp [hyf, rProg, rAsk, rRoom, rNews, rRec, dI, S.fzT, q4]⟩ ?_
   rintro k ⟨hkl, hkI⟩
   have wm : IntKind.wrap .i64 (a.window - sh.n) = a.window - sh.n := by rw [wrap64] <;> omega
   simp [rAsk, rRoom, rNews, rRec, dI]
   refine ⟨fun h => ?_, fun h => ?_⟩
   ·simp [h, List.getElem?_eq_getElem h, rEvent, rRec, wm]
    have htk : inWinB a.window sh.n (both.take (k + 1)) = decide (a.window - sh.n < both[k].rec_.at_ /\ both[k].rec_.at_ <= a.window) := by
     rw [inWinB] at hkI |-
     rw [take_succ_get h, List.any_append, hkI]; simp
    refine ⟨fun q6 q7 => ?_, fun q6 => ?_⟩
    ·refine EC.afun hk ?_
     simp
     exact ⟨hy2.nx, hy2.ob⟩
    ·have wk : IntKind.wrap .i64 ((k : Int) + 1) = (k : Int) + 1 := by rw [wrap64] <;> omega
     refine NX.go (k + 1) (by omega) ⟨h, by rw [htk]; simpa using q6⟩ (by simp [rProg, rAsk, rRoom, rNews, rRec, dI, wk])
   ·have e : k = both.length := by omega
    subst e
    rw [List.take_length] at hkI
    simp
    by_cases q5 : n.do_ = 3
    ·simp [q5]
     refine EC.afun hk ?_
     simp
     exact ⟨hy2.nx, hy2.ob⟩
    ·by_cases q6 : n.ver = 99
     ·simp [q5, q6]
      refine EC.afun hk ?_
      simp
      exact ⟨hy2.nx, hy2.ob⟩
     ·simp [q5, q6]
      exact JN.go H3 ⟨fun _ => ⟨hkI, q5, q6⟩, hy2.nx, hy2.ob⟩ (by simp [rProg, rAsk, rRoom, rNews, rRec, dI])
 ·rintro H' ⟨hI, hx, hox⟩
  obtain ⟨r1, r2, r3⟩ := hpl hI
  obtain ⟨⟨s1, n1, l1, h1⟩, w1⟩ := o1
  obtain ⟨⟨s2, n2, l2, h2⟩, w2⟩ := o2
  simp only at r1 r2 r3
  subst r1; subst r2; cases r3
  simp [rNB, dB, dI] at b1 b2
  refine AW.seq cc ?_
  simp [rProg, rAsk, rRoom, rNews, rRec, dI]
  refine EC.afun b1 ?_
  simp
  refine AW.seq cc ?_
  simp
  refine AW.draw cc [(4, .n), (6, .n)] (.q 1 <| .q 0 <| .q 2 <| .q 3 <| .q 4 <| .q 5 <| .q 6 <| .q 7 <| .q 8 <| .q 9 <| .f <| .one 10 <| .f <| .one 11 <| .q 12 <| .done) (by kernel_rfl) ?_
  simp
  refine FC.afun (j (hlen q1)) ?_
  simp
  refine FC.afun b2 ?_
  simp
  refine AW.ev cc ?_
  simp
  refine EC.afun hk ?_
  simp
  exact ⟨hx, hox⟩
end Go.Aft
end
section
set_option maxRecDepth 20000
namespace Go.Aft
open Go.RowKit
open Go.Proofs.Tryz
section
variable {H : Type} {enc : TypeId × Value -> H} {w : World}
theorem read_slice {P : Program} {α : Type} {t e : TypeId} {r : List α -> List DV} {x1 : List α -> DV} {fit : List α -> Prop} {base : Nat} {v : Value} {d : DataW H} {p : List MemPlace} (hr : ∀ fuel, Rd enc P w t r fit fuel) (hx : ∀ x, r x = [x1 x]) (hu : P.underlying t = some (.slice e))
  (hval : Value.okWide P w .any base t v) (hd : DataW.Trod enc P w 0 (fun _ => true) true t v d p) (hw : Wt P t d) : ∃ x, fit x /\ LR (allG w) 0 noL (.d (x1 x)) v := by
 obtain ⟨a, len, cap, rfl⟩ := Go.WideShapes.okWide_slice hu hval
 obtain ⟨fuel, hf⟩ := hd
 obtain ⟨x, h1, h2⟩ := hr fuel _ _ _ hf
 refine ⟨x, h2 hw, ?_⟩
 rw [hx] at h1
 have h3 := RL_LRs (G := allG w) (nx := 0) (lm := noL) h1
 simp only [List.map_cons, List.map_nil] at h3
 unfold LRs at h3
 obtain ⟨v', vs', e, h4, _⟩ := h3
 have : v' = .slice a len cap := by
  have := congrArg List.head? e
  simpa [Value.cells] using this.symm
 rw [<- this]; exact h4
theorem rd_news (fuel : Nat) : Rd enc prog w 53 rNews (fun _ => True) fuel :=
 Rd.struct underlying53 fuel fun f hf => ((RdFs.cons (n := 7) rfl (Rd.int underlying51 f) <| RdFs.cons rfl (Rd.int underlying3 f) <| RdFs.cons rfl (Rd.int underlying3 f) <| RdFs.cons rfl (Rd.int underlying3 f) <| RdFs.cons rfl (rd_rec f) <| RdFs.nil)).conv (fun x => ⟨x.1, x.2.1, x.2.2.1, x.2.2.2.1, x.2.2.2.2.1⟩) (fun _ => rfl) (fun _ _ => trivial)
theorem rd_newsL (fuel : Nat) : Rd enc prog w 35 (fun l : List News => [.sl (l.map rNews)]) (fun l => ∀ n ∈ l, True) fuel := Rd.slice underlying35 (by decide +kernel) (fun x => by rw [show prog.cellsOf 53 = 7 by decide +kernel]; rfl) fuel fun f _ => rd_news f
theorem rd_room (fuel : Nat) : Rd enc prog w 37 rRoom (fun _ => True) fuel :=
 Rd.struct underlying37 fuel fun f hf => ((RdFs.cons (n := 3) rfl (Rd.int underlying3 f) <| RdFs.cons rfl (Rd.int underlying3 f) <| RdFs.cons rfl (Rd.int underlying3 f) <| RdFs.nil)).conv (fun x => ⟨x.1, x.2.1, x.2.2.1⟩) (fun _ => rfl) (fun _ _ => trivial)
theorem rd_ask (fuel : Nat) : Rd enc prog w 39 rAsk (fun _ => True) fuel :=
 Rd.struct underlying39 fuel fun f hf => ((RdFs.cons (n := 6) rfl (Rd.int underlying3 f) <| RdFs.cons rfl (rd_room f) <| RdFs.cons rfl (Rd.int underlying3 f) <| RdFs.cons rfl (Rd.int underlying3 f) <| RdFs.nil)).conv (fun x => ⟨x.1, x.2.1, x.2.2.1, x.2.2.2.1⟩) (fun _ => rfl) (fun _ _ => trivial)
end
end Go.Aft
end
