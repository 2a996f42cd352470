import Derived.Test.YtdhphbedajhmnaaGreatA45
import Derived.Test.YtdhphbedajhmnaaGreatA43
import Derived.Test.YtdhphbedajhmnaaGreatA40
set_option linter.all false
section
set_option maxRecDepth 20000
namespace Go.Aft
open Go.Proofs.Tryz
mutual
def okC : Calc -> Prop
 | .mk op n kids => kids.length * 40 <= 140737488351232 /\ okCs kids
def okCs : List Calc -> Prop
 | [] => True
 | c :: cs => okC c /\ okCs cs
end
mutual
def okE : Exp -> Prop
 | .mk op name n fold a0j kids => a0j.length * 40 <= 140737488351232 /\ kids.length * 88 <= 140737488351232 /\ okCs a0j /\ okEs kids
def okEs : List Exp -> Prop
 | [] => True
 | e :: es => okE e /\ okEs es
end
def okP (p : Prog) : Prop := p.srcs.length * 16 <= 140737488351232 /\ p.defs.length * 104 <= 140737488351232 /\ ∀ d ∈ p.defs, okE d.exp
mutual
theorem ref02_CopyCalc : ∀ c : Calc, okC c -> AFun prog 94 [lv (a1f c)] (lv (a1f c))
 | .mk op n kids, h => by
  rw [okC] at h
  exact ref02_CopyCalc1 op n kids h.1 (ref02_CopyCalcs kids h.2)
theorem ref02_CopyCalcs : ∀ cs : List Calc, okCs cs -> ∀ k ∈ cs, AFun prog 94 [lv (a1f k)] (lv (a1f k))
 | [], _, k, hk => by cases hk
 | c :: cs, h, k, hk => by
  rw [okCs] at h
  rcases List.mem_cons.1 hk with q | hk
  ·rw [q]; exact ref02_CopyCalc c h.1
  ·exact ref02_CopyCalcs cs h.2 k hk
end
theorem ref02_CopyExp1 (op : Int) (name : Str) (n fold : Int) (a0j : List Calc) (kids : List Exp) (hc : a0j.length * 40 <= 140737488351232) (hk : kids.length * 88 <= 140737488351232) (hcs : ∀ k ∈ a0j, AFun prog 94 [lv (a1f k)] (lv (a1f k)))
  (ih : ∀ k ∈ kids, AFun prog 56 [lv (rExp k)] (lv (rExp k))) : AFun prog 56 [lv (rExp (.mk op name n fold a0j kids))] (lv (rExp (.mk op name n fold a0j kids))) := by
 have cc := a0b (p := kds [1] [] [])
 refine AFun.body (a0b (p := kds [1] [] [])) func56 rfl call56 (by rw [ntmps56]; simp) rfl fun hf H => ?_
 simp [ntmps56, results56, a0d, Exp.op, Exp.n, Exp.kids, Exp.name, Exp.fold, Exp.a0j]
 refine AW.a1b cc (fun a : Nat × LV × GH => ⟨[(1, .ip [lvI op, .d (.k (.string name)), lvI n, lvI fold, sl (a0j.map a1f), sl (kids.map rExp)] 0), (2, .lp 2 0), (3, .lp 3 0), (4, lvI a.1)],
  [(2, [lvI 0, .d (.k (.string ⟨#[]⟩)), lvI 0, lvI 0, .d (.k (.slice none 0 0)), .d (.k (.slice none 0 0))]), (3, [lvI op, .d (.k (.string name)), lvI n, lvI fold, a.2.1, .d (.k (.slice none 0 0))])], a.2.2⟩) (fun a => a0j.length - a.1) (fun a => a.1 <= a0j.length /\ AppX 135 3 H a.2.1 ((a0j.take a.1).map a1f) a.2.2) (0, .d (.k (.slice none 0 0)), H) ⟨⟨Nat.zero_le _, .nil⟩, by simp⟩ ?_
 rintro ⟨i, x, H'⟩ ⟨hi, happ⟩
 simp only at hi happ
 simp
 refine ⟨fun h => ?_, fun h => ?_⟩
 ·refine AW.draw cc [(7, .n)] (.q 0 <| .q 2 <| .q 4 <| .q 1 <| .f <| .one 3 <| .q 5 <| .f <| .one 6 <| .q 7 <| .q 8 <| .f <| .one 9 <| .q 10 <| .f <| .one 11 <| .done) (by kernel_rfl) ?_
  simp [h, List.getElem?_eq_getElem h, a0o]
  refine FC.afun (v := lv (a1f a0j[i])) (by simpa [a0o] using hcs a0j[i] (List.getElem_mem h)) ?_
  simp [a0o]
  refine APK.appX (ys := [a1f a0j[i]]) tyE68 rfl tyE135 (by simp) (x := x) (by simp) happ (by simp [a0o, rowsOf]) (by simp) (fun r hr => by obtain ⟨_, _, rfl⟩ := List.mem_map.1 hr; simp) (by simp) (by simp; omega) (by simp) fun x' H' happ' _ _ => ?_
  rw [show (a0j.take i).map a1f ++ [a1f a0j[i]] = (a0j.take (i + 1)).map a1f by rw [<- a3a h, List.map_append]; rfl] at happ'
  simp [happ'.plain.all, happ'.only, wrap_succ (n := 9223372036854775807) (show i < 9223372036854775807 by omega)]
  exact NX.go (i + 1, x', H') (by simp only; omega) ⟨h, happ'⟩ (by simp [happ'.only])
 ·have e : i = a0j.length := by omega
  subst e
  rw [List.take_length] at happ
  simp [happ.plain.all]
  refine AW.a1b cc (fun a : Nat × LV × GH => ⟨[(1, .ip [lvI op, .d (.k (.string name)), lvI n, lvI fold, sl (a0j.map a1f), sl (kids.map rExp)] 0), (2, .lp 2 0), (3, .lp 3 0), (5, lvI a.1)],
   [(2, [lvI 0, .d (.k (.string ⟨#[]⟩)), lvI 0, lvI 0, .d (.k (.slice none 0 0)), .d (.k (.slice none 0 0))]), (3, [lvI op, .d (.k (.string name)), lvI n, lvI fold, x, a.2.1])], a.2.2⟩) (fun a => kids.length - a.1) (fun a => a.1 <= kids.length /\ AppX 105 6 H' a.2.1 ((kids.take a.1).map rExp) a.2.2) (0, .d (.k (.slice none 0 0)), H') ⟨⟨Nat.zero_le _, .nil⟩, by simp [happ.only]⟩ ?_
  rintro ⟨i, y, H2⟩ ⟨hi, hy⟩
  simp only at hi hy
  simp [happ.plain.all]
  refine ⟨fun h => ?_, fun h => ?_⟩
  ·refine AW.draw cc [(7, .n)] (.q 0 <| .q 2 <| .q 4 <| .q 1 <| .f <| .one 3 <| .q 5 <| .f <| .one 6 <| .q 7 <| .q 8 <| .f <| .one 9 <| .q 10 <| .f <| .one 11 <| .done) (by kernel_rfl) ?_
   simp [h, List.getElem?_eq_getElem h, a0d]
   refine FC.afun (v := lv (rExp kids[i])) (by simpa [a0d] using ih kids[i] (List.getElem_mem h)) ?_
   simp [a0d]
   refine APK.appX (ys := [rExp kids[i]]) tyE103 rfl tyE105 (by simp) (x := y) (by simp) hy (by simp [a0d, rowsOf]) (by simp) (fun r hr => by obtain ⟨_, _, rfl⟩ := List.mem_map.1 hr; simp) (by simp) (by simp; omega) (by simp) fun y' H3 hy' _ _ => ?_
   rw [show (kids.take i).map rExp ++ [rExp kids[i]] = (kids.take (i + 1)).map rExp by rw [<- a3a h, List.map_append]; rfl] at hy'
   simp [happ.plain.all, hy'.plain.all, hy'.only, wrap_succ (n := 9223372036854775807) (show i < 9223372036854775807 by omega)]
   exact NX.go (i + 1, y', H3) (by simp only; omega) ⟨h, hy'⟩ (by simp [happ.only, hy'.only])
  ·have e : i = kids.length := by omega
   subst e
   rw [List.take_length] at hy
   have ha2 := happ.mono hy.nx hy.ob
   simp [happ.plain.all, hy.plain.all, happ.fz, hy.fz]
   exact ⟨by rw [a0d]; rfl, ha2.nx, ha2.ob⟩
mutual
theorem ref02_CopyExp : ∀ e : Exp, okE e -> AFun prog 56 [lv (rExp e)] (lv (rExp e))
 | .mk op name n fold a0j kids, h => by
  rw [okE] at h
  exact ref02_CopyExp1 op name n fold a0j kids h.1 h.2.1 (ref02_CopyCalcs a0j h.2.2.1) (ref02_CopyExps kids h.2.2.2)
theorem ref02_CopyExps : ∀ es : List Exp, okEs es -> ∀ k ∈ es, AFun prog 56 [lv (rExp k)] (lv (rExp k))
 | [], _, k, hk => by cases hk
 | c :: cs, h, k, hk => by
  rw [okEs] at h
  rcases List.mem_cons.1 hk with q | hk
  ·rw [q]; exact ref02_CopyExp c h.1
  ·exact ref02_CopyExps cs h.2 k hk
end
end Go.Aft
end
section
set_option maxRecDepth 20000
namespace Go.Aft
open Go.Proofs.Tryz
theorem ref02_SameTexts (l : List Str) (hl : l.length <= 140737488351232) : AFun prog 57 [sl (l.map rS), sl (l.map rS)] (.d (.k (.bool true))) := by
 have cc := a0b (p := kds [] [] [])
 refine AFun.body (a0b (p := kds [] [] [])) func57 rfl call57 (by rw [ntmps57]; simp) rfl fun hf H => ?_
 simp [ntmps57, results57] at hf |-
 refine AW.a1b cc (fun i : Nat => ⟨[(0, sl (l.map rS)), (1, sl (l.map rS)), (5, lvI i)], [], H⟩) (fun i => l.length - i) (fun i => i <= l.length) 0 ⟨Nat.zero_le _, by simp⟩ ?_
 intro i hi
 simp
 intro h
 refine AW.draw cc [] (.q 0 <| .q 1 <| .q 2 <| .q 4 <| .q 5 <| .q 6 <| .q 3 <| .q 7 <| .q 8 <| .done) (by kernel_rfl) ?_
 simp [h, List.getElem?_eq_getElem h, rS]
 exact NX.go (i + 1) (by omega) h (by simp [wrap_succ (n := 9223372036854775807) (show i < 9223372036854775807 by omega)])
theorem ref02_SameCalc1 (op n : Int) (kids : List Calc) (hk : kids.length * 40 <= 140737488351232) (ih : ∀ k ∈ kids, AFun prog 95 [lv (a1f k), lv (a1f k)] (.d (.k (.bool true)))) : AFun prog 95 [lv (a1f (.mk op n kids)), lv (a1f (.mk op n kids))] (.d (.k (.bool true))) := by
 have cc := a0b (p := kds [2, 3] [] [])
 refine AFun.body (a0b (p := kds [2, 3] [] [])) func95 rfl call95 (by rw [ntmps95]; simp) rfl fun hf H => ?_
 simp [ntmps95, results95, a0o, Calc.op, Calc.n, Calc.kids] at hf |-
 refine AW.a1b cc (fun i : Nat => ⟨[(2, .ip [lvI op, lvI n, sl (kids.map a1f)] 0), (3, .ip [lvI op, lvI n, sl (kids.map a1f)] 0), (5, lvI i)], [], H⟩) (fun i => kids.length - i) (fun i => i <= kids.length) 0 ⟨Nat.zero_le _, by simp⟩ ?_
 intro i hi
 simp
 intro h
 refine AW.draw cc [(10, .n)] (.q 0 <| .q 2 <| .q 5 <| .q 7 <| .q 1 <| .q 3 <| .q 4 <| .q 6 <| .q 8 <| .q 9 <| .q 10 <| .q 11 <| .done) (by kernel_rfl) ?_
 simp [h, List.getElem?_eq_getElem h, a0o]
 refine FC.afun (v := .d (.k (.bool true))) (by simpa [a0o] using ih kids[i] (List.getElem_mem h)) ?_
 simp
 exact NX.go (i + 1) (by omega) h (by simp [wrap_succ (n := 9223372036854775807) (show i < 9223372036854775807 by omega)])
mutual
theorem ref02_SameCalc : ∀ c : Calc, okC c -> AFun prog 95 [lv (a1f c), lv (a1f c)] (.d (.k (.bool true)))
 | .mk op n kids, h => by
  rw [okC] at h
  exact ref02_SameCalc1 op n kids h.1 (ref02_SameCalcs kids h.2)
theorem ref02_SameCalcs : ∀ cs : List Calc, okCs cs -> ∀ k ∈ cs, AFun prog 95 [lv (a1f k), lv (a1f k)] (.d (.k (.bool true)))
 | [], _, k, hk => by cases hk
 | c :: cs, h, k, hk => by
  rw [okCs] at h
  rcases List.mem_cons.1 hk with q | hk
  ·rw [q]; exact ref02_SameCalc c h.1
  ·exact ref02_SameCalcs cs h.2 k hk
end
theorem ref02_SameExp1 (op : Int) (name : Str) (n fold : Int) (a0j : List Calc) (kids : List Exp) (hc : a0j.length * 40 <= 140737488351232) (hk : kids.length * 88 <= 140737488351232) (hcs : ∀ k ∈ a0j, AFun prog 95 [lv (a1f k), lv (a1f k)] (.d (.k (.bool true))))
  (ih : ∀ k ∈ kids, AFun prog 58 [lv (rExp k), lv (rExp k)] (.d (.k (.bool true)))) : AFun prog 58 [lv (rExp (.mk op name n fold a0j kids)), lv (rExp (.mk op name n fold a0j kids))] (.d (.k (.bool true))) := by
 have cc := a0b (p := kds [2, 3] [] [])
 refine AFun.body (a0b (p := kds [2, 3] [] [])) func58 rfl call58 (by rw [ntmps58]; simp) rfl fun hf H => ?_
 obtain ⟨R, hR⟩ : ∃ R, [lvI op, .d (.k (.string name)), lvI n, lvI fold, sl (a0j.map a1f), sl (kids.map rExp)] = R := ⟨_, rfl⟩
 simp [ntmps58, results58, a0d, Exp.op, Exp.n, Exp.kids, Exp.name, Exp.fold, Exp.a0j] at hf |-
 refine AW.a1b cc (fun i : Nat => ⟨[(2, .ip R 0), (3, .ip R 0), (5, lvI i)], [], H⟩) (fun i => a0j.length - i) (fun i => i <= a0j.length) 0 ⟨Nat.zero_le _, by simp [<- hR]⟩ ?_
 intro i hi
 simp [<- hR]
 refine ⟨fun h => ?_, fun h => ?_⟩
 ·refine AW.draw cc [(10, .n)] (.q 0 <| .q 2 <| .q 5 <| .q 7 <| .q 1 <| .q 3 <| .q 4 <| .q 6 <| .q 8 <| .q 9 <| .q 10 <| .q 11 <| .done) (by kernel_rfl) ?_
  simp [h, List.getElem?_eq_getElem h, a0o]
  refine FC.afun (v := .d (.k (.bool true))) (by simpa [a0o] using hcs a0j[i] (List.getElem_mem h)) ?_
  simp
  exact NX.go (i + 1) (by omega) h (by simp [<- hR, wrap_succ (n := 9223372036854775807) (show i < 9223372036854775807 by omega)])
 ·refine AW.a1b cc (fun i : Nat => ⟨[(2, .ip R 0), (3, .ip R 0), (6, lvI i)], [], H⟩) (fun i => kids.length - i) (fun i => i <= kids.length) 0 ⟨Nat.zero_le _, by simp [<- hR]⟩ ?_
  intro i hi
  simp [<- hR]
  intro h
  refine AW.draw cc [(10, .n)] (.q 0 <| .q 2 <| .q 5 <| .q 7 <| .q 1 <| .q 3 <| .q 4 <| .q 6 <| .q 8 <| .q 9 <| .q 10 <| .q 11 <| .done) (by kernel_rfl) ?_
  simp [h, List.getElem?_eq_getElem h, a0d]
  refine FC.afun (v := .d (.k (.bool true))) (by simpa [a0d] using ih kids[i] (List.getElem_mem h)) ?_
  simp
  exact NX.go (i + 1) (by omega) h (by simp [<- hR, wrap_succ (n := 9223372036854775807) (show i < 9223372036854775807 by omega)])
mutual
theorem ref02_SameExp : ∀ e : Exp, okE e -> AFun prog 58 [lv (rExp e), lv (rExp e)] (.d (.k (.bool true)))
 | .mk op name n fold a0j kids, h => by
  rw [okE] at h
  exact ref02_SameExp1 op name n fold a0j kids h.1 h.2.1 (ref02_SameCalcs a0j h.2.2.1) (ref02_SameExps kids h.2.2.2)
theorem ref02_SameExps : ∀ es : List Exp, okEs es -> ∀ k ∈ es, AFun prog 58 [lv (rExp k), lv (rExp k)] (.d (.k (.bool true)))
 | [], _, k, hk => by cases hk
 | c :: cs, h, k, hk => by
  rw [okEs] at h
  rcases List.mem_cons.1 hk with q | hk
  ·rw [q]; exact ref02_SameExp c h.1
  ·exact ref02_SameExps cs h.2 k hk
end
theorem ref02_Same (p : Prog) (hp : okP p) : AFun prog 23 [lv (a0k p), lv (a0k p)] (.d (.k (.bool true))) := by
 obtain ⟨hp1, hp2, hp3⟩ := hp
 have cc := a0b (p := kds [2, 3] [] [])
 refine AFun.body (a0b (p := kds [2, 3] [] [])) func23 rfl call23 (by rw [ntmps23]; simp) rfl fun hf H => ?_
 have ht := ref02_SameTexts p.srcs (by omega)
 simp at ht
 simp [ntmps23, results23, a0k] at hf |-
 refine EC.afun ht ?_
 simp
 refine AW.a1b cc (fun i : Nat => ⟨[(2, .ip ((a0k p).map .d) 0), (3, .ip ((a0k p).map .d) 0), (5, lvI i)], [], H⟩) (fun i => p.defs.length - i) (fun i => i <= p.defs.length) 0 ⟨Nat.zero_le _, by simp [a0k]⟩ ?_
 intro i hi
 simp [a0k]
 intro h
 have he := ref02_SameExp p.defs[i].exp (hp3 _ (List.getElem_mem h))
 simp [a0d] at he
 refine AW.draw cc [(26, .n)] (.q 0 <| .q 2 <| .q 6 <| .q 8 <| .q 1 <| .q 3 <| .q 4 <| .q 5 <| .q 7 <| .q 9 <| .q 10 <| .q 11 <| .q 12 <| .q 13 <| .q 14 <| .q 16 <| .q 20 <| .q 22 <| .q 15 <| .q 17 <| .q 18 <| .q 19 <| .q 21 <| .q 23 <| .q 24 <| .q 25 <| .q 26 <| .q 27 <| .q 28 <| .done) (by kernel_rfl) ?_
 simp [h, List.getElem?_eq_getElem h, rDef, a0d]
 refine FCg.afun (fun _ => he) ?_
 simp
 exact NX.go (i + 1) (by omega) h (by simp [a0k, wrap_succ (n := 9223372036854775807) (show i < 9223372036854775807 by omega)])
theorem ref05_SameNews (l : List News) (hl : l.length * 56 <= 140737488351232) : AFun prog 24 [sl (l.map a0l), sl (l.map a0l)] (.d (.k (.bool true))) := by
 have cc := a1y (p := kds [] [] [])
 refine AFun.body (a1y (p := kds [] [] [])) func24 rfl call24 (by rw [ntmps24]; simp) rfl fun hf H => ?_
 simp [ntmps24, results24] at hf |-
 refine AW.a1b cc (fun i : Nat => ⟨[(0, sl (l.map a0l)), (1, sl (l.map a0l)), (5, lvI i)], [], H⟩) (fun i => l.length - i) (fun i => i <= l.length) 0 ⟨Nat.zero_le _, by simp⟩ ?_
 intro i hi
 simp
 intro h
 refine AW.draw cc [] (.q 0 <| .q 1 <| .q 2 <| .q 4 <| .q 5 <| .q 6 <| .q 3 <| .q 7 <| .q 8 <| .done) (by kernel_rfl) ?_
 simp [h, List.getElem?_eq_getElem h, a0l, rRec]
 exact NX.go (i + 1) (by omega) h (by simp [wrap_succ (n := 9223372036854775807) (show i < 9223372036854775807 by omega)])
theorem ref02_Copy (p : Prog) (hp : okP p) : AFun prog 20 [lv (a0k p)] (lv (a0k p)) := by
 obtain ⟨hp1, hp2, hp3⟩ := hp
 have cc := a0b (p := kds [1] [] [])
 refine AFun.a4u (a0b (p := kds [1] [] [])) func20 rfl call20 (by rw [ntmps20]; simp) rfl fun hf H => ?_
 simp [ntmps20, results20, a0k] at hf |-
 refine AW.seq cc ?_
 simp
 refine AW.seq cc ?_
 simp
 refine APK.appX (ys := p.srcs.map rS) tyE22 rfl tyE9 (by simp) (by simp) (.nil (H := H)) (by simp [rowsOf]) (by simp) (by simp) (fun r hr => by obtain ⟨_, _, rfl⟩ := List.mem_map.1 hr; rfl) (by simp; omega) (by simp) fun x Ha hx hn1 ho1 => ?_
 simp only [List.nil_append] at hx
 simp [hx.plain.all]
 refine AW.seq cc ?_
 simp
 refine AW.a1b cc (fun a : Nat × LV × GH => ⟨[(1, .ip ((a0k p).map .d) 0), (2, .lp 2 0), (3, .lp 3 0), (4, lvI a.1)], [(2, [.d (.k (.slice none 0 0)), .d (.k (.slice none 0 0))]), (3, [x, a.2.1])], a.2.2⟩) (fun a => p.defs.length - a.1)
  (fun a => a.1 <= p.defs.length /\ AppX 107 7 Ha a.2.1 ((p.defs.take a.1).map rDef) a.2.2) (0, .d (.k (.slice none 0 0)), Ha) ⟨⟨Nat.zero_le _, by simpa using AppX.nil⟩, by simp [a0k, hx.only]⟩ ?_
 rintro ⟨i, y, H2⟩ ⟨hi, hy⟩
 simp only at hi hy
 simp [a0k]
 refine ⟨fun h => ?_, fun h => ?_⟩
 ·have hce := ref02_CopyExp p.defs[i].exp (hp3 _ (List.getElem_mem h))
  simp [a0d] at hce
  refine AW.draw cc [(3, .n), (7, .n), (9, .n), (13, .n), (14, .n)] (.q 0 <| .q 2 <| .q 3 <| .q 4 <| .q 5 <| .q 6 <| .q 7 <| .q 8 <| .q 9 <| .q 10 <| .q 11 <| .q 12 <| .q 13 <| .q 14 <| .q 15 <| .q 16 <| .q 1 <| .f <| .one 17 <| .q 18 <| .f <| .one 19 <| .done) (by kernel_rfl) ?_
  simp [h, List.getElem?_eq_getElem h, rDef, a0d]
  refine FC.afun hce ?_
  simp [a0d]
  refine APK.appX (ys := [rDef p.defs[i]]) tyE23 rfl tyE107 (by simp) (x := y) (by simp [hy.plain.all]) hy (by simp [rowsOf, rDef, a0d]) (by simp) (fun r hr => by obtain ⟨_, _, rfl⟩ := List.mem_map.1 hr; simp) (by simp) (by simp; omega) (by simp) fun y' H3 h3 n3 f3 => ?_
  rw [show (p.defs.take i).map rDef ++ [rDef p.defs[i]] = (p.defs.take (i + 1)).map rDef by rw [<- a3a h, List.map_append]; rfl] at h3
  simp [hx.plain.all, h3.plain.all, h3.nb, wrap_succ (n := 9223372036854775807) (show i < 9223372036854775807 by omega)]
  exact NX.go (i + 1, y', H3) (by simp only; omega) ⟨h, h3⟩ (by simp [a0k, hx.only, h3.only])
 ·have e : i = p.defs.length := by omega
  subst e
  rw [List.take_length] at hy
  refine AW.ev cc ?_
  simp [hx.plain.all, hy.plain.all, hx.fz, hy.fz]
  exact ⟨rfl, Nat.le_trans hx.nx hy.nx, fun m hm => by rw [hy.ob m (Nat.lt_of_lt_of_le hm hx.nx), hx.ob m hm]⟩
end Go.Aft
end
section
set_option maxRecDepth 20000
namespace Go.Aft
open Go.Proofs.Tryz
end Go.Aft
end
section
set_option maxRecDepth 20000
namespace Go.Aft
open Go.Proofs.Tryz
theorem ref17_AskedC (p : Prog) (hs : fitP p) (d : Int) (l : List News) (room : Room) (window key : Int) (h0 : askE p d l room window key = 0) :
  AFun prog 33 [lv (a0k p), lvI d, sl (l.map a0l), lv (a0z room), lvI window, lvI key] (.tup [caseL (shD p d) (a1d l (shD p d).src) window key, lvI 0]) := by
 intro H
 have cc := a0b (p := kds [6, 9] [] [])
 refine a0i.a2p (a0b (p := kds [6, 9] [] [])) func33 rfl call33 (by rw [ntmps33]; simp) rfl fun hf hw => ?_
 obtain ⟨f1, f2, f3, f4, f5, f6, _, _, f9, f10, f11⟩ := askE_facts h0
 obtain ⟨g1, g2, _⟩ := askE_zero h0
 have hk1 : valB key = true := by simp only [askedB, Bool.and_eq_true] at g1; exact g1.2
 have hkept : keptB l p.srcs.length = true := by rw [keptB, f3]; simp [f4]
 have hd := ref02_Def p hs d
 have hk := ref17_Kept l p.srcs.length
 have hr := ref17_Room room
 have hi1 := ref17_in key (-1000000000) 1000000000
 have hi2 := ref17_in window 0 200
 rw [show inB key (-1000000000) 1000000000 = true from hk1] at hi1
 rw [f9] at hi2
 rw [hkept] at hk
 rw [f5] at hr
 simp [a0k, a0z, f1] at hd hk hr hi1 hi2
 simp [ntmps33, results33, a0k, a0z] at hf |-
 have hdl : d.toNat < p.defs.length := by have := f1.2; omega
 have hgd : p.defs.getD d.toNat default = p.defs[d.toNat] := by simp [List.getD, List.getElem?_eq_getElem hdl]
 have hs2 := ref17_plainOf p d.toNat hdl fun h8 => by
  obtain ⟨k, hk, hw, _⟩ := a4s f1.1 hdl h8; exact ⟨k, [], hk, hw⟩
 rw [show ((d.toNat : Nat) : Int) = d by have := f1.2; omega] at hs2
 unfold shD
 unfold shD at f10 f11
 rw [hgd] at f2 f10 f11 g2 |-
 have hpl := a5d f1.1 hdl f2
 generalize a0q p p.defs[d.toNat].exp = y at f2 f10 f11 g2 hpl hs2 |-
 obtain ⟨sh, b⟩ := y
 simp only at f2
 subst f2
 dsimp only at f10 f11 hpl |-
 have g3 : (window + 1).tmod sh.n = 0 /\ ¬ 60 < (l.length : Int) + room.most := by
  unfold lookE at g2
  rw [if_neg (by simp)] at g2
  split at g2
  ·cases g2
  ·rename_i q
   split at g2
   ·cases g2
   ·rename_i q2
    rw [f9] at q
    exact ⟨by simpa using q, q2⟩
 simp [a0k, a0e] at hs2
 refine AW.seq cc ?_
 simp
 refine AW.seq cc ?_
 simp
 refine EC.afun hd ?_
 simp
 refine EC.afun hk ?_
 simp
 refine EC.afun hr ?_
 simp
 refine EC.afun hi1 ?_
 simp
 refine AW.seq cc ?_
 simp
 refine EC.afun hs2 ?_
 simp
 refine AW.seq cc ?_
 simp
 have hg := a3x (l := l) (srcs := p.srcs.length) f3
 have hfm := f3
 simp only [a1e, a3f, Bool.and_eq_true, decide_eq_true_eq] at hfm
 have hs4 : (1 : Int) <= p.srcs.length /\ (p.srcs.length : Int) <= 4 := by have := hfm.1.1.1; simp [inB] at this; exact this
 have hmk := ref05_MarksOf l p.srcs.length hs4 hg
 have hw1 : 0 <= window /\ window <= 200 := by simp [inB] at f9; exact f9
 have hww : IntKind.wrap .i64 (window + 1) = window + 1 := by rw [wrap64] <;> omega
 have hn0 : ¬ sh.n = 0 := by omega
 refine AW.seq cc ?_
 simp
 refine EC.afun hi2 ?_
 simp [hww, hn0, g3.1]
 have hm6 := roomB_most f5
 have hll := hfm.1.1.2
 have hlw : IntKind.wrap .i64 ((l.length : Int) + room.most) = (l.length : Int) + room.most := by rw [wrap64] <;> omega
 refine AW.seq cc ?_
 simp [hlw, g3.2]
 obtain ⟨ms, hms⟩ : ∃ ms, List.map rI (List.map (fun k : Nat => a1d l (k : Nat)) (List.range ((p.srcs.length : Int)).toNat)) = ms := ⟨_, rfl⟩
 have hsn : sh.src.toNat < p.srcs.length := by omega
 have hmg : ms[sh.src.toNat]? = some (rI (a1d l sh.src)) := by
  rw [<- hms]
  have e : ((sh.src.toNat : Nat) : Int) = sh.src := by omega
  simp [hsn, e]
 have hml : ms.length = p.srcs.length := by rw [<- hms]; simp
 rw [hms] at hmk
 simp at hmk
 refine AW.seq cc ?_
 refine AW.draw cc [(5, .n)] (.q 1 <| .q 2 <| .q 6 <| .q 10 <| .q 11 <| .q 0 <| .q 3 <| .q 4 <| .q 5 <| .q 7 <| .q 8 <| .q 9 <| .q 12 <| .f <| .one 13 <| .q 14 <| .done) (by kernel_rfl) ?_
 simp
 refine FC.afun hmk ?_
 have hm1 : ∀ hh : sh.src.toNat < ms.length, ms[sh.src.toNat]'hh = rI (a1d l sh.src) := fun hh => by
  rw [List.getElem?_eq_getElem hh] at hmg; exact Option.some.inj hmg
 simp [hm1, hml, hsn, rI]
 refine ⟨⟨by omega, by omega⟩, AW.ev cc ?_⟩
 simp
 exact fun hz => ⟨hz.drop (Nat.le_refl _), rfl⟩
theorem ref17_Of (p : Prog) (hs : fitP p) (d : Int) (l : List News) (room : Room) (window key : Int) :
  AFun prog 22 [lv (a0k p), lvI d, sl (l.map a0l), lv (a0z room), lvI window, lvI key] (.tup [lv (rNB (ofM p d l room window key).1), lvI (ofM p d l room window key).2]) := by
 intro H
 have cc := a0b (p := kds [6, 9] [] [])
 refine a0i.a2p (a0b (p := kds [6, 9] [] [])) func22 rfl call22 (by rw [ntmps22]; simp) rfl fun hf hw => ?_
 by_cases h0 : askE p d l room window key = 0
 ·have hA := ref17_AskedC p hs d l room window key h0
  obtain ⟨f1, f2, f3, f4, f5, f6, _, f8, f9, f10, f11⟩ := askE_facts h0
  obtain ⟨g1, _⟩ := askE_zero h0
  have hk1 : valB key = true := by simp only [askedB, Bool.and_eq_true] at g1; exact g1.2
  have hdl : d.toNat < p.defs.length := by have := f1.2; omega
  have hgd : p.defs.getD d.toNat default = p.defs[d.toNat] := by simp [List.getD, List.getElem?_eq_getElem hdl]
  have hw1 : 0 <= window /\ window <= 200 := by simp [inB] at f9; exact f9
  have hB := ref17_Bound (shD p d) window key l p.srcs.length room f3 hw1 ⟨f10, f11⟩ (by
   unfold shD; rw [hgd] at f2 |-
   have := a5d f1.1 hdl f2; omega) (by
   unfold shD; rw [hgd] at f2 |-
   exact formed_terms f1.1 hdl f2) hk1 f5
  rw [f8]
  generalize (bndM l (shD p d) room window key).nb = R at hB |-
  simp [a0k, caseL, a0e, a0z, rNB, dB, dI] at hA hB
  simp [ntmps22, results22, a0k, a0z, rNB, dB, dI] at hf |-
  refine AW.seq cc ?_
  simp
  refine AW.seq cc ?_
  simp
  refine EC.afun hA ?_
  simp
  refine AW.seq cc ?_
  simp
  refine AW.ev cc ?_
  simp
  refine EC.afun hB ?_
  simp
  exact fun hz => ⟨hz.drop (Nat.le_refl _), rfl⟩
 ·have hA := ref17_Asked p hs d l room window key H
  have hof : ofM p d l room window key = (nb0, askE p d l room window key) := by
   rw [askE] at h0 |-
   rw [ofM]
   split
   ·rename_i q
    rw [if_pos q] at h0
    rw [if_neg h0]
   ·rfl
  rw [hof]
  generalize askE p d l room window key = e at h0 hA |-
  simp [a0k, a0z] at hA
  simp [ntmps22, results22, a0k, a0z, rNB, dB, dI, nb0] at hf |-
  refine AW.seq cc ?_
  simp
  refine AW.seq cc ?_
  simp
  refine EC.of hA (fun v H2 hR => ?_) (fun v H2 hR => ?_)
  rotate_left
  ·obtain ⟨⟨_, _, _, _, _, _, _, q⟩, _⟩ := hR; cases q
  obtain ⟨⟨x, y, z, m, u, k, t, q⟩, hH⟩ := hR
  cases q
  rw [hH]
  simp
  refine AW.seq cc ?_
  simp [h0]
  exact fun hz => ⟨hz.drop (Nat.le_refl _), rfl⟩
theorem law_Bounds (p : Prog) (hs : fitP p /\ okP p) (l : List News) (hl : l.length * 56 <= 140737488351232) (a : Ask) : AFun prog 4 [lv (a0k p), sl (l.map a0l), lv (rAsk a)] (.d (.k (.bool true))) := by
 have cc := a1y (p := kds [3, 5] [] [])
 refine AFun.a4u (a1y (p := kds [3, 5] [] [])) func4 rfl call4 (by rw [ntmps4]; simp) rfl fun hf H => ?_
 have hc := ref02_Copy p hs.2
 have hb := law_bound p hs.1 l a
 have ho := ref17_Of p hs.1 a.d l a.room a.window a.key
 have h23 := ref02_Same p hs.2
 have h24 := ref05_SameNews l hl
 have hk := law_known
 generalize ofM p a.d l a.room a.window a.key = o at hb ho
 obtain ⟨⟨s1, n1, l1, h1⟩, e1⟩ := o
 simp [a0k, rAsk, a0z, rNB, dB, dI] at hc hb ho h23 h24
 simp [ntmps4, results4, a0k, rAsk, a0z, dI] at hf |-
 refine AW.seq cc ?_
 simp
 refine AW.seq cc ?_
 simp
 refine EC.afun hc ?_
 simp
 refine APK.appX (ys := l.map a0l) tyE35 rfl tyE53 (by simp) (by simp) (.nil (H := H)) (by simp [rowsOf]) (by simp) (by simp) (fun r hr => by obtain ⟨_, _, rfl⟩ := List.mem_map.1 hr; rfl) (by simp; omega) (by simp) fun x Ha hx hn1 ho1 => ?_
 simp only [List.nil_append] at hx
 simp [hx.plain.all]
 refine AW.fzT 8 ?_
 refine AW.seq cc ?_
 simp [hx.fz]
 refine EC.afun hb ?_
 simp
 refine AW.seq cc ?_
 simp
 refine EC.afun ho ?_
 simp
 refine AW.ev cc ?_
 simp [S.fzT, hx.fz]
 refine EC.afun h23 ?_
 simp [S.fzT, hx.fz]
 refine EC.afun h24 ?_
 simp
 refine EC.afun hk ?_
 simp
 exact ⟨hx.nx, hx.ob⟩
end Go.Aft
end
section
set_option maxRecDepth 20000
namespace Go.Aft
open Go.RowKit
open Go.Proofs.Tryz
section
variable {H : Type} {enc : TypeId × Value -> H} {w : World}
theorem read_slice {P : Program} {α : Type} {t e : TypeId} {r : List α -> List DV} {x1 : List α -> DV} {fit : List α -> Prop} {base : Nat} {v : Value} {d : DataW H} {p : List MemPlace} (hr : ∀ fuel, Rd enc P w t r fit fuel) (hx : ∀ x, r x = [x1 x]) (hu : P.underlying t = some (.slice e))
  (hval : Value.okWide P w .any base t v) (hd : DataW.Trod enc P w 0 (fun _ => true) true t v d p) (hw : Wt P t d) : ∃ x, fit x /\ LR (allG w) 0 noL (.d (x1 x)) v := by
 obtain ⟨a, len, cap, rfl⟩ := Go.WideShapes.okWide_slice hu hval
 obtain ⟨fuel, hf⟩ := hd
 obtain ⟨x, h1, h2⟩ := hr fuel _ _ _ hf
 refine ⟨x, h2 hw, ?_⟩
 rw [hx] at h1
 have h3 := RL_LRs (G := allG w) (nx := 0) (lm := noL) h1
 simp only [List.map_cons, List.map_nil] at h3
 unfold LRs at h3
 obtain ⟨v', vs', e, h4, _⟩ := h3
 have : v' = .slice a len cap := by
  have := congrArg List.head? e
  simpa [Value.cells] using this.symm
 rw [<- this]; exact h4
theorem rd_news (fuel : Nat) : Rd enc prog w 53 a0l (fun _ => True) fuel :=
 Rd.struct underlying53 fuel fun f hf => ((RdFs.cons (n := 7) rfl (Rd.int underlying51 f) <| RdFs.cons rfl (Rd.int underlying3 f) <| RdFs.cons rfl (Rd.int underlying3 f) <| RdFs.cons rfl (Rd.int underlying3 f) <| RdFs.cons rfl (rd_rec f) <| RdFs.nil)).conv (fun x => ⟨x.1, x.2.1, x.2.2.1, x.2.2.2.1, x.2.2.2.2.1⟩) (fun _ => rfl) (fun _ _ => trivial)
theorem rd_room (fuel : Nat) : Rd enc prog w 37 a0z (fun _ => True) fuel :=
 Rd.struct underlying37 fuel fun f hf => ((RdFs.cons (n := 3) rfl (Rd.int underlying3 f) <| RdFs.cons rfl (Rd.int underlying3 f) <| RdFs.cons rfl (Rd.int underlying3 f) <| RdFs.nil)).conv (fun x => ⟨x.1, x.2.1, x.2.2.1⟩) (fun _ => rfl) (fun _ _ => trivial)
theorem rd_ask (fuel : Nat) : Rd enc prog w 39 rAsk (fun _ => True) fuel :=
 Rd.struct underlying39 fuel fun f hf => ((RdFs.cons (n := 6) rfl (Rd.int underlying3 f) <| RdFs.cons rfl (rd_room f) <| RdFs.cons rfl (Rd.int underlying3 f) <| RdFs.cons rfl (Rd.int underlying3 f) <| RdFs.nil)).conv (fun x => ⟨x.1, x.2.1, x.2.2.1, x.2.2.2.1⟩) (fun _ => rfl) (fun _ _ => trivial)
end
end Go.Aft
end
section
set_option maxRecDepth 20000
namespace Go.Aft
open Go.RowKit
open Go.Proofs.Tryz
theorem okCs_of : ∀ {cs : List Calc}, (∀ c ∈ cs, okC c) -> okCs cs
 | [], _ => trivial
 | c :: cs, h => ⟨h c (by simp), okCs_of fun x hx => h x (by simp [hx])⟩
theorem okEs_of : ∀ {cs : List Exp}, (∀ c ∈ cs, okE c) -> okEs cs
 | [], _ => trivial
 | c :: cs, h => ⟨h c (by simp), okEs_of fun x hx => h x (by simp [hx])⟩
section
variable {H : Type} {enc : TypeId × Value -> H} {w : World}
theorem rd_calcL : ∀ fuel, Rd enc prog w 135 a1f okC fuel := fun fuel => by
 induction fuel using Nat.strongRecOn with
 | _ fuel ih =>
  refine Rd.struct underlying135 fuel fun f hf => ?_
  refine (RdFs.cons (n := 3) rfl (Rd.int underlying133 f) <| RdFs.cons rfl (Rd.int underlying3 f) <| RdFs.cons rfl (Rd.sliceL (r := a1f) (fit := okC) underlying68 (by decide +kernel) (fun x => ?_) f fun g hg => ih g (by omega)) <| RdFs.nil).conv (fun x => .mk x.1 x.2.1 x.2.2.1) (fun x => ?_) (fun x h => ?_)
  ·rw [rCalc_len]; decide +kernel
  ·rw [a1f, rCalcs_map]; rfl
  ·rw [okC]
   have := h.2.2.1.1
   rw [show prog.bytesOf 135 = 40 by decide +kernel] at this
   exact ⟨this, okCs_of h.2.2.1.2⟩
theorem rd_expL : ∀ fuel, Rd enc prog w 105 rExp okE fuel := fun fuel => by
 induction fuel using Nat.strongRecOn with
 | _ fuel ih =>
  refine Rd.struct underlying105 fuel fun f hf => ?_
  refine (RdFs.cons (n := 6) rfl (Rd.int underlying102 f) <| RdFs.cons rfl (Rd.str underlying9 f) <| RdFs.cons rfl (Rd.int underlying3 f) <| RdFs.cons rfl (Rd.int underlying58 f) <| RdFs.cons rfl (Rd.sliceL (r := a1f) (fit := okC) underlying68 (by decide +kernel) (fun x => ?_) f fun g hg => rd_calcL g) <| RdFs.cons rfl (Rd.sliceL (r := rExp) (fit := okE) underlying103 (by decide +kernel) (fun x => ?_) f fun g hg => ih g (by omega)) <| RdFs.nil).conv (fun x => .mk x.1 x.2.1 x.2.2.1 x.2.2.2.1 x.2.2.2.2.1 x.2.2.2.2.2.1) (fun x => ?_) (fun x h => ?_)
  ·rw [rCalc_len]; decide +kernel
  ·rw [rExp_len]; decide +kernel
  ·rw [rExp, rCalcs_map, rExps_map]; rfl
  ·rw [okE]
   have h1 := h.2.2.2.2.1
   have h2 := h.2.2.2.2.2.1
   rw [show prog.bytesOf 135 = 40 by decide +kernel] at h1
   rw [show prog.bytesOf 105 = 88 by decide +kernel] at h2
   exact ⟨h1.1, h2.1, okCs_of h1.2, okEs_of h2.2⟩
theorem rd_defL (fuel : Nat) : Rd enc prog w 107 rDef (fun d => a4y d.name /\ okE d.exp) fuel :=
 Rd.struct underlying107 fuel fun f hf => (RdFs.cons (n := 7) rfl (Rd.str underlying9 f) <| RdFs.cons rfl (rd_expL f) <| RdFs.nil).conv (fun x => ⟨x.1, x.2.1⟩) (fun x => by simp [rDef]) (fun x h => ⟨h.1, h.2.1⟩)
theorem rd_progL (fuel : Nat) : Rd enc prog w 25 a0k (fun p => fitP p /\ okP p) fuel :=
 Rd.struct underlying25 fuel fun f hf => (RdFs.cons (n := 2) rfl (Rd.sliceL (r := rS) (fit := a4y) underlying22 (by decide +kernel) (fun x => by rw [rS, show prog.cellsOf 9 = 1 by decide +kernel]; rfl) f fun g hg => Rd.str underlying9 g) <| RdFs.cons rfl (Rd.sliceL (r := rDef) (fit := fun d => a4y d.name /\ okE d.exp) underlying23 (by decide +kernel) (fun x => by rw [rDef_len]; decide +kernel) f fun g hg => rd_defL g) <| RdFs.nil).conv (fun x => ⟨x.1, x.2.1⟩) (fun x => rfl) (fun x h => ⟨fun s hs => by
  rcases List.mem_append.1 hs with q | q
  ·exact h.1.2 s q
  ·obtain ⟨d, hd, rfl⟩ := List.mem_map.1 q
   exact (h.2.1.2 d hd).1, by
  have h1 := h.1.1
  have h2 := h.2.1.1
  rw [show prog.bytesOf 9 = 16 by decide +kernel] at h1
  rw [show prog.bytesOf 107 = 104 by decide +kernel] at h2
  exact ⟨h1, h2, fun d hd => (h.2.1.2 d hd).2⟩⟩)
theorem rd_newsLL (fuel : Nat) : Rd enc prog w 35 (fun l : List News => [.sl (l.map a0l)]) (fun l => l.length * 56 <= 140737488351232) fuel := (Rd.sliceL (r := a0l) (fit := fun _ => True) underlying35 (by decide +kernel) (fun x => by rw [show prog.cellsOf 53 = 7 by decide +kernel]; rfl) fuel fun f _ => rd_news f).map id (fun _ => rfl) (fun l h => by
 have := h.1
 rw [show prog.bytesOf 53 = 56 by decide +kernel] at this
 exact this)
end
end Go.Aft
end
