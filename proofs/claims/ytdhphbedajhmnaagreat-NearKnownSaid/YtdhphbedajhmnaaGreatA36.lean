import Derived.Test.YtdhphbedajhmnaaGreatA35
set_option linter.unusedVariables false
set_option linter.unusedSimpArgs false
set_option linter.deprecated false
section
set_option maxRecDepth 20000
namespace Go.Aft
open Go.Proofs.Tryz
def foldF (fold : Int) : FuncId := if fold = 1 then 149 else if fold = 2 then 150 else if fold = 3 then 151 else 152
def foldOf (fold : Int) (l : List Int) : Int := if fold = 1 then l.length else if fold = 2 then clampM (sumI l) else if fold = 3 then MinL l else MaxL l
theorem fold_call (fold : Int) (h1 : 1 ≤ fold ∧ fold ≤ 4) (l : List Int) (hl : 0 < l.length) (h66 : l.length ≤ 66) (hm : ∀ n ∈ l, inMost n) : AFun prog (foldF fold) [sl (l.map rI)] (lvI (foldOf fold l)) := by
  unfold foldF foldOf
  split
  · exact near_folds1 l
  · split
    · exact near_folds2 l (by omega) hm
    · split
      · exact slices_Min l hl
      · exact slices_Max l hl
theorem scene_waysF (n : Nat) (H : GH) (hn : n < H.next) : ECall prog 104 [.gp n 0] H fun ce H' => ce = .ret (.fn (.func 153) [] [.ip [.gp n 0] 0]) ∧ H' = H := by
  refine ECall.bodyN (cxK_ok (p := kds [1] [] [])) func104 rfl call104 (by rw [ntmps104]; simp) rfl fun _ _ => ?_
  simp [ntmps104, results104, hn, LV.nb, nbs]
  exact fun hz => hz.drop (Nat.le_refl _)
theorem wM_mem {can : Bool} {g t : Nat} {w : Way} : ∀ {m c : Nat}, w ∈ wM can g t m c ↔ w.gone = g ∧ w.turned = t ∧ m ≤ w.more ∧ w.more < m + c ∧ (can = true ∨ t + w.more = 0)
  | m, 0 => by simp [wM]; intros; omega
  | m, c + 1 => by
    rw [wM, List.mem_append, wM_mem (m := m + 1) (c := c)]
    constructor
    · rintro (h | ⟨h1, h2, h3, h4, h5⟩)
      · split at h
        · rename_i hc
          simp at h; subst h
          exact ⟨rfl, rfl, Nat.le_refl _, by simp only; omega, hc⟩
        · simp at h
      · exact ⟨h1, h2, by omega, by omega, h5⟩
    · rintro ⟨h1, h2, h3, h4, h5⟩
      by_cases e : w.more = m
      · left
        rw [if_pos (by rw [← e]; exact h5)]
        obtain ⟨a, b, d⟩ := w
        simp only at h1 h2 e
        simp [h1, h2, e]
      · right; exact ⟨h1, h2, by omega, by omega, h5⟩
theorem wT_mem {P : Nat} {can : Bool} {g : Nat} {w : Way} : ∀ {t c : Nat}, w ∈ wT P can g t c ↔ w.gone = g ∧ t ≤ w.turned ∧ w.turned < t + c ∧ w.more < P + 1 - g - w.turned ∧ (can = true ∨ w.turned + w.more = 0)
  | t, 0 => by simp [wT]; intros; omega
  | t, c + 1 => by
    rw [wT, List.mem_append, wT_mem (t := t + 1) (c := c), wM_mem]
    constructor
    · rintro (⟨h1, h2, h3, h4, h5⟩ | ⟨h1, h2, h3, h4, h5⟩)
      · subst h2; exact ⟨h1, Nat.le_refl _, by omega, by omega, h5⟩
      · exact ⟨h1, by omega, by omega, h4, h5⟩
    · rintro ⟨h1, h2, h3, h4, h5⟩
      by_cases e : w.turned = t
      · left; subst e; exact ⟨h1, rfl, Nat.zero_le _, by omega, h5⟩
      · right; exact ⟨h1, by omega, by omega, h4, h5⟩
theorem wG_mem {P mn : Nat} {can : Bool} {w : Way} : ∀ {g c : Nat}, w ∈ wG P mn can g c ↔ g ≤ w.gone ∧ w.gone < g + c ∧ w.turned < mn + 1 - w.gone ∧ w.more < P + 1 - w.gone - w.turned ∧ (can = true ∨ w.turned + w.more = 0)
  | g, 0 => by simp [wG]; intros; omega
  | g, c + 1 => by
    rw [wG, List.mem_append, wG_mem (g := g + 1) (c := c), wT_mem]
    constructor
    · rintro (⟨h1, h2, h3, h4, h5⟩ | ⟨h1, h2, h3, h4, h5⟩)
      · subst h1; exact ⟨Nat.le_refl _, by omega, by omega, h4, h5⟩
      · exact ⟨by omega, by omega, h3, h4, h5⟩
    · rintro ⟨h1, h2, h3, h4, h5⟩
      by_cases e : w.gone = g
      · left; subst e; exact ⟨rfl, Nat.zero_le _, by omega, h4, h5⟩
      · right; exact ⟨by omega, by omega, h3, h4, h5⟩
theorem waysM_mem {P mn : Nat} {can : Bool} {w : Way} : w ∈ waysM P mn can ↔ w.gone + w.turned ≤ mn ∧ w.gone + w.turned + w.more ≤ P ∧ (can = true ∨ w.turned + w.more = 0) ∨ w.gone + w.turned ≤ mn ∧ P < w.gone + w.turned ∧ False := by
  rw [waysM, wG_mem]
  constructor
  · rintro ⟨h1, h2, h3, h4, h5⟩
    exact .inl ⟨by omega, by omega, h5⟩
  · rintro (⟨h1, h2, h3⟩ | ⟨_, _, h⟩)
    · exact ⟨by omega, by omega, by omega, by omega, h3⟩
    · exact h.elim
theorem bndO_nb (N : Nat) (b : Bnd) : (bndO b).nb N := by
  simp only [bndO, GO.nb]
  exact (nbs_map N _).mpr trivial
def b0 : Bnd := ⟨⟨false, false, 0, 0⟩, ⟨0, 0, 0⟩, ⟨0, 0, 0⟩, ⟨0, 0, 0⟩⟩
def stepB (s : Scene) (F : List Int) (L : List Loose) (b : Bnd) (w : Way) : Bnd :=
  if 0 < (valsM F L w false (sRec s false)).length then takeM b w (foldOf s.sh.fold (valsM F L w false (sRec s false))) (foldOf s.sh.fold (valsM F L w true (sRec s true)))
  else if b.nb.none = false then { b with nb := { b.nb with none := true }, wn := w } else b
def boundM (s : Scene) (F : List Int) (L : List Loose) (P : Nat) : Bnd := (waysM P (min P L.length) s.has).foldl (stepB s F L) b0
theorem scene_bound (s : Scene) (F : List Int) (L : List Loose) (hF : s.vals = sl (F.map rI)) (hL : s.loose = sl (L.map rLoose)) (h60 : F.length + L.length ≤ 60) (P : Nat) (hP : s.room.most = P) (hP6 : P ≤ 6) (hfo : 1 ≤ s.sh.fold ∧ s.sh.fold ≤ 4)
    (hmF : ∀ x ∈ F, inMost x) (hmL : ∀ x ∈ L, inMost x.ev.rec_.val) (hmR : ∀ g, inMost (sRec s g)) (n : Nat) (H : GH) (ho : H.obj n = some (sceneO s)) :
    ECall prog 63 [.gp n 0] H fun ce H' => ce = .ret (.gp H.next 0) ∧ H' = H.add (bndO (boundM s F L P)) := by
  have cc := cxF_ok (r := none) (f := 63) (p := kds [1] [3, 4, 9] [])
  have ccR : ∀ l, (cxF (some l) 63 (kds [1] [3, 4, 9] [])).ok prog := fun l => cxF_ok
  refine ECall.bodyNW (cxF_ok (r := none) (f := 63) (p := kds [1] [3, 4, 9] [])) func63 rfl call63 (by rw [ntmps63]; simp) rfl fun hf hw => ?_
  have ln := hw.lt ho
  simp [ntmps63, results63]
  refine AW.seq cc ?_
  simp
  refine AW.seq cc ?_
  simp [GH.add_next, GH.add_obj, GH.add_set]
  rw [add2_set1]
  refine ⟨by omega, ?_⟩
  have hb0 : GO.box [LV.d (DV.k (Value.bool false)), LV.d (DV.k (Value.bool false)), LV.d (DV.k (Value.int IntKind.i64 0)), LV.d (DV.k (Value.int IntKind.i64 0)), LV.d (DV.k (Value.int IntKind.i64 0)), LV.d (DV.k (Value.int IntKind.i64 0)), LV.d (DV.k (Value.int IntKind.i64 0)), LV.d (DV.k (Value.int IntKind.i64 0)), LV.d (DV.k (Value.int IntKind.i64 0)), LV.d (DV.k (Value.int IntKind.i64 0)), LV.d (DV.k (Value.int IntKind.i64 0)), LV.d (DV.k (Value.int IntKind.i64 0)), LV.d (DV.k (Value.int IntKind.i64 0))] = bndO b0 := rfl
  rw [hb0]
  obtain ⟨Hb, hHb⟩ : ∃ Hb, (H.add (bndO b0)).add (GO.box [LV.gp H.next 0]) = Hb := ⟨_, rfl⟩
  have nb : Hb.next = H.next + 2 := by rw [← hHb]; rfl
  have ob0 : Hb.obj H.next = some (bndO b0) := by rw [← hHb]; exact add2_0
  have ob1 : Hb.obj (H.next + 1) = some (.box [.gp H.next 0]) := by rw [← hHb]; exact add2_1
  have obl : ∀ m, m < H.next → Hb.obj m = H.obj m := fun m hm => by rw [← hHb, GH.add_obj, GH.add_next, if_neg (by omega), GH.add_obj, if_neg (by omega)]
  rw [hHb]
  clear hHb
  have hon : Hb.obj n = some (sceneO s) := by rw [obl n ln]; exact ho
  have hs : (sceneO s) = GO.box (((rShape s.sh).map .d ++ (rRoom s.room).map .d ++ [s.vals, s.loose, .d (.k (.bool s.has))] ++ (rRec s.low).map .d ++ (rRec s.high).map .d ++ [s.vers])) := rfl
  have hon' := hon
  rw [hs] at hon'
  refine AW.join (c := cxF none 63 (kds [1] [3, 4, 9] [])) (fun a : Nat × GH => ⟨[(1, .ip [.gp n 0] 0), (3, .gp (H.next + 1) 0), (4, .gp a.1 0)], [], a.2⟩)
    (fun a => H.next + 2 ≤ a.1 ∧ a.1 < a.2.next ∧ a.2.obj a.1 = some (.box [.fn (.func (foldF s.sh.fold)) [] []]) ∧ ∀ m, m < H.next + 2 → a.2.obj m = Hb.obj m) (AW.ev cc ?_) ?_
  · simp
    refine AW.draw cc [(0, .x), (1, .n)] (.q 1 <| .q 2 <| .q 3 <| .q 4 <| .f (.cons 0 (.q 5 <| .q 6 <| .q 7 <| .f <| .one 8 <| .f <| .one 9 <| .done) (.cons 5 (.f (.cons 0 (.q 6 <| .q 7 <| .f <| .one 8 <| .f <| .one 9 <| .done) (.cons 8 (.f <| .one 0 <| .q 6 <| .q 7 <| .f <| .one 9 <| .done) (.nil)))) (.cons 8 (.f (.cons 0 (.q 5 <| .q 6 <| .q 7 <| .f <| .one 9 <| .done) (.cons 5 (.f <| .one 0 <| .q 6 <| .q 7 <| .f <| .one 9 <| .done) (.nil)))) (.nil))))) (by kernel_rfl) ?_
    have hon2 : ∀ o, (Hb.add o).obj n = Hb.obj n := fun o => by rw [GH.add_obj, if_neg (by omega)]
    have hon3 : ∀ o o', ((Hb.add o).add o').obj n = Hb.obj n := fun o o' => by rw [GH.add_obj, GH.add_next, if_neg (by omega), GH.add_obj, if_neg (by omega)]
    have hlk : mfind (.int .i64 s.sh.fold) (foldEs.map fun e => (e.1, LV.agg [e.2])) = some (.agg [.fn (.func (foldF s.sh.fold)) [] []]) := by
      have : s.sh.fold = 1 ∨ s.sh.fold = 2 ∨ s.sh.fold = 3 ∨ s.sh.fold = 4 := by omega
      rcases this with q | q | q | q <;> rw [q] <;> rfl
    have hkey : (∀ (a : Value) (b : LV), (a, b) ∈ (foldEs.map fun e => (e.1, LV.agg [e.2])) → (KK.sc (Sc.int IntKind.i64)).has a = true) = True := by
      refine eq_true fun a b hab => ?_
      simp only [foldEs, List.map_cons, List.map_nil, List.mem_cons, List.not_mem_nil, or_false, Prod.mk.injEq] at hab
      rcases hab with ⟨rfl, _⟩ | ⟨rfl, _⟩ | ⟨rfl, _⟩ | ⟨rfl, _⟩ <;> rfl
    have hk1 : ∀ m, (KK.sc (Sc.int IntKind.i64)).has (Value.int IntKind.i64 m) = true := fun _ => rfl
    have hoa : ∀ (G : GH) o, (G.add o).obj G.next = some o := fun G o => by simp [GH.add_obj]
    simp only [foldEs, List.map_cons, List.map_nil] at hlk hkey
    have hfo0 := near_folds Hb
    have hfo1 := near_folds (Hb.add (GO.box [LV.d (DV.k Value.nilFunc)]))
    simp only [foldEs, List.map_cons, List.map_nil] at hfo0 hfo1
    simp [hon', hon2, rShape, rRoom, rRec]
    have hlow2 : ∀ o o' m, m < H.next + 2 → ((Hb.add o).add o').obj m = Hb.obj m := fun o o' m hm => by rw [GH.add_obj, GH.add_next, if_neg (by omega), GH.add_obj, if_neg (by omega)]
    refine ⟨?_, ⟨?_, ?_⟩, ?_, ?_⟩
    · refine ECn.of hfo0 (fun v H2 hR hn => ?_) (fun x H2 env hR _ => ?_)
      rotate_left
      · cases hR.1
      obtain ⟨e, rfl⟩ := hR
      cases e
      simp [hon', hon2, rShape, rRoom, rRec, hlk, hkey, hk1, hoa, GH.add_next, add2_0, add2_1, add2_set0, add2_set1, GH.add_set]
      exact JN.go (Hb.next + 1, (Hb.add (.map (foldEs.map fun e => (e.1, LV.agg [e.2])))).add (.box [.fn (.func (foldF s.sh.fold)) [] []])) ⟨by simp only; omega, by simp only [GH.add_next]; omega, add2_1, fun m hm => hlow2 _ _ m hm⟩ (by simp [foldEs])
    · refine ECn.of hfo0 (fun v H2 hR hn => ?_) (fun x H2 env hR _ => ?_)
      rotate_left
      · cases hR.1
      obtain ⟨e, rfl⟩ := hR
      cases e
      simp [hon', hon2, rShape, rRoom, rRec, hlk, hkey, hk1, hoa, GH.add_next, add2_0, add2_1, add2_set0, add2_set1, GH.add_set]
      exact JN.go (Hb.next + 1, (Hb.add (.map (foldEs.map fun e => (e.1, LV.agg [e.2])))).add (.box [.fn (.func (foldF s.sh.fold)) [] []])) ⟨by simp only; omega, by simp only [GH.add_next]; omega, add2_1, fun m hm => hlow2 _ _ m hm⟩ (by simp [foldEs])
    all_goals
      refine ECn.of hfo1 (fun v H2 hR hn => ?_) (fun x H2 env hR _ => ?_)
      rotate_left
      · cases hR.1
      obtain ⟨e, rfl⟩ := hR
      cases e
      simp [hon', hon2, hon3, rShape, rRoom, rRec, hlk, hkey, hk1, hoa, GH.add_next, add2_0, add2_1, add2_set0, add2_set1, GH.add_set]
      exact JN.go (Hb.next, (Hb.add (.box [.fn (.func (foldF s.sh.fold)) [] []])).add (.map (foldEs.map fun e => (e.1, LV.agg [e.2])))) ⟨by simp only; omega, by simp only [GH.add_next]; omega, add2_0, fun m hm => hlow2 _ _ m hm⟩ (by simp [foldEs])
  · rintro ⟨k, H2⟩ ⟨k1, k2, k3, k4⟩
    simp only at k1 k2 k3 k4
    have o2n : H2.obj n = some (sceneO s) := by rw [k4 n (by omega)]; exact hon
    have o20 : H2.obj H.next = some (bndO b0) := by rw [k4 _ (by omega)]; exact ob0
    have o21 : H2.obj (H.next + 1) = some (.box [.gp H.next 0]) := by rw [k4 _ (by omega)]; exact ob1
    refine AW.seq cc ?_
    have hwf := scene_waysF n H2 (by omega)
    simp
    refine ⟨by omega, EC.of hwf (fun v H2' hR => ?_) (fun v H2' hR => ?_)⟩
    rotate_left
    · cases hR.1
    obtain ⟨e, hE⟩ := hR
    cases e
    rw [hE]
    clear hE
    simp
    refine AW.nb (fun hz2 => ?_)
    simp only at hz2
    refine AWp.rangeFunc rfl rfl (f := 153) (first := []) (cap := [.ip [.gp n 0] 0]) (by simp) (by simp)
      [(1, .ip [.gp n 0] 0), (3, .gp (H.next + 1) 0), (4, .gp k 0)] (by simp [allL]) (by simp [allL, LV.nb, nbs]; omega) (by simp [nbs, LV.nb]; omega) ?_
    simp only [LS.s_mk, List.nil_append, List.singleton_append]
    generalize hx : LP.mk _ _ _ _ _ _ _ = x
    have hxf : x.f = 63 := by rw [← hx]
    have hxd : x.d = H2.next := by rw [← hx]
    have hxe : ∀ t, (x.env t).nb (H2.next + 2) := by
      rw [← hx]
      intro t
      refine envL_nb ?_ t
      simp [allL, LV.nb, nbs]; omega
    obtain ⟨ws, hws⟩ : ∃ ws, waysM P (min P L.length) s.has = ws := ⟨_, rfl⟩
    obtain ⟨J, hJ⟩ : ∃ J : Nat → GH → Prop, J = fun i H' => H'.obj (H2.next + 1) = some (x.go .ready none) ∧ H'.obj H2.next = some .dfr ∧ (∀ m, m < H2.next → m ≠ H.next → H'.obj m = H2.obj m) ∧ H'.obj H.next = some (bndO ((ws.take i).foldl (stepB s F L) b0)) := ⟨_, rfl⟩
    have hI : Iter prog (H2.next + 1) (H2.next + 2) (ws.map rowW) J (fun _ => False) (fun _ _ => False) := by
      refine ⟨fun {i H1 H3} hj hag _ => ?_, fun h => h.elim, fun h => h.elim, fun {i H1} hj m o hm ho => ?_, fun h => h.elim, fun h => h.elim, ?_⟩
      · rw [hJ] at hj ⊢
        obtain ⟨q1, q2, q3, q4⟩ := hj
        exact ⟨by rw [hag _ (by omega)]; exact q1, by rw [hag _ (by omega)]; exact q2, fun m hm hne => by rw [hag _ (by omega)]; exact q3 m hm hne, by rw [hag _ (by omega)]; exact q4⟩
      · rw [hJ] at hj
        obtain ⟨q1, q2, q3, q4⟩ := hj
        by_cases e1 : m = H2.next + 1
        · subst e1; rw [q1] at ho; cases ho
          exact ⟨by rw [hxd]; omega, hxe⟩
        · by_cases e2 : m = H2.next
          · subst e2; rw [q2] at ho; cases ho; trivial
          · by_cases e3 : m = H.next
            · subst e3; rw [q4] at ho; cases ho
              exact bndO_nb _ _
            · rw [q3 m (by omega) e3] at ho
              exact GO.nb_mono (by omega) (hz2.nb m o ho)
      · intro i H1 r hr hN hz1 hj
        rw [hJ] at hj
        obtain ⟨q1, q2, q3, q4⟩ := hj
        obtain ⟨w, he, rfl⟩ : ∃ w, ws[i]? = some w ∧ r = rowW w := by
          simp only [List.getElem?_map, Option.map_eq_some_iff] at hr
          obtain ⟨e, h1, h2⟩ := hr
          exact ⟨e, h1, h2.symm⟩
        have hwm : w ∈ waysM P (min P L.length) s.has := by rw [hws]; exact List.mem_of_getElem? he
        have hwb : w.gone + w.turned ≤ L.length ∧ w.gone + w.turned + w.more ≤ 6 := by
          rcases waysM_mem.1 hwm with ⟨h1, h2, _⟩ | ⟨_, _, h⟩
          · omega
          · exact h.elim
        refine EYield.ofN (c := fun l => cxF (some l) 63 (kds [1] [3, 4, 9] [])) ccR (fun l => by simp [hxf]) q1 ⟨_, by rw [hxf]; exact func63⟩ (by rw [← hx]; rfl) (by rw [← hx]; simp) fun hz l => ?_
        have xa := (congrArg LP.asn hx).symm
        have xb := (congrArg LP.body hx).symm
        have xe := (congrArg LP.env hx).symm
        have xp := (congrArg LP.ps hx).symm
        have xn := (congrArg LP.nt hx).symm
        dsimp only at xa xb xe xp xn
        rw [xa, xb, xe, xp, xn]
        clear xa xb xe xp xn hx
        simp [rowW, rWay, putAll]
        refine ⟨q1, ?_⟩
        generalize hob : x.go .busy none = ob
        obtain ⟨H3, hH3⟩ : ∃ H3, H1.set (H2.next + 1) ob = H3 := ⟨_, rfl⟩
        have c3 : ∀ m, m < H2.next → H3.obj m = H1.obj m := fun m hm => by rw [← hH3, GH.set_obj, if_neg (by omega)]
        have oy : H3.obj (H2.next + 1) = some ob := by rw [← hH3, GH.set_same]
        have n3 : H3.next = H1.next := by rw [← hH3]; rfl
        have o3n : H3.obj n = some (sceneO s) := by rw [c3 n (by omega), q3 n (by omega) (by omega)]; exact o2n
        have o30 : H3.obj H.next = some (bndO ((ws.take i).foldl (stepB s F L) b0)) := by rw [c3 _ (by omega)]; exact q4
        have o31 : H3.obj (H.next + 1) = some (.box [.gp H.next 0]) := by rw [c3 _ (by omega), q3 _ (by omega) (by omega)]; exact o21
        have o3k : H3.obj k = some (.box [.fn (.func (foldF s.sh.fold)) [] []]) := by rw [c3 k k2, q3 k k2 (by omega)]; exact k3
        rw [hH3]
        have hv1 := fun (G : GH) (hG : G.obj n = some (sceneO s)) => scene_values s F L hF hL h60 w hwb.1 hwb.2 false n G hG
        have hv2 := fun (G : GH) (hG : G.obj n = some (sceneO s)) => scene_values s F L hF hL h60 w hwb.1 hwb.2 true n G hG
        simp [rWay] at hv1 hv2
        refine AW.ev (ccR l) ?_
        simp
        refine AW.draw (ccR l) [(2, .r), (5, .r)] (.q 0 <| .q 1 <| .q 2 <| .q 3 <| .q 4 <| .q 5 <| .q 6 <| .q 7 <| .done) (by kernel_rfl) ?_
        simp
        refine ⟨by omega, FC.read (fun s' hg => hv1 _ (hg.obj _ _ o3n (fun _ _ _ q => by simp [sceneO] at q))) ?_⟩
        simp
        refine ⟨by omega, FC.read (fun s' hg => hv2 _ (hg.obj _ _ o3n (fun _ _ _ q => by simp [sceneO] at q))) ?_⟩
        obtain ⟨B, hB⟩ : ∃ B, (ws.take i).foldl (stepB s F L) b0 = B := ⟨_, rfl⟩
        have hstep : (ws.take (i + 1)).foldl (stepB s F L) b0 = stepB s F L B w := by
          rw [List.take_add_one, he]; simp [hB]
        rw [hB] at o30
        have o30' := o30
        simp only [bndO, rNB, rWay, List.map_append, List.map_cons, List.map_nil, List.cons_append, List.nil_append, dI_eq, dB_eq] at o30'
        have hnn : H.next ≠ H2.next + 1 := by omega
        have hback : ∀ X, (H3.set H.next X).set (H2.next + 1) (x.go .ready none) = H1.set H.next X := fun X => by
          rw [← hH3, GH.set_comm (Ne.symm hnn), GH.set_set]; exact GH.set_id (by rw [GH.set_obj, if_neg (Ne.symm hnn)]; exact q1)
        have hdone : ∀ (X : Bnd), stepB s F L B w = X → nbH (H3.set H.next (bndO X)) → ∃ st pend, (H3.set H.next (bndO X)).obj (H2.next + 1) = some (x.go st pend) ∧ ∃ H', Drop H1 ((H3.set H.next (bndO X)).set (H2.next + 1) (x.go .ready none)) H' ∧ GH.same (H2.next + 2) H1 H' ∧ J (i + 1) H' := fun X hX _ => by
          refine ⟨.busy, none, by rw [GH.set_obj, if_neg (Ne.symm hnn), oy, hob], H1.set H.next (bndO X), ?_, ⟨rfl, fun m hm => by rw [GH.set_obj, if_neg (by omega)]⟩, ?_⟩
          · rw [hback]; exact (hz1.set (by omega) (bndO_nb _ _)).drop (Nat.le_refl _)
          · rw [hJ]
            exact ⟨by rw [GH.set_obj, if_neg (by omega)]; exact q1, by rw [GH.set_obj, if_neg (by omega)]; exact q2, fun m hm hne => by rw [GH.set_obj, if_neg hne]; exact q3 m hm hne, by rw [GH.set_same, hstep, hX]⟩
        by_cases hpos : 0 < (valsM F L w false (sRec s false)).length
        · have hst : stepB s F L B w = takeM B w (foldOf s.sh.fold (valsM F L w false (sRec s false))) (foldOf s.sh.fold (valsM F L w true (sRec s true))) := by rw [stepB, if_pos hpos]
          have hvl : ∀ g, (valsM F L w g (sRec s g)).length = (valsM F L w false (sRec s false)).length := fun g => by
            simp [valsM, keptM_len L w _ hwb.1]
          have hv66 : ∀ g, (valsM F L w g (sRec s g)).length ≤ 66 := fun g => by
            simp [valsM, keptM_len L w _ hwb.1]; omega
          have hvm : ∀ g, ∀ v ∈ valsM F L w g (sRec s g), inMost v := fun g v hv => by
            simp only [valsM, List.mem_append, List.mem_map, List.mem_replicate] at hv
            rcases hv with (hv | ⟨y, hy, rfl⟩) | ⟨_, rfl⟩
            · exact hmF v hv
            · refine hmL y ?_
              unfold keptM at hy
              split at hy
              · exact List.mem_of_mem_drop hy
              · exact List.mem_of_mem_take hy
            · exact hmR g
          have f1 := fold_call s.sh.fold hfo _ hpos (hv66 false) (hvm false)
          have f2 := fold_call s.sh.fold hfo _ (by rw [hvl true]; exact hpos) (hv66 true) (hvm true)
          have ht := bound_take B w (foldOf s.sh.fold (valsM F L w false (sRec s false))) (foldOf s.sh.fold (valsM F L w true (sRec s true))) H.next H3 o30
          simp [rWay] at f1 f2 ht
          simp [hpos]
          refine AW.draw (ccR l) [(4, .n), (7, .n), (8, .x)] (.q 3 <| .q 6 <| .q 0 <| .q 1 <| .f (.cons 2 (.q 4 <| .f <| .one 5 <| .q 7 <| .f <| .one 8 <| .done) (.cons 5 (.f <| .one 2 <| .q 4 <| .q 7 <| .f <| .one 8 <| .done) (.nil)))) (by kernel_rfl) ?_
          simp [o31, o3k]
          constructor
          all_goals
            refine FC.afun f1 ?_
            simp [o31, o3k]
            refine FC.afun f2 ?_
            simp
            refine ⟨by omega, ECn.of ht (fun v H4 hR _ => ?_) (fun x' H4 env hR _ => ?_)⟩
            rotate_left
            · obtain ⟨⟨_, q⟩, _⟩ := hR; cases q
            obtain ⟨_, hE⟩ := hR
            rw [hE]
            simp
          all_goals
            intro hz4
            obtain ⟨st, pend, h1, h2⟩ := hdone _ hst hz4
            exact ⟨⟨st, pend, h1⟩, h2⟩
        · have hnil : valsM F L w false (sRec s false) = [] := List.eq_nil_of_length_eq_zero (by omega)
          have hdone2 : ∀ X, stepB s F L B w = X → nbH (H3.set H.next (bndO X)) → (∃ st pend, (H3.set H.next (bndO X)).obj (H2.next + 1) = some (x.go st pend)) ∧ ∃ H', Drop H1 ((H3.set H.next (bndO X)).set (H2.next + 1) (x.go .ready none)) H' ∧ GH.same (H2.next + 2) H1 H' ∧ J (i + 1) H' := fun X hX hz4 => by
            obtain ⟨st, pend, h1, h2⟩ := hdone X hX hz4
            exact ⟨⟨st, pend, h1⟩, h2⟩
          simp [hnil, o31, o30']
          cases hbn : B.nb.none with
          | true =>
            have hst : stepB s F L B w = B := by rw [stepB, if_neg hpos, hbn]; rfl
            simp [hbn]
            have := hdone2 B hst
            rw [GH.set_id o30] at this
            exact this
          | false =>
            have hst : stepB s F L B w = { B with nb := { B.nb with none := true }, wn := w } := by rw [stepB, if_neg hpos, hbn]; rfl
            simp [hbn]
            refine AW.draw (ccR l) [] (.q 0 <| .q 3 <| .q 4 <| .q 5 <| .f (.cons 1 (.f (.cons 2 (.f <| .one 6 <| .q 7 <| .q 8 <| .f <| .one 9 <| .done) (.cons 6 (.q 2 <| .q 7 <| .q 8 <| .f <| .one 9 <| .done) (.nil)))) (.cons 2 (.f (.cons 1 (.f <| .one 6 <| .q 7 <| .q 8 <| .f <| .one 9 <| .done) (.cons 6 (.q 1 <| .q 7 <| .q 8 <| .f <| .one 9 <| .done) (.nil)))) (.cons 6 (.q 1 <| .q 2 <| .q 7 <| .q 8 <| .f <| .one 9 <| .done) (.nil))))) (by kernel_rfl) ?_
            have os : ∀ o, (H3.set H.next o).obj H.next = some o := fun o => GH.set_same
            have os1 : ∀ o, (H3.set H.next o).obj (H.next + 1) = some (.box [.gp H.next 0]) := fun o => by rw [GH.set_obj, if_neg (by omega)]; exact o31
            simp [o31, o30', os, os1, GH.set_set]
            exact hdone2 _ hst
    have hj0 : J 0 ((H2.add .dfr).add (x.go .ready none)) := by
      rw [hJ]
      exact ⟨by rw [GH.add_obj, GH.add_next, if_pos rfl], by rw [GH.add_obj, GH.add_next, if_neg (by omega), GH.add_obj, if_pos rfl], fun m hm _ => by rw [GH.add_obj, GH.add_next, if_neg (by omega), GH.add_obj, if_neg (by omega)],
        by rw [GH.add_obj, GH.add_next, if_neg (by omega), GH.add_obj, if_neg (by omega)]; exact o20⟩
    have hsc : ∀ i H', J i H' → H'.obj n = some (sceneO s) := fun i H' hj => by
      rw [hJ] at hj
      rw [hj.2.2.1 n (by omega) (by omega)]; exact o2n
    rw [← hws] at hI
    have hall := scene_ways s L hL (by omega) P hP hP6 hI hsc ((H2.add .dfr).add (x.go .ready none)) (by rw [GH.add_next, GH.add_next]; omega) hj0
    rw [hws] at hall
    refine hall.mono fun ce H3 hR => ?_
    obtain ⟨hs2, hR⟩ := hR
    cases ce with
    | pan x => exact hR.elim
    | ret v =>
      rw [hJ] at hR
      obtain ⟨q1, q2, q3, q4⟩ := hR
      refine ⟨.ready, none, q1, by simp, ?_⟩
      simp [jumpQ, hxd]
      have hfin : boundM s F L P = ws.foldl (stepB s F L) b0 := by rw [boundM, hws]
      rw [List.take_length] at q4
      rw [← hfin] at q4
      have hne1 : H.next ≠ H2.next + 1 := by omega
      have hne2 : H.next + 1 ≠ H2.next + 1 := by omega
      have o31 : (H3.set (H2.next + 1) (x.go .exhausted none)).obj (H.next + 1) = some (.box [.gp H.next 0]) := by rw [GH.set_obj, if_neg hne2, q3 _ (by omega) (by omega)]; exact o21
      refine AW.ev cc ?_
      simp [o31]
      have n3 : H3.next = H2.next + 2 := hs2.next
      refine fun _ => ⟨by rw [GH.set_obj, if_neg (by omega)]; exact q2, Drop_sub (by simp only [GH.set_next, GH.add_next]; omega) (fun m hm => ?_) (hw.add (bndO_nb _ _)) (by rw [GH.add_next]; omega), by rw [GH.add_next]; omega⟩
      rw [GH.add_next] at hm
      simp only [upd_apply, GH.set_obj, GH.add_obj]
      rw [if_neg (show ¬ m = H2.next by omega), if_neg (show ¬ m = H2.next + 1 by omega)]
      by_cases e : m = H.next
      · rw [if_pos e, e]; exact q4.symm
      · rw [if_neg e, q3 m (by omega) e, k4 m (by omega), obl m (by omega)]
end Go.Aft
end
section
set_option maxRecDepth 20000
namespace Go.Aft
open Go.Proofs.Tryz
theorem lExp_strip {srcs defs : List Str} {a : Int} : ∀ (e : Exp) (depth left l : Int), lExp srcs defs a e depth left = some l → ∃ d' f' l', lExp srcs defs a (strip e).2 d' f' = some l'
  | .mk op name n fold calcs kids, depth, left, l, h => by
    by_cases h5 : op = 5
    · subst h5
      rw [strip, if_pos rfl]
      rw [lExp] at h
      split at h
      · rename_i hc
        obtain ⟨x, hx, k1, k2⟩ := expOk_len hc.2.2.1
        simp [shpOf] at hx
        subst hx
        match calcs, kids, k1, k2, h with
        | [c], [k], _, _, h =>
          split at h
          · rw [lExps] at h
            split at h
            · rename_i l2 hl2
              rw [stripL]
              exact lExp_strip k _ _ _ hl2
            · cases h
          · cases h
      · cases h
    · rw [strip, if_neg h5]; exact ⟨depth, left, l, h⟩
theorem formed_plain {p : Prog} (hf : formed p) {d : Nat} (hd : d < p.defs.length) (hp : (plainOf p p.defs[d].exp).2 = true) :
    1 ≤ (plainOf p p.defs[d].exp).1.n ∧ (plainOf p p.defs[d].exp).1.n ≤ 50 ∧ 0 ≤ (plainOf p p.defs[d].exp).1.src ∧ (plainOf p p.defs[d].exp).1.src < p.srcs.length ∧ 1 ≤ (plainOf p p.defs[d].exp).1.fold ∧ (plainOf p p.defs[d].exp).1.fold ≤ 4 ∧ p.srcs.length ≤ 4 := by
  obtain ⟨⟨l, hl⟩, _⟩ := hf
  unfold countM at hl
  split at hl
  · rename_i hcm
    obtain ⟨l1, l2, q1, q2, q3⟩ := lDefs_at _ _ _ _ hl (by omega) d hd
    obtain ⟨e, hx⟩ : ∃ e, p.defs[d].exp = e := ⟨_, rfl⟩
    rw [hx] at hp q1 ⊢
    unfold plainOf at hp ⊢
    by_cases h8 : e.op = 8
    · rw [if_neg (by simpa using h8)] at hp ⊢
      by_cases h1 : (stripL e.kids).2.op = 1
      · rw [if_neg (by simpa using h1)] at hp ⊢
        obtain ⟨op, name, n, fold, calcs, kids⟩ := e
        simp only [Exp.op_mk, Exp.kids_mk, Exp.n_mk, Exp.fold_mk] at h8 h1 ⊢
        subst h8
        rw [lExp] at q1
        split at q1
        · rename_i hc
          have hek := hc.2.2.1
          obtain ⟨x, hx, k1, k2⟩ := expOk_len hc.2.2.1
          have hsx : shpOf 8 = some ⟨1, 0, false, true, 1, 50⟩ := rfl
          simp only [expOk, hsx, Bool.and_eq_true, decide_eq_true_eq, if_true] at hek
          rw [hsx] at hx
          cases hx
          match calcs, kids, k1, k2, q1 with
          | [], [k], _, _, q1 =>
            rw [lCalcs] at q1
            simp only [lExps] at q1
            split at q1
            · rename_i l3 h3
              obtain ⟨d', f', l', hs⟩ := lExp_strip k _ _ _ h3
              simp only [stripL] at h1 ⊢
              obtain ⟨e', he'⟩ : ∃ e', (strip k).2 = e' := ⟨_, rfl⟩
              rw [he'] at hs h1 ⊢
              obtain ⟨op', name', n', fold', calcs', kids'⟩ := e'
              simp only [Exp.op_mk, Exp.name_mk] at h1 ⊢
              subst h1
              rw [lExp] at hs
              split at hs
              · rename_i hc'
                have hn := hc'.2.2.2
                simp [nameOk] at hn
                exact ⟨hek.1.2.1, hek.1.2.2, hn, idx_lt _ _, hek.2.1, hek.2.2, hcm.2.1⟩
              · cases hs
            · cases q1
        · cases q1
      · rw [if_pos (by simpa using h1)] at hp; cases hp
    · rw [if_pos (by simpa using h8)] at hp; cases hp
  · cases hl
theorem sortL_perm (xs : List Loose) : (sortL xs).Perm xs := by
  have h := (Go.Sort.insertionSort_holds cmpL_swo xs.toArray 0 xs.toArray.size (Nat.zero_le _) (Nat.le_refl _)).1
  have h3 := h.2.2
  have e1 := h.1
  simp only [List.size_toArray] at h3 e1
  have hx : (xs.toArray.extract 0 xs.length).toList = xs := by simp
  have hy : ((Go.Sort.insertionSort (ltOf' cmpL) xs.toArray 0 xs.length).extract 0 xs.length).toList = sortL xs := by
    rw [sortL]
    generalize Go.Sort.insertionSort (ltOf' cmpL) xs.toArray 0 xs.length = D at e1
    rw [← e1]; simp
  rw [hx, hy] at h3
  exact h3
theorem comeM_in (f key : Int) (m : Nat) : ∀ (k : Nat) (s : Scene) (v : Int), inMost s.low.val → inMost s.high.val → (∀ j : Nat, j < k → inMost (v + j)) → inMost (comeM f key m s v k).low.val ∧ inMost (comeM f key m s v k).high.val
  | 0, s, v, h1, h2, _ => ⟨h1, h2⟩
  | k + 1, s, v, h1, h2, h3 => by
    rw [comeM]
    have hv : inMost v := by simpa using h3 0 (by omega)
    have hfv : ∀ (m : Nat) (f : Int) (r : Rec), firstP s.sh key v f m = some r → r.val = v := by
      intro m
      induction m with
      | zero => intro f r h; simp [firstP] at h
      | succ m ih =>
        intro f r h
        rw [firstP] at h
        split at h
        · cases h; rfl
        · exact ih _ _ h
    refine comeM_in f key m k _ _ ?_ ?_ fun j hj => by have := h3 (j + 1) (by omega); rw [show v + 1 + (j : Int) = v + ((j + 1 : Nat) : Int) by omega]; exact this
    · cases hfp : firstP s.sh key v f m with
      | none => exact h1
      | some r =>
        simp only [comeO, comeS]
        split
        · exact h1
        · rw [hfv _ _ _ hfp]; exact hv
    · cases hfp : firstP s.sh key v f m with
      | none => exact h2
      | some r => simp only [comeO, comeS]; rw [hfv _ _ _ hfp]; exact hv
def nb0 : NB := ⟨false, false, 0, 0⟩
def boundV (p : Prog) (d : Nat) (l : List News) (room : Room) (window key : Int) : NB :=
  (boundM (sceneM l (plainOf p (p.defs.getD d default).exp).1 room window key 0) (fixedM l (plainOf p (p.defs.getD d default).exp).1 window key (standsM l)) (sortL (looseM l (plainOf p (p.defs.getD d default).exp).1 window key (standsM l))) room.most.toNat).nb
open Classical in
noncomputable def ofM (p : Prog) (d : Int) (l : List News) (room : Room) (window key : Int) : NB × Int :=
  if askedB p d l room key = true then
    (if lookE (plainOf p (p.defs.getD d.toNat default).exp) l.length room window = 0 then (boundV p d.toNat l room window key, 0) else (nb0, lookE (plainOf p (p.defs.getD d.toNat default).exp) l.length room window))
  else (nb0, 2)
theorem boundM_name (s : Scene) (v : LV) (F : List Int) (L : List Loose) (P : Nat) : boundM { s with vers := v } F L P = boundM s F L P := rfl
theorem comeM_vers (f key : Int) (m : Nat) (a : LV) : ∀ (k : Nat) (s : Scene) (v : Int), comeM f key m { s with vers := a } v k = { comeM f key m s v k with vers := a }
  | 0, s, v => rfl
  | k + 1, s, v => by
    rw [comeM, comeM]
    have : comeO { s with vers := a } (firstP s.sh key v f m) = { comeO s (firstP s.sh key v f m) with vers := a } := by
      cases firstP s.sh key v f m <;> rfl
    have e := comeM_vers f key m a k (comeO s (firstP s.sh key v f m)) (v + 1)
    rw [← e]
    simp only
    rw [this]
theorem near_Of (p : Prog) (hs : fitP p) (d : Int) (l : List News) (h12 : (standsM l).length ≤ 12) (room : Room) (window key : Int) :
    AFun prog 40 [lv (rProg p), lvI d, sl (l.map rNews), lv (rRoom room), lvI window, lvI key] (.tup [lv (rNB (ofM p d l room window key).1), lvI (ofM p d l room window key).2]) := by
  intro H
  have cc := cxK_ok (p := kds [6, 9] [] [])
  refine ECall.bodyNW (cxK_ok (p := kds [6, 9] [] [])) func40 rfl call40 (by rw [ntmps40]; simp) rfl fun hf hw => ?_
  have ha := near_isAsked p hs d l room key
  simp [rProg, rRoom] at ha
  simp [ntmps40, results40, rProg, rRoom] at hf ⊢
  refine AW.seq cc ?_
  simp
  refine AW.seq cc ?_
  simp
  refine EC.afun ha ?_
  cases hq : askedB p d l room key with
  | false =>
    simp
    exact fun hz => ⟨hz.drop (Nat.le_refl _), by simp [ofM, hq, nb0, rNB], by simp [ofM, hq]⟩
  | true =>
    have hq' := hq
    simp only [askedB, Bool.and_eq_true, decide_eq_true_eq] at hq'
    obtain ⟨⟨⟨⟨⟨hfm, hd0, hd1⟩, hl⟩, _⟩, hroom⟩, hkey⟩ := hq'
    have hd : d.toNat < p.defs.length := by omega
    have hdd : ((d.toNat : Nat) : Int) = d := by omega
    have hgd : p.defs.getD d.toNat default = p.defs[d.toNat] := by simp [List.getD, List.getElem?_eq_getElem hd]
    have hpl := formed_plain hfm hd
    have hlook := near_look p hs d.toNat hd hfm l hl h12 room hroom window key hkey H (fun h8 => by
      obtain ⟨k, hk, hw, _⟩ := formed_fold hfm hd h8; exact ⟨k, [], hk, hw⟩) (fun h => ⟨(hpl h).1, (hpl h).2.1, (hpl h).2.2.1, (hpl h).2.2.2.1⟩)
    rw [hdd] at hlook
    simp [rProg, rRoom] at hlook
    simp
    refine AW.seq cc ?_
    simp
    obtain ⟨E, hE⟩ : ∃ E, lookE (plainOf p p.defs[d.toNat].exp) l.length room window = E := ⟨_, rfl⟩
    rw [hE] at hlook
    by_cases hE0 : E = 0
    · simp only [if_pos hE0] at hlook
      refine EC.of hlook (fun v H2 hR => ?_) (fun v H2 hR => ?_)
      rotate_left
      · cases hR.1
      obtain ⟨e, es, hmv, hH2⟩ := hR
      cases e
      simp
      refine AW.ev cc ?_
      obtain ⟨sh, hsh⟩ : ∃ sh, (plainOf p p.defs[d.toNat].exp).1 = sh := ⟨_, rfl⟩
      rw [hsh] at hH2 hpl
      have hpt : (plainOf p p.defs[d.toNat].exp).2 = true := by
        cases hb : (plainOf p p.defs[d.toNat].exp).2 with
        | true => rfl
        | false => rw [lookE, if_pos hb] at hE; omega
      have hpl := hpl hpt
      have hrm : (0 ≤ room.most ∧ room.most ≤ 6) ∧ valB room.low = true ∧ valB room.high = true := by
        simp [roomB, inB] at hroom
        exact ⟨hroom.1.1.1, hroom.1.1.2, hroom.1.2⟩
      obtain ⟨SC, hSC⟩ : ∃ SC, sceneM l sh room window key H.next = SC := ⟨_, rfl⟩
      have hk := comeM_keep (maxI (window - sh.n + 1) (markM l sh.src)) key (window - maxI (window - sh.n + 1) (markM l sh.src) + 1).toNat (room.high - room.low + 1).toNat (scene0 sh room (sl ((fixedM l sh window key (standsM l)).map rI)) (sl ((sortL (looseM l sh window key (standsM l))).map rLoose)) H.next) room.low
      have hci := comeM_in (maxI (window - sh.n + 1) (markM l sh.src)) key (window - maxI (window - sh.n + 1) (markM l sh.src) + 1).toNat (room.high - room.low + 1).toNat (scene0 sh room (sl ((fixedM l sh window key (standsM l)).map rI)) (sl ((sortL (looseM l sh window key (standsM l))).map rLoose)) H.next) room.low (by simp [scene0, zeroRec, inMost]) (by simp [scene0, zeroRec, inMost]) (fun j hj => by
        have h1 := hrm.2.1; have h2 := hrm.2.2
        simp [valB, inB] at h1 h2
        unfold inMost; omega)
      rw [← sceneM, hSC] at hk hci
      rw [hSC] at hH2
      have hfl : ∀ q : Event → Bool, ((standsM l).filter q).length ≤ 12 := fun q => Nat.le_trans (List.length_filter_le ..) h12
      have hval := standsM_val hl
      have hbd := scene_bound SC (fixedM l sh window key (standsM l)) (sortL (looseM l sh window key (standsM l))) hk.1 hk.2.1 (by
          rw [sortL_len]; simp only [fixedM, looseM, List.length_map]
          have h1 := hfl fun e => inWin sh window key e && !isLoose l sh e
          have h2 := hfl fun e => inWin sh window key e && isLoose l sh e
          omega) room.most.toNat (by rw [hk.2.2.2.2]; simp only [scene0]; omega) (by omega) (by rw [hk.2.2.2.1]; simp only [scene0]; omega)
        (fun x hx => by
          obtain ⟨e, he, rfl⟩ := List.mem_map.1 hx
          exact hval e (List.mem_filter.1 he).1)
        (fun x hx => by
          have hx := (Go.Aft.sortL_perm _).mem_iff.1 hx
          obtain ⟨e, he, rfl⟩ := List.mem_map.1 hx
          exact hval e (List.mem_filter.1 he).1)
        (fun g => by unfold sRec; split; exact hci.2; exact hci.1) (H.next + 1) H2 (by rw [hH2]; exact add2_1)
      have n2 : H2.next = H.next + 2 := by rw [hH2]; rfl
      simp
      refine ⟨by omega, EC.of hbd (fun v H3 hR => ?_) (fun v H3 hR => ?_)⟩
      rotate_left
      · cases hR.1
      obtain ⟨e, hH3⟩ := hR
      cases e
      have o3 : H3.obj H2.next = some (bndO (boundM SC (fixedM l sh window key (standsM l)) (sortL (looseM l sh window key (standsM l))) room.most.toNat)) := by rw [hH3]; simp [GH.add_obj]
      have o3' := o3
      simp only [bndO, rNB, rWay, List.map_append, List.map_cons, List.map_nil, List.cons_append, List.nil_append, dI_eq, dB_eq] at o3'
      simp [o3']
      have hSC0 : SC = { sceneM l sh room window key 0 with vers := .gm H.next } := by
        rw [← hSC]; exact comeM_vers _ _ _ (.gm H.next) _ (scene0 sh room _ _ 0) room.low
      have hof : ofM p d l room window key = ((boundM SC (fixedM l sh window key (standsM l)) (sortL (looseM l sh window key (standsM l))) room.most.toNat).nb, 0) := by
        rw [ofM, if_pos hq, hgd, if_pos (hE.trans hE0), boundV, hgd, hsh, hSC0]; rfl
      rw [hof]
      refine fun _ => ⟨Drop_same (by rw [hH3, GH.add_next]; omega) (fun m hm => by rw [hH3, GH.add_obj, if_neg (by omega), hH2, GH.add_obj, if_neg (by simp only [GH.add_next]; omega), GH.add_obj, if_neg (by omega)]) hw.none, by simp [rNB], rfl⟩
    · simp only [if_neg hE0] at hlook
      refine EC.of hlook (fun v H2 hR => ?_) (fun v H2 hR => ?_)
      rotate_left
      · cases hR.1
      obtain ⟨e, rfl⟩ := hR
      cases e
      simp
      refine AW.ev cc ?_
      have hof : ofM p d l room window key = (nb0, E) := by
        rw [ofM, if_pos hq, hgd, if_neg (by rw [hE]; exact hE0), hE]
      simp [hE0, hof, nb0, rNB]
      exact fun hz => hz.drop (Nat.le_refl _)
end Go.Aft
end
section
set_option maxRecDepth 20000
namespace Go.Aft
open Go.Proofs.Tryz
structure Ask where
  d : Int
  room : Room
  window : Int
  key : Int
def rAsk (a : Ask) : List DV := dI a.d :: (rRoom a.room ++ [dI a.window, dI a.key])
theorem law_bound (p : Prog) (hs : fitP p) (l : List News) (h12 : (standsM l).length ≤ 12) (a : Ask) :
    AFun prog 21 [lv (rProg p), sl (l.map rNews), lv (rAsk a)] (.tup [lv (rNB (ofM p a.d l a.room a.window a.key).1), lvI (ofM p a.d l a.room a.window a.key).2]) := by
  have cc := cxK_ok (p := kds [3, 5] [] [])
  refine AFun.bodyW (cxK_ok (p := kds [3, 5] [] [])) func21 rfl call21 (by rw [ntmps21]; simp) rfl fun hf H => ?_
  have h := near_Of p hs a.d l h12 a.room a.window a.key
  generalize ofM p a.d l a.room a.window a.key = o at h ⊢
  obtain ⟨⟨so, no, lo, hi⟩, w⟩ := o
  simp [rProg, rRoom, rNB, dB, dI] at h
  simp [ntmps21, results21, rProg, rAsk, rRoom, rNB, dB, dI] at hf ⊢
  refine AW.seq cc ?_
  simp
  refine AW.seq cc ?_
  simp
  refine EC.afun h ?_
  simp
  refine AW.ev cc ?_
  simp [rNB]
theorem law_is (h12 : (standsM exN).length ≤ 12) (a : Ask) (b : NB) (hs : fitP exP) :
    AFun prog 37 [lv (rAsk a), lv (rNB b)] (.d (.k (.bool (decide ((ofM exP a.d exN a.room a.window a.key).2 = 0 ∧ (ofM exP a.d exN a.room a.window a.key).1 = b))))) := by
  have cc := cxS_ok (p := kds [2, 3] [] [])
  refine AFun.bodyW (cxS_ok (p := kds [2, 3] [] [])) func37 rfl call37 (by rw [ntmps37]; simp) rfl fun hf H => ?_
  have h := law_bound exP hs exN h12 a
  have h1 := law_Example
  have h2 := law_News
  generalize ofM exP a.d exN a.room a.window a.key = o at h ⊢
  obtain ⟨⟨so, no, lo, hi⟩, w⟩ := o
  obtain ⟨so', no', lo', hi'⟩ := b
  generalize rProg exP = ep at h h1
  simp [rAsk, rRoom, rNB, dB, dI] at h
  simp [ntmps37, results37, rAsk, rRoom, rNB, dB, dI] at hf ⊢
  refine AW.seq cc ?_
  simp
  refine AW.seq cc ?_
  refine AW.draw cc [(0, .n), (1, .n), (3, .n)] (.q 0 <| .q 1 <| .q 2 <| .q 3 <| .q 4 <| .q 5 <| .q 6 <| .f <| .one 7 <| .f <| .one 8 <| .q 9 <| .done) (by kernel_rfl) ?_
  simp
  refine FC.afun h1 ?_
  simp
  refine FC.afun h2 ?_
  simp
  refine FC.afun h ?_
  simp
  refine AW.ev cc ?_
  simp
  rfl
theorem diffM_of {l : List Str} (h : ∀ i (h : i < l.length), nameM l[i] = true ∧ ∀ x ∈ l.take i, x ≠ l[i]) : diffM l := fun i hi => ⟨(h i hi).1, fun hm => (h i hi).2 _ hm rfl⟩
theorem ex_count : ∃ l, countM exP = some l := by
  have h : diffM (exP.srcs ++ defNames exP) := diffM_of (by decide +kernel)
  refine ⟨52, ?_⟩
  rw [countM, if_pos ⟨by decide, by decide, by decide, h⟩]
  decide +kernel
theorem ex_formed : formed exP := by
  refine ⟨ex_count, fun i h _ e he => ?_⟩
  have : ∀ d ∈ exP.defs, ∀ e ∈ allE d.exp, looksAhead e = false := by decide +kernel
  exact this _ (List.getElem_mem h) e he
theorem ex_def {d : Int} (h : d = 0 ∨ d = 1) : isDefM exP d := ⟨ex_formed, by rcases h with rfl | rfl <;> decide, by rcases h with rfl | rfl <;> decide⟩
theorem ex_fit : fitP exP := by unfold fitP strFit; decide +kernel
theorem ex_stands : (standsM exN).length ≤ 12 := by decide +kernel
theorem ex_plain : plainV exP 0 = .tup [lvI 0, lvI 10, lvI 0] := by
  rw [plainV, dif_pos (ex_def (.inl rfl))]; rfl
theorem ex_passes : passesV exP 1 ⟨3, 0, 8⟩ = .tup [.d (.k (.bool false)), lvI 0] := by
  rw [passesV, dif_pos ⟨ex_def (.inr rfl), by decide⟩]; rfl
theorem ex_asked {d : Int} (h : d = 0 ∨ d = 1) {room : Room} (hr : roomB room = true) : askedB exP d exN room 0 = true := by
  have h1 : formedB exN exP.srcs.length = true := by decide +kernel
  have h2 : lateM exN = [] := by decide +kernel
  have h3 : valB 0 = true := by decide
  simp [askedB, ex_def h, h1, h2, h3, hr]
theorem sortL2 (a b : Loose) : sortL [a, b] = if ltOf' cmpL b a = true then [b, a] else [a, b] := by
  simp only [sortL, Go.Sort.insertionSort]
  rw [Go.Sort.insOuter, if_pos (by simp), Go.Sort.insOuter, if_neg (by simp)]
  simp [Go.Sort.insInner, Go.Sort.swp]
  split <;> rfl
def e2 : Event := ⟨0, 2, ⟨12, 0, 9⟩⟩
def e3 : Event := ⟨0, 3, ⟨14, 0, 2⟩⟩
def sh0 : Shape := ⟨0, 10, 2, []⟩
def sh1 : Shape := ⟨0, 10, 4, [exTerm]⟩
theorem ex_loose0 : looseM exN sh0 19 0 (standsM exN) = [⟨e2, 1⟩, ⟨e3, 1⟩] := by rfl
theorem ex_loose1 : looseM exN sh1 19 0 (standsM exN) = [⟨e3, 1⟩] := by rfl
theorem ex_fixed0 : fixedM exN sh0 19 0 (standsM exN) = [] := by rfl
theorem ex_fixed1 : fixedM exN sh1 19 0 (standsM exN) = [] := by rfl
theorem ex_sort0 : sortL [⟨e2, 1⟩, ⟨e3, 1⟩] = [⟨e3, 1⟩, ⟨e2, 1⟩] := by rw [sortL2]; rfl
theorem ex_sort1 (a : Loose) : sortL [a] = [a] := by
  simp only [sortL, Go.Sort.insertionSort]
  rw [Go.Sort.insOuter, if_neg (by simp)]
theorem ex_bound0 : ofM exP 0 exN ⟨1, 1, 5⟩ 19 0 = (⟨true, false, 2, 16⟩, 0) := by
  rw [ofM, if_pos (ex_asked (.inl rfl) (by decide))]
  have e : plainOf exP (exP.defs.getD (0 : Int).toNat default).exp = (sh0, true) := rfl
  rw [e, if_pos (by decide), boundV]
  have e : plainOf exP (exP.defs.getD (0 : Int).toNat default).exp = (sh0, true) := rfl
  rw [e]
  simp only [ex_loose0, ex_fixed0, ex_sort0]
  refine Prod.ext ?_ rfl
  decide +kernel
theorem ex_bound1 : ofM exP 1 exN ⟨1, 6, 12⟩ 19 0 = (⟨true, true, 2, 7⟩, 0) := by
  rw [ofM, if_pos (ex_asked (.inr rfl) (by decide))]
  have e : plainOf exP (exP.defs.getD (1 : Int).toNat default).exp = (sh1, true) := rfl
  rw [e, if_pos (by decide), boundV]
  have e : plainOf exP (exP.defs.getD (1 : Int).toNat default).exp = (sh1, true) := rfl
  rw [e]
  simp only [ex_loose1, ex_fixed1, ex_sort1]
  refine Prod.ext ?_ rfl
  decide +kernel
end Go.Aft
end
section
set_option maxRecDepth 20000
namespace Go.Aft
open Go.Proofs.Tryz
theorem law_known : AFun prog 19 [] (.d (.k (.bool true))) := by
  have cc := cxS_ok (p := kds [] [] [])
  refine AFun.bodyW (cxS_ok (p := kds [] [] [])) func19 rfl call19 (by rw [ntmps19]; simp) rfl fun hf H => ?_
  have h1 := law_Example
  have h2 := near_Plain exP ex_fit 0
  rw [ex_plain] at h2
  have h3 := near_Passes exP ex_fit 1 ⟨3, 0, 8⟩
  rw [ex_passes] at h3
  have h4 := law_is ex_stands ⟨0, ⟨1, 1, 5⟩, 19, 0⟩ ⟨true, false, 2, 16⟩ ex_fit
  rw [ex_bound0] at h4
  have h5 := law_is ex_stands ⟨1, ⟨1, 6, 12⟩, 19, 0⟩ ⟨true, true, 2, 7⟩ ex_fit
  rw [ex_bound1] at h5
  generalize rProg exP = ep at h1 h2 h3
  simp [rAsk, rRoom, rNB, dB, dI, rRec] at h3 h4 h5
  simp [ntmps19, results19] at hf ⊢
  refine AW.seq cc ?_
  simp
  refine AW.seq cc ?_
  simp
  refine EC.afun h1 ?_
  simp
  refine EC.afun h2 ?_
  simp
  refine AW.seq cc ?_
  simp
  refine EC.afun h1 ?_
  simp
  refine EC.afun h3 ?_
  simp
  refine AW.ev cc ?_
  simp
  refine EC.afun h4 ?_
  simp
  refine EC.afun h5 ?_
  simp
theorem near_NearPlain (p : Prog) (hs : fitP p) (d : Int) (r : Rec) : AFun prog 3 [lv (rProg p), lvI d, lv (rRec r)] (.d (.k (.bool true))) := by
  have cc := cxK_ok (p := kds [3, 5] [] [])
  refine AFun.bodyW (cxK_ok (p := kds [3, 5] [] [])) func3 rfl call3 (by rw [ntmps3]; simp) rfl fun hf H => ?_
  have h1 := near_Plain p hs d
  have h2 := ref17_Plain p hs d
  have h3 := near_Passes p hs d r
  have h4 := ref17_Passes p hs d r
  have hk := law_known
  obtain ⟨a, b, c, hp⟩ : ∃ a b c, plainV p d = .tup [lvI a, lvI b, lvI c] := by
    unfold plainV
    split
    · split <;> exact ⟨_, _, _, rfl⟩
    · exact ⟨_, _, _, rfl⟩
  obtain ⟨x, y, hq⟩ : ∃ x y, passesV p d r = .tup [.d (.k (.bool x)), lvI y] := by
    unfold passesV
    split
    · split <;> exact ⟨_, _, rfl⟩
    · exact ⟨_, _, rfl⟩
  rw [hp] at h1 h2
  rw [hq] at h3 h4
  simp [rProg, rRec] at h1 h2 h3 h4
  simp [ntmps3, results3, rProg, rRec] at hf ⊢
  refine AW.seq cc ?_
  simp
  refine AW.seq cc ?_
  simp
  refine EC.afun h1 ?_
  simp
  refine AW.seq cc ?_
  simp
  refine EC.afun h2 ?_
  simp
  refine AW.seq cc ?_
  simp
  refine EC.afun h3 ?_
  simp
  refine AW.seq cc ?_
  simp
  refine EC.afun h4 ?_
  simp
  refine AW.ev cc ?_
  simp
  refine EC.afun hk ?_
  simp
end Go.Aft
end
