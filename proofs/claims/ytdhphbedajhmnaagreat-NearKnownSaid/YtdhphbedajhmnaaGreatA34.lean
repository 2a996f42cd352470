import Derived.Test.YtdhphbedajhmnaaGreatA33
set_option linter.unusedVariables false
set_option linter.unusedSimpArgs false
set_option linter.deprecated false
section
set_option maxRecDepth 20000
namespace Go.Aft
open Go.Proofs.Tryz
open Go.Sort (swp insInner insOuter insertionSort SWO PermIn SortedIn)
def keyEv (l : List News) : Value → List Event
  | .agg vs => match vs.toList with
    | [.int _ s, .int _ i] => oneM l s i
    | _ => []
  | _ => []
theorem keyEv_kk (l : List News) (s i : Int) : keyEv l (kk s i) = oneM l s i := rfl
def seenEv (l : List News) (es : List (Value × LV)) (seen : List Nat) : List Event := seen.flatMap fun i => ((es[i]?).map fun e => keyEv l e.1).getD []
theorem seenEv_mem {l : List News} {es : List (Value × LV)} (hm : MapN es l) {seen : List Nat} {e : Event} : e ∈ seenEv l es seen ↔ ∃ i ∈ seen, ∃ v, es[i]? = some (kk e.src e.id, v) ∧ e ∈ oneM l e.src e.id := by
  unfold seenEv
  rw [List.mem_flatMap]
  constructor
  · rintro ⟨i, hi, h⟩
    cases hes : es[i]? with
    | none => rw [hes] at h; simp at h
    | some p =>
      obtain ⟨k, v⟩ := p
      rw [hes] at h
      simp only [Option.map_some, Option.getD_some] at h
      obtain ⟨s, id, rfl⟩ := key_kk (hm.key k v (List.mem_of_getElem? hes))
      rw [keyEv_kk] at h
      have := oneM_mem h
      exact ⟨i, hi, v, by rw [hes, this.1, this.2], by rw [this.1, this.2]; exact h⟩
  · rintro ⟨i, hi, v, h1, h2⟩
    exact ⟨i, hi, by rw [h1]; simpa [keyEv_kk] using h2⟩
theorem key_inj {es : List (Value × LV)} (hn : (es.map (·.1)).Nodup) {i j : Nat} {k : Value} {v u : LV} (h1 : es[i]? = some (k, v)) (h2 : es[j]? = some (k, u)) : i = j := by
  have g1 : (es.map (·.1))[i]? = some k := by simp [h1]
  have g2 : (es.map (·.1))[j]? = some k := by simp [h2]
  obtain ⟨a1, b1⟩ := List.getElem?_eq_some_iff.1 g1
  obtain ⟨a2, b2⟩ := List.getElem?_eq_some_iff.1 g2
  rw [List.Nodup, List.pairwise_iff_getElem] at hn
  rcases Nat.lt_trichotomy i j with q | q | q
  · exact absurd (b1.trans b2.symm) (hn i j a1 a2 q)
  · exact q
  · exact absurd (b2.trans b1.symm) (hn j i a2 a1 q)
theorem seenEv_pw {l : List News} {es : List (Value × LV)} (hm : MapN es l) : ∀ {seen : List Nat}, seen.Nodup → (seenEv l es seen).Pairwise (fun a b => ¬ (a.src = b.src ∧ a.id = b.id))
  | [], _ => by simp [seenEv]
  | i :: seen, h => by
    rw [List.nodup_cons] at h
    have ih := seenEv_pw hm h.2
    have e : seenEv l es (i :: seen) = seenEv l es [i] ++ seenEv l es seen := by simp [seenEv]
    rw [e, List.pairwise_append]
    refine ⟨?_, ih, fun a ha b hb => ?_⟩
    · have hl : (seenEv l es [i]).length ≤ 1 := by
        simp only [seenEv, List.flatMap_cons, List.flatMap_nil, List.append_nil]
        cases hes : es[i]? with
        | none => simp
        | some p =>
          obtain ⟨k, v⟩ := p
          obtain ⟨s, id, rfl⟩ := key_kk (hm.key k v (List.mem_of_getElem? hes))
          simp only [Option.map_some, Option.getD_some, keyEv_kk]
          exact oneM_len' _ _ _
      match hq : seenEv l es [i], hl with
      | [], _ => simp
      | [x], _ => simp
    · obtain ⟨i1, j1, v1, k1, _⟩ := (seenEv_mem hm).1 ha
      obtain ⟨i2, j2, v2, k2, _⟩ := (seenEv_mem hm).1 hb
      rintro ⟨q1, q2⟩
      rw [q1, q2] at k1
      have := key_inj hm.nd k1 k2
      simp at j1
      subst j1; subst this
      exact h.1 j2
theorem nodup_sub_len {α : Type} [DecidableEq α] : ∀ {a b : List α}, a.Nodup → (∀ x ∈ a, x ∈ b) → a.length ≤ b.length
  | [], b, _, _ => by simp
  | x :: a, b, h, hs => by
    rw [List.nodup_cons] at h
    have hx := hs x (List.mem_cons_self ..)
    have := nodup_sub_len (a := a) (b := b.erase x) h.2 fun y hy => (List.mem_erase_of_ne (fun e : y = x => h.1 (by rw [← e]; exact hy))).2 (hs y (List.mem_cons_of_mem _ hy))
    rw [List.length_erase_of_mem hx] at this
    have hpos : 0 < b.length := List.length_pos_of_mem hx
    simp only [List.length_cons]; omega
theorem seenEv_len {l : List News} {es : List (Value × LV)} (hm : MapN es l) {seen : List Nat} (h : seen.Nodup) : (seenEv l es seen).length ≤ (standsM l).length := by
  refine nodup_sub_len ((seenEv_pw hm h).imp fun {a b} q e => q (by rw [e]; exact ⟨rfl, rfl⟩)) fun x hx => ?_
  obtain ⟨i, _, v, _, h2⟩ := (seenEv_mem hm).1 hx
  exact (standsM_mem l x).2 h2
theorem mfind_mem {k : Value} : ∀ {es : List (Value × LV)} {v : LV}, mfind k es = some v → ∃ e ∈ es, kEq k e.1 = true
  | [], v, h => by simp [mfind] at h
  | e :: es, v, h => by
    rw [mfind] at h
    split at h
    · rename_i q; exact ⟨e, List.mem_cons_self .., q⟩
    · obtain ⟨x, h1, h2⟩ := mfind_mem h; exact ⟨x, List.mem_cons_of_mem _ h1, h2⟩
theorem seenEv_all {l : List News} {es : List (Value × LV)} (hm : MapN es l) {seen : List Nat} (h : ∀ i, i < es.length → i ∈ seen) (e : Event) : e ∈ seenEv l es seen ↔ e ∈ oneM l e.src e.id := by
  rw [seenEv_mem hm]
  constructor
  · rintro ⟨_, _, _, _, h⟩; exact h
  · intro he
    have hl : ∃ n, lastM l e.src e.id = some n := by
      unfold oneM at he
      split at he
      · rename_i n hn; exact ⟨n, hn⟩
      · simp at he
    obtain ⟨n, hn⟩ := hl
    have hg := hm.get e.src e.id
    rw [hn] at hg
    obtain ⟨p, hp, hk⟩ := mfind_mem hg
    obtain ⟨s, id, q⟩ := key_kk (hm.key p.1 p.2 hp)
    rw [q, kEq_kk] at hk
    simp only [decide_eq_true_eq] at hk
    obtain ⟨i, hi, hpi⟩ := List.mem_iff_getElem.1 hp
    refine ⟨i, h i hi, p.2, ?_, he⟩
    rw [List.getElem?_eq_getElem hi, hpi, hk.1, hk.2, ← q]
theorem sortE_perm (xs : List Event) : (sortE xs).Perm xs := by
  have h := (Go.Sort.insertionSort_holds cmpE_swo xs.toArray 0 xs.toArray.size (Nat.zero_le _) (Nat.le_refl _)).1
  have h3 := h.2.2
  have e1 := h.1
  simp only [List.size_toArray] at h3 e1
  have hx : (xs.toArray.extract 0 xs.length).toList = xs := by simp
  have hy : ((insertionSort (ltOf' cmpE) xs.toArray 0 xs.length).extract 0 xs.length).toList = sortE xs := by
    rw [sortE]
    generalize insertionSort (ltOf' cmpE) xs.toArray 0 xs.length = D at e1
    rw [← e1]; simp
  rw [hx, hy] at h3
  exact h3
theorem sortE_sorted {xs : List Event} (h : xs.Pairwise (fun a b => ¬ (a.src = b.src ∧ a.id = b.id))) : (sortE xs).Pairwise evLt := by
  have h2 := (Go.Sort.insertionSort_holds cmpE_swo xs.toArray 0 xs.toArray.size (Nat.zero_le _) (Nat.le_refl _)).2
  have hp : (sortE xs).Pairwise (fun a b => ¬ (a.src = b.src ∧ a.id = b.id)) := (sortE_perm xs).symm.pairwise h (fun {a b} q e => q ⟨e.1.symm, e.2.symm⟩)
  rw [List.pairwise_iff_getElem] at hp ⊢
  intro i j hi hj hij
  have hl := (sortE_perm xs).length_eq
  have h3 := h2 i j (Nat.zero_le _) hij (by simp; omega)
  have hsz : (insertionSort (ltOf' cmpE) xs.toArray 0 xs.length).size = xs.length := by
    have := (Go.Sort.insertionSort_holds cmpE_swo xs.toArray 0 xs.toArray.size (Nat.zero_le _) (Nat.le_refl _)).1.1
    simpa using this
  simp only [List.size_toArray] at h3
  rw [getElem!_pos _ i (by omega), getElem!_pos _ j (by omega)] at h3
  simp only [ltOf', decide_eq_false_iff_not, cmpE_lt] at h3
  have g : ∀ k (hk : k < (sortE xs).length), (sortE xs)[k] = (insertionSort (ltOf' cmpE) xs.toArray 0 xs.length)[k]'(by omega) := fun k hk => by simp [sortE]
  rw [← g i hi, ← g j hj] at h3
  rcases evLt_tri _ _ h3 with q | q
  · exact q
  · exact absurd ⟨q.1.symm, q.2.symm⟩ (hp i j hi hj hij)
theorem sortE_all {l : List News} {es : List (Value × LV)} (hm : MapN es l) {seen : List Nat} (h1 : seen.Nodup) (h : ∀ i, i < es.length → i ∈ seen) : sortE (seenEv l es seen) = standsM l :=
  standsM_eq (sortE_sorted (seenEv_pw hm h1)) fun e => ((sortE_perm _).mem_iff).trans (seenEv_all hm h e)
theorem hist_Stands (l : List News) (srcs : Int) (h12 : (standsM l).length ≤ 12) : AFun prog 81 [sl (l.map rNews), lvI srcs] (if formedB l srcs = true then .tup [sl ((standsM l).map rEvent), lvI 0] else .tup [sl [], lvI 2]) := by
  intro H
  have cc := cxS_ok (p := kds [] [] [28])
  refine ECall.bodyNW (cxS_ok (p := kds [] [] [28])) func81 rfl call81 (by rw [ntmps81]; simp) rfl fun hf hw => ?_
  have hfm := hist_formed l srcs
  simp at hfm
  simp [ntmps81, results81] at hf ⊢
  refine AW.seq cc ?_
  simp
  refine AW.seq cc ?_
  simp
  refine EC.afun hfm ?_
  cases hp : formedB l srcs with
  | false =>
    simp
    exact fun hz => hz.drop (Nat.le_refl _)
  | true =>
    obtain ⟨hsrc, hlen⟩ := formed_src hp
    simp
    refine AW.seq cc ?_
    simp
    have hall := hist_all l hsrc H
    simp at hall
    refine EC.of hall (fun v H1 hR => ?_) (fun v H1 hR => ?_)
    rotate_left
    · cases hR.1
    obtain ⟨e, es, hm, hH1⟩ := hR
    cases e
    have b1 : H1.next = H.next + 2 := by rw [hH1]; rfl
    have b2 : H1.obj (H.next + 1) = some (heardO H.next l) := by rw [hH1]; simp [GH.add_obj, GH.add_next]
    have b3 : H1.obj H.next = some (.map es) := by rw [hH1]; simp [GH.add_obj, GH.add_next]
    have b4 : ∀ k, k < H.next → H1.obj k = H.obj k := fun k hk => by rw [hH1, GH.add_obj, GH.add_next, if_neg (by omega), GH.add_obj, if_neg (by omega)]
    clear hH1
    simp
    refine AW.seq cc ?_
    simp
    refine AW.seq cc ?_
    simp [b2, b3, heardO]
    refine AW.loopS cc (fun a : List Nat × LV × GH => ⟨[(6, .gp (H.next + 1) 0), (7, a.2.1), (19, .gp (H.next + 2) 0)], [], a.2.2⟩) (fun a => unm es.length (fun i => decide (i ∈ a.1)))
      (fun a => a.1.Nodup ∧ (∀ i ∈ a.1, i < es.length) ∧ VApp 63 5 (H1.add (.iter H.next es.length a.1 es.length)) a.2.1 ((seenEv l es a.1).map rEvent) a.2.2)
      ([], .d (.k (.slice none 0 0)), H1.add (.iter H.next es.length [] es.length)) ⟨⟨by simp, by simp, by simpa [seenEv] using VApp.nil⟩, by simp [b1]⟩ ?_
    rintro ⟨seen, x, H2⟩ ⟨s1, s2, hv⟩
    simp only at s1 s2 hv
    have oi : H2.obj (H.next + 2) = some (.iter H.next es.length seen es.length) := by rw [hv.ob _ (by rw [GH.add_next]; omega), GH.add_obj, if_pos b1.symm]
    have om : H2.obj H.next = some (.map es) := by rw [hv.ob _ (by rw [GH.add_next]; omega), GH.add_obj, if_neg (by omega)]; exact b3
    have oh : H2.obj (H.next + 1) = some (heardO H.next l) := by rw [hv.ob _ (by rw [GH.add_next]; omega), GH.add_obj, if_neg (by omega)]; exact b2
    have hkeys : es.all (fun e => keyOk e.1) = true := List.all_eq_true.2 fun e he => by
      obtain ⟨s, i, q⟩ := key_kk (hm.key e.1 e.2 he)
      rw [q]; rfl
    simp
    refine ST.next (n := H.next + 2) (m := H.next) (seen := seen) (es := es) (by simp) oi om (by simp) rfl rfl hkeys (fun i e he hi => ?_) (fun hend => ?_)
    · obtain ⟨s, id, hk⟩ := key_kk (hm.key e.1 e.2 (List.mem_of_getElem? he))
      have hi' := (List.getElem?_eq_some_iff.1 he).1
      simp
      refine ST.entry (n := H.next + 2) (m := H.next) (seen := seen ++ [i]) (es := es) (i := i) (e := e) (by simp) (by rw [GH.set_same]) (by rw [GH.set_obj, if_neg (by omega)]; exact om) (by simp) rfl hkeys (by simp) he ?_
      rw [hk]
      obtain ⟨H3, hH3⟩ : ∃ H3, H2.set (H.next + 2) (GO.iter H.next es.length (seen ++ [i]) es.length) = H3 := ⟨_, rfl⟩
      have hv3 := hv.set (k := H.next + 2) (by rw [GH.add_next]; omega) (.iter H.next es.length (seen ++ [i]) es.length)
      have hset : ∀ a b : GO, (H1.add a).set (H.next + 2) b = H1.add b := fun a b => by rw [← b1]; exact GH.add_set
      rw [hH3, hset] at hv3
      have n3 : H3.next = H2.next := by rw [← hH3]; rfl
      have n2 := hv.nx
      rw [GH.add_next] at n2
      have om3 : H3.obj H.next = some (.map es) := by rw [← hH3, GH.set_obj, if_neg (by omega)]; exact om
      have oh3 : H3.obj (H.next + 1) = some (heardO H.next l) := by rw [← hH3, GH.set_obj, if_neg (by omega)]; exact oh
      have hst := hist_stands l s id H.next (H.next + 1) es H3 hm oh3 om3
      simp at hst
      simp [keyLV, kk, hH3]
      refine ⟨hv.plain.unP, by omega, EC.of hst (fun v H4 hR => ?_) (fun v H4 hR => ?_)⟩
      rotate_left
      · cases hR.1
      obtain ⟨e1, rfl⟩ := hR
      cases e1
      simp [hv.plain.all]
      have hse : seenEv l es (seen ++ [i]) = seenEv l es seen ++ oneM l s id := by
        simp only [seenEv, List.flatMap_append, List.flatMap_cons, List.flatMap_nil, List.append_nil, he, Option.map_some, Option.getD_some, hk, keyEv_kk]
      have hsn : (seen ++ [i]).Nodup := by
        rw [List.nodup_append]
        exact ⟨s1, by simp, fun a ha b hb => by simp at hb; subst hb; intro q; subst q; exact hi ha⟩
      have hle := seenEv_len hm hsn
      rw [hse, List.length_append] at hle
      refine APK.appV (ys := (oneM l s id).map rEvent) tyE59 rfl tyE63 (by simp) (x := x) (by simp) hv3 (by simp [srcOf, rowsOf]) (by simp) (rEvent_all _) (rEvent_all _) (by simp; omega) (by simp) fun x' H5 h5 _ _ => ?_
      simp [h5.plain.all]
      refine NX.go (seen ++ [i], x', H5) ?_ ⟨hsn, fun j hj => ?_, ?_⟩ (by simp [h5.only])
      · have := unm_mark (n := es.length) (M := fun j => decide (j ∈ seen)) hi' (by simpa using hi)
        have e2 : markK (fun j => decide (j ∈ seen)) i = fun j => decide (j ∈ seen ++ [i]) := by
          funext j; simp only [markK]; by_cases q : j = i <;> simp [q]
        rw [e2] at this; exact this
      · rcases List.mem_append.1 hj with q | q
        · exact s2 j q
        · simp at q; subst q; exact hi'
      · rw [hse, List.map_append]; exact h5
    · simp
      have hle := seenEv_len hm s1
      have hsb := hist_sortedBy (seenEv l es seen) (by omega) x (H1.add (.iter H.next es.length seen es.length)) H2 hv
      refine AW.seq cc ?_
      simp [hv.plain.all]
      refine ⟨hv.nb, EC.of hsb (fun v H3 hR => ?_) (fun v H3 hR => ?_)⟩
      rotate_left
      · cases hR.1
      obtain ⟨e1, hv3, n3⟩ := hR
      cases e1
      rw [sortE_all hm s1 hend] at hv3
      have n2 := hv3.nx
      rw [GH.add_next] at n2
      have o3 : ∀ m, m < H.next → H3.obj m = H.obj m := fun m hm => by rw [hv3.ob m (by rw [GH.add_next]; omega), GH.add_obj, if_neg (by omega)]; exact b4 m hm
      simp [hv3.plain.all]
      rcases hv3.is with ⟨q1, rfl⟩ | ⟨n, g, q1, q2, rfl, q4, q5⟩
      · refine AW.ev cc ?_
        simp
        exact fun _ => ⟨Drop_same (by omega) o3 hw.none, by simpa using q1⟩
      · rw [GH.add_next] at q1
        refine AW.thaw (n := n) (g := g) (sz := 5) (e := 63) (ex := false) ((standsM l).map rEvent) q4 rfl (rEvent_all _) ?_
        refine AW.ev cc ?_
        simp
        exact fun _ => ⟨Drop_same (by simp only; omega) (fun m hm => thaw_lt hw (by omega) o3 hm) hw.none, List.take_of_length_le (by simp)⟩
end Go.Aft
end
section
set_option maxRecDepth 20000
namespace Go.Aft
open Go.Proofs.Tryz
open Go.Sort (swp insInner insOuter insertionSort SWO PermIn SortedIn)
theorem AW.weak {P : Program} {rd : RD} {x : Code} {s : S} {Q : QT} {n : Nat} {cs : List LV} (cs' : List LV) (hn : s.H.obj n = some (.box cs)) (hc : ∀ G nx vs, LRs G nx noL cs vs → LRs G nx noL cs' vs)
    (h : @AW P rd ⟨x⟩ { s with H := s.H.set n (.box cs') } Q) : @AW P rd ⟨x⟩ s Q := by
  refine fun E a w hs => h E a w ?_
  obtain ⟨h2, G, lm, h1, hM, hx, henv, he⟩ := hs
  refine ⟨h2, G, lm, h1, ⟨hM.imm, fun b o v hv => ?_, hM.fresh, hM.lmL, hM.loc, fun m o ho => ?_⟩, ⟨⟨hx.le, hx.nx, hx.os, hx.tape, hx.output, hx.size, hx.frame, hx.own⟩, hx.nl⟩, henv, he⟩
  · rcases hM.immOwn b o v hv with q | ⟨m, e, sz, k, q1, q2, q3⟩
    · exact .inl q
    · refine .inr ⟨m, e, sz, k, q1, ?_, q3⟩
      have : m ≠ n := fun e => by rw [e, hn] at q2; cases q2
      show (s.H.set n (.box cs')).obj m = _
      rw [GH.set_obj, if_neg this]; exact q2
  · have ho' : (s.H.set n (.box cs')).obj m = some o := ho
    rw [GH.set_obj] at ho'
    split at ho'
    · rename_i e
      subst e
      cases ho'
      obtain ⟨q1, q2, vs, q3, q4⟩ := hM.nmd _ _ hn
      exact ⟨q1, q2, vs, q3, hc _ _ _ q4⟩
    · exact hM.nmd m o ho'
theorem LR_nilS {G : Gh} {nx : Nat} {lm : Nat → Option Nat} {v : Value} (h : LR G nx lm nilS v) : LR G nx lm (.d (.sl [])) v := by
  simpa [LV.nz, DV.nz] using LR_nz nilS v h
theorem VApp.keep {e e' : TypeId} {sz sz' : Nat} {H0 H H5 : GH} {y z : LV} {rows rows' : List (List DV)} (hy : VApp e sz H0 y rows H) (hz : VApp e' sz' H0 z rows' H) (hne : e ≠ e') (hn : H.next ≤ H5.next) (ho : ∀ m, m < H0.next → H5.obj m = H0.obj m)
    (hfr : ∀ m, m < H.next → (∀ g i l, z ≠ .vs m g sz' i l) → H5.obj m = H.obj m) : VApp e sz H0 y rows H5 := by
  refine ⟨?_, Nat.le_trans hy.nx hn, ho⟩
  rcases hy.is with q | ⟨n, g, q1, q2, q3, q4, q5⟩
  · exact .inl q
  · refine .inr ⟨n, g, q1, by omega, q3, ?_, q5⟩
    rw [hfr n q2 fun g' i l hzz => ?_]
    · exact q4
    · rcases hz.is with ⟨_, r⟩ | ⟨n', g'', _, _, r3, r4, _⟩
      · rw [r] at hzz; cases hzz
      · rw [r3] at hzz
        cases hzz
        rw [q4] at r4
        simp only [Option.some.injEq, GO.vec.injEq] at r4
        exact hne r4.1
def verStep (src id : Int) (acc : Int) (n : News) : Int := if n.do_ ≠ 3 ∧ n.src = src ∧ n.id = id then maxI acc n.ver else acc
def verM (l : List News) (src id : Int) : Int := l.foldl (verStep src id) 0
structure MapV (es : List (Value × LV)) (l : List News) (src : Int) : Prop where
  get : ∀ id : Int, (mfind (.int .i64 id) es).getD (lvI 0) = lvI (verM l src id)
  key : ∀ (a : Value) (b : LV), (a, b) ∈ es → (KK.sc (.int .i64)).has a = true
  nb : ∀ n, nbs n (es.map (·.2))
theorem MapV.nil (src : Int) : MapV [] [] src := ⟨fun _ => rfl, fun _ _ h => absurd h List.not_mem_nil, fun _ => trivial⟩
theorem key_int {a : Value} (h : (KK.sc (.int .i64)).has a = true) : ∃ i, a = .int .i64 i := by
  cases a <;> simp [KK.has, Sc.has] at h
  subst h; exact ⟨_, rfl⟩
theorem mfind_putI : ∀ (es : List (Value × LV)) (v : LV) (i id : Int), (∀ (a : Value) (b : LV), (a, b) ∈ es → (KK.sc (.int .i64)).has a = true) → mfind (.int .i64 id) (mput (.int .i64 i) v es) = if id = i then some v else mfind (.int .i64 id) es
  | [], v, i, id, _ => by simp [mput, mfind, kEq_int]
  | (a, b) :: es, v, i, id, h => by
    obtain ⟨i', rfl⟩ := key_int (h a b (by simp))
    have ih := mfind_putI es v i id fun a b hab => h a b (List.mem_cons_of_mem _ hab)
    simp only [mput, kEq_int]
    by_cases e : i = i'
    · subst e
      simp only [decide_true, if_true, mfind, kEq_int]
      by_cases e2 : id = i <;> simp [e2]
    · simp only [e, decide_false, Bool.false_eq_true, if_false, mfind, kEq_int, ih]
      by_cases e2 : id = i'
      · subst e2
        have : ¬ id = i := fun q => e q.symm
        simp [this]
      · simp [e2]
theorem mput_keyI (v : LV) (i : Int) : ∀ (es : List (Value × LV)), (∀ (a : Value) (b : LV), (a, b) ∈ es → (KK.sc (.int .i64)).has a = true) → ∀ (a : Value) (b : LV), (a, b) ∈ mput (.int .i64 i) v es → (KK.sc (.int .i64)).has a = true
  | [], _, a, b, hab => by
    simp only [mput, List.mem_singleton, Prod.mk.injEq] at hab
    rw [hab.1]; rfl
  | (c, d) :: es, h, a, b, hab => by
    simp only [mput] at hab
    split at hab
    · rcases List.mem_cons.1 hab with q | q
      · cases q; rfl
      · exact h a b (List.mem_cons_of_mem _ q)
    · rcases List.mem_cons.1 hab with q | q
      · rw [show a = c from (Prod.mk.inj q).1]; exact h c d (List.mem_cons_self ..)
      · exact mput_keyI v i es (fun a b hab => h a b (List.mem_cons_of_mem _ hab)) a b q
theorem verM_snoc (l : List News) (n : News) (src id : Int) : verM (l ++ [n]) src id = verStep src id (verM l src id) n := by simp [verM]
theorem MapV.put {es : List (Value × LV)} {l : List News} {n : News} (h : MapV es l n.src) (h3 : n.do_ ≠ 3) : MapV (mput (.int .i64 n.id) (lvI (maxI (verM l n.src n.id) n.ver)) es) (l ++ [n]) n.src := by
  refine ⟨fun id => ?_, mput_keyI _ _ _ h.key, fun m => mput_nb _ _ _ (by simp [LV.nb]) _ (h.nb m)⟩
  rw [mfind_putI _ _ _ _ h.key, verM_snoc, verStep]
  by_cases e : id = n.id
  · subst e; rw [if_pos rfl, if_pos ⟨h3, rfl, rfl⟩]; rfl
  · rw [if_neg e, if_neg (fun q => e q.2.2.symm)]; exact h.get id
theorem MapV.keep {es : List (Value × LV)} {l : List News} {src : Int} (h : MapV es l src) {n : News} (hk : ¬ (n.do_ ≠ 3 ∧ n.src = src)) : MapV es (l ++ [n]) src := by
  refine ⟨fun id => ?_, h.key, h.nb⟩
  rw [h.get, verM_snoc, verStep, if_neg (fun q => hk ⟨q.1, q.2.1⟩)]
theorem loose_insertion0 (F : FuncId) (cap : List LV) (hcap : ∀ n, nbs n cap) : AFun prog 202 [nilS, lvI 0, lvI 0, .fn (.func F) [] cap] (.tup []) := by
  have cc := cxK_ok (p := kds [] [] [])
  refine AFun.body (cxK_ok (p := kds [] [] [])) func202 rfl call202 (by rw [ntmps202]; simp) rfl fun hf H => ?_
  have w1 : IntKind.wrap .i64 1 = 1 := rfl
  simp [ntmps202, results202, w1]
  refine AW.loopS cc (fun _ : Unit => ⟨[(0, nilS), (1, lvI 0), (2, lvI 0), (3, .fn (.func F) [] cap), (8, lvI 1)], [], H⟩) (fun _ => 0) (fun _ => True) () ⟨trivial, by simp [nbs_only _ (hcap 0)]⟩ ?_
  rintro _ _
  simp
theorem loose_SortStable0 (F : FuncId) (cap : List LV) (hcap : ∀ n, nbs n cap) : AFun prog 100 [nilS, .fn (.func F) [] cap] (.tup []) := by
  have cc := cxK_ok (p := kds [] [] [])
  have h148 : AFun prog 148 [nilS, lvI 0, .fn (.func F) [] cap] (.tup []) := by
    refine AFun.body (cxK_ok (p := kds [] [] [])) func148 rfl call148 (by rw [ntmps148]; simp) rfl fun hf H => ?_
    have hi := loose_insertion0 F cap hcap
    simp [ntmps148, results148] at hi ⊢
    refine AW.loopS cc (fun _ : Unit => ⟨[(0, nilS), (1, lvI 0), (2, .fn (.func F) [] cap), (6, lvI 20), (7, lvI 0), (8, lvI 20)], [], H⟩) (fun _ => 0) (fun _ => True) () ⟨trivial, by simp [nbs_only _ (hcap 0)]⟩ ?_
    rintro _ _
    simp [hcap]
    refine EC.afun hi ?_
    simp
    refine AW.loopS cc (fun _ : Unit => ⟨[(0, nilS), (1, lvI 0), (2, .fn (.func F) [] cap), (6, lvI 20)], [], H⟩) (fun _ => 0) (fun _ => True) () ⟨trivial, by simp [nbs_only _ (hcap 0)]⟩ ?_
    rintro _ _
    simp
  refine AFun.body (cxK_ok (p := kds [] [] [])) func100 rfl call100 (by rw [ntmps100]; simp) rfl fun hf H => ?_
  simp [ntmps100, results100] at h148 ⊢
  simp [hcap]
  refine EC.afun h148 ?_
  simp
end Go.Aft
end
section
set_option maxRecDepth 20000
namespace Go.Aft
open Go.Proofs.Tryz
open Go.Sort (swp insInner insOuter insertionSort SWO PermIn SortedIn)
def cmpL (a b : Loose) : Int := a.ev.rec_.val - b.ev.rec_.val
theorem cmpL_swo : SWO (ltOf' cmpL) where
  irrefl x := by simp [ltOf', cmpL]
  trans x y z h1 h2 := by
    have a : cmpL x y < 0 := by simpa [ltOf'] using h1
    have b : cmpL y z < 0 := by simpa [ltOf'] using h2
    have : cmpL x z < 0 := by unfold cmpL at *; omega
    simpa [ltOf'] using this
  ntrans x y z h1 h2 := by
    have a : ¬ cmpL x y < 0 := by simpa [ltOf'] using h1
    have b : ¬ cmpL y z < 0 := by simpa [ltOf'] using h2
    have : ¬ cmpL x z < 0 := by unfold cmpL at *; omega
    simpa [ltOf'] using this
def sortL (xs : List Loose) : List Loose := (insertionSort (ltOf' cmpL) xs.toArray 0 xs.length).toList
theorem sortL_len (xs : List Loose) : (sortL xs).length = xs.length := by
  have := (Go.Sort.insertionSort_holds cmpL_swo xs.toArray 0 xs.toArray.size (Nat.zero_le _) (Nat.le_refl _)).1.1
  simpa [sortL] using this
theorem loose_sort (xs : List Loose) (hlen : xs.length ≤ 19) (hv : ∀ x ∈ xs, inMost x.ev.rec_.val) (z : LV) (B H : GH) (hz : VApp 181 6 B z (xs.map rLoose) H) :
    ECall prog 100 [z, .fn (.func 101) [] []] H fun ce H' => (∃ v, ce = .ret v) ∧ VApp 181 6 B z ((sortL xs).map rLoose) H' ∧ H.next ≤ H'.next ∧ ∀ m, m < H.next → (∀ g i l, z ≠ .vs m g 6 i l) → H'.obj m = H.obj m := by
  have hcap : ∀ n, nbs n ([] : List LV) := fun n => by simp [nbs]
  rcases id hz.is with ⟨e1, e2⟩ | ⟨n, g, q1, q2, q3, q4, q5⟩
  · have hxs : xs = [] := by simpa using e1
    subst hxs; subst e2
    refine (loose_SortStable0 101 [] hcap H).mono fun ce H' hR => ?_
    obtain ⟨rfl, rfl⟩ := hR
    exact ⟨⟨_, rfl⟩, by simpa [sortL, insertionSort, Go.Sort.insOuter] using hz, Nat.le_refl _, fun _ _ _ => rfl⟩
  · have hxs : xs ≠ [] := by simpa using q5
    subst q3
    have hs := loose_SortStable (fun x => inMost x.ev.rec_.val) cmpL 101 [] hcap (fun a b ha hb => by simpa [cmpL] using near_look1 a b ha hb) xs.toArray (fun i hi => by
      simp only [List.size_toArray] at hi
      rw [getElem!_pos _ i (by simpa using hi)]; exact hv _ (by simp)) (by simpa using hlen) n g false H (by simpa [vecO, rowsV] using q4)
    simp at hs ⊢
    refine hs.mono fun ce H' hR => ?_
    obtain ⟨hr, rfl⟩ := hR
    refine ⟨hr, ⟨.inr ⟨n, g, q1, q2, by simp [sortL_len], ?_, ?_⟩, hz.nx, fun m hm => ?_⟩, by rw [GH.set_next]; exact Nat.le_refl _, fun m hm hne => ?_⟩
    · rw [GH.set_same]; simp [vecO, rowsV, sortL]
    · intro q
      have := congrArg List.length q
      simp [sortL_len] at this
      exact hxs this
    · rw [GH.set_obj, if_neg (by omega)]; exact hz.ob m hm
    · rw [GH.set_obj, if_neg]
      intro e; subst e; exact hne g 0 xs.length rfl rfl rfl rfl
theorem sceneO_thaw (s : Scene) (m0 : Nat) (hv : s.vers = .gm m0) (n g sz : Nat) (rows : List (List DV)) : (sceneO s).thaw n g sz rows = sceneO { s with vals := s.vals.thaw n g sz rows, loose := s.loose.thaw n g sz rows } := by
  simp [sceneO, GO.thaw, thaws, LV.thaw, rShape, rRoom, rRec, hv]
theorem sceneO_weak {G : Gh} {nx : Nat} (s : Scene) (y z : LV) (hy : ∀ v, LR G nx noL s.vals v → LR G nx noL y v) (hz : ∀ v, LR G nx noL s.loose v → LR G nx noL z v) (vs : List Value)
    (h : LRs G nx noL ((rShape s.sh).map .d ++ (rRoom s.room).map .d ++ [s.vals, s.loose, .d (.k (.bool s.has))] ++ (rRec s.low).map .d ++ (rRec s.high).map .d ++ [s.vers]) vs) :
    LRs G nx noL ((rShape s.sh).map .d ++ (rRoom s.room).map .d ++ [y, z, .d (.k (.bool s.has))] ++ (rRec s.low).map .d ++ (rRec s.high).map .d ++ [s.vers]) vs := by
  refine LRs_of_get (by rw [LRs_length h]; simp) fun i x v hx hvv => ?_
  by_cases e7 : i = 7
  · subst e7
    obtain ⟨v', h1, h2⟩ := LRs_get h 7 s.vals rfl
    rw [h1] at hvv; cases hvv
    have : x = y := by simpa [rShape, rRoom, rRec] using hx.symm
    rw [this]; exact hy _ h2
  · by_cases e8 : i = 8
    · subst e8
      obtain ⟨v', h1, h2⟩ := LRs_get h 8 s.loose rfl
      rw [h1] at hvv; cases hvv
      have : x = z := by simpa [rShape, rRoom, rRec] using hx.symm
      rw [this]; exact hz _ h2
    · have hx' : ((rShape s.sh).map LV.d ++ (rRoom s.room).map LV.d ++ [s.vals, s.loose, .d (.k (.bool s.has))] ++ (rRec s.low).map LV.d ++ (rRec s.high).map LV.d ++ [s.vers])[i]? = some x := by
        have hi : i < 17 := by
          have := (List.getElem?_eq_some_iff.1 hx).1
          simpa [rShape, rRoom, rRec] using this
        rw [← hx]
        simp only [rShape, rRoom, rRec, List.map_cons, List.map_nil, List.cons_append, List.nil_append]
        match i, hi, e7, e8 with
        | 0, _, _, _ | 1, _, _, _ | 2, _, _, _ | 3, _, _, _ | 4, _, _, _ | 5, _, _, _ | 6, _, _, _ | 9, _, _, _ | 10, _, _, _ | 11, _, _, _ | 12, _, _, _ | 13, _, _, _ | 14, _, _, _ | 15, _, _, _ | 16, _, _, _ => rfl
      obtain ⟨v', h1, h2⟩ := LRs_get h i x hx'
      rw [h1] at hvv; cases hvv
      exact h2
structure FzTo (k : Nat) (N : Nat) (sc : GO) (s s2 : S) : Prop where
  sc : s2.H.obj k = some sc
  ob : ∀ m, m < N → m ≠ k → s2.H.obj m = s.H.obj m
  nx : s.H.next ≤ s2.H.next
  env : ∀ t n off, s.env t = .gp n off → s2.env t = .gp n off
  nt : s2.nt = s.nt
  df : s2.df = s.df
theorem AW.scene_fz1 {P : Program} {rd : RD} {x : Code} {s : S} {Q : QT} {B : GH} {sc : Scene} {m0 k : Nat} {rows : List (List DV)} (hy : VApp 3 1 B sc.vals rows s.H) (hr : ∀ r ∈ rows, r.length = 1) (hv : sc.vers = .gm m0) (hk : k < B.next) (ho : s.H.obj k = some (sceneO sc))
    (hB : ∀ m o, m < B.next → m ≠ k → s.H.obj m = some o → o.nb B.next)
    (h : ∀ s2, FzTo k B.next (sceneO { sc with vals := sl rows, loose := sc.loose }) s s2 → (∀ e g sz rws n, (∀ g' sz' i l, sc.vals ≠ .vs n g' sz' i l) → s.H.obj n = some (.vec e g sz (flatD rws) false) → s2.H.obj n = some (.vec e g sz (flatD rws) false)) →
      (∀ n' g' sz' i l, sc.loose = .vs n' g' sz' i l → ∀ g i' l', sc.vals ≠ .vs n' g 1 i' l') → @AW P rd ⟨x⟩ s2 Q)
    (hzv : ∀ n' g' sz' i l, sc.loose = .vs n' g' sz' i l → ∀ g i' l', sc.vals ≠ .vs n' g 1 i' l') (hzp : (∃ n' g' sz' i l, sc.loose = .vs n' g' sz' i l) ∨ ∃ d, sc.loose = .d d) : @AW P rd ⟨x⟩ s Q := by
  rcases id hy.is with ⟨e1, e2⟩ | ⟨n, g, q1, q2, q3, q4, q5⟩
  · subst e1
    refine AW.weak (n := k) _ ho (fun G nx vs hh => sceneO_weak sc (.d (.sl [])) sc.loose (fun v hv => LR_nilS (by rw [nilS, ← e2]; exact hv)) (fun v hv => hv) vs hh) (h _ ⟨by rw [GH.set_same]; rfl, fun m hm hne => by rw [GH.set_obj, if_neg hne], Nat.le_refl _, fun t n off he => he, rfl, rfl⟩ ?_ hzv)
    intro e g sz rws n hne hn
    rw [GH.set_obj, if_neg]
    · exact hn
    · intro e'; subst e'; rw [ho] at hn; simp [sceneO] at hn
  · refine AW.thaw (n := n) (g := g) (sz := 1) (e := 3) (ex := false) rows q4 rfl hr (h _ ⟨?_, fun m hm hne => ?_, Nat.le_refl _, fun t n off he => ?_, rfl, rfl⟩ ?_ hzv)
    · simp only [S.thaw, GH.thaw]
      rw [if_neg (by omega), ho, Option.map_some, sceneO_thaw sc m0 hv]
      congr 3
      · rw [q3]; simp
      · rcases hzp with ⟨n', g', sz', i, l, e⟩ | ⟨d, e⟩
        · rw [e]; simp only [LV.thaw]
          rw [if_neg]
          rintro ⟨rfl, _⟩
          exact hzv _ _ _ _ _ e _ _ _ q3
        · rw [e]; rfl
    · simp only [S.thaw, GH.thaw]
      rw [if_neg (by omega)]
      cases hm' : s.H.obj m with
      | none => rfl
      | some o => rw [Option.map_some, GO.thaw_nb (N := B.next) q1 (hB m o hm hne hm')]
    · simp only [S.thaw, he, LV.thaw]
    · intro e g2 sz rws n2 hne hn
      simp only [S.thaw, GH.thaw]
      rw [if_neg, hn]
      · simp only [Option.map_some, GO.thaw]
        rw [thaws_nb (N := 0) (Nat.zero_le _) _ (flatD_nbs _ _)]
      · intro e'; subst e'; exact hne _ _ _ _ q3
theorem AW.scene_fz2 {P : Program} {rd : RD} {x : Code} {s : S} {Q : QT} {sc : Scene} {m0 k N : Nat} {rows rowsY : List (List DV)} (hz : rows = [] ∧ sc.loose = nilS ∨ ∃ n g, N ≤ n ∧ sc.loose = .vs n g 6 0 rows.length ∧ s.H.obj n = some (.vec 181 g 6 (flatD rows) false)) (hr : ∀ r ∈ rows, r.length = 6) (hy : sc.vals = sl rowsY) (hv : sc.vers = .gm m0) (hk : k < N) (ho : s.H.obj k = some (sceneO sc))
    (hB : ∀ m o, m < N → m ≠ k → s.H.obj m = some o → o.nb N)
    (h : ∀ s2, FzTo k N (sceneO { sc with loose := sl rows }) s s2 → @AW P rd ⟨x⟩ s2 Q) : @AW P rd ⟨x⟩ s Q := by
  rcases hz with ⟨e1, e2⟩ | ⟨n, g, q1, q3, q4⟩
  · subst e1
    refine AW.weak (n := k) _ ho (fun G nx vs hh => sceneO_weak sc sc.vals (.d (.sl [])) (fun v hv => hv) (fun v hv => LR_nilS (by rw [← e2]; exact hv)) vs hh) (h _ ⟨by rw [GH.set_same]; rfl, fun m hm hne => by rw [GH.set_obj, if_neg hne], Nat.le_refl _, fun t n off he => he, rfl, rfl⟩)
  · refine AW.thaw (n := n) (g := g) (sz := 6) (e := 181) (ex := false) rows q4 rfl hr (h _ ⟨?_, fun m hm hne => ?_, Nat.le_refl _, fun t n off he => ?_, rfl, rfl⟩)
    · simp only [S.thaw, GH.thaw]
      rw [if_neg (by omega), ho, Option.map_some, sceneO_thaw sc m0 hv]
      congr 3
      · rw [hy]; rfl
      · rw [q3]; simp
    · simp only [S.thaw, GH.thaw]
      rw [if_neg (by omega)]
      cases hm' : s.H.obj m with
      | none => rfl
      | some o => rw [Option.map_some, GO.thaw_nb (N := N) q1 (hB m o hm hne hm')]
    · simp only [S.thaw, he, LV.thaw]
theorem AW.scene_fz {P : Program} {rd : RD} {x : Code} {s : S} {Q : QT} {B : GH} {sc : Scene} {m0 k : Nat} {rows rows' : List (List DV)} (hy : VApp 3 1 B sc.vals rows s.H) (hr : ∀ r ∈ rows, r.length = 1) (hz : VApp 181 6 B sc.loose rows' s.H) (hr' : ∀ r ∈ rows', r.length = 6) (hv : sc.vers = .gm m0) (hk : k < B.next) (ho : s.H.obj k = some (sceneO sc))
    (hB : ∀ m o, m < B.next → m ≠ k → s.H.obj m = some o → o.nb B.next)
    (h : ∀ s2, FzTo k B.next (sceneO { sc with vals := sl rows, loose := sl rows' }) s s2 → @AW P rd ⟨x⟩ s2 Q) : @AW P rd ⟨x⟩ s Q := by
  have hdis : ∀ n' g' sz' i l, sc.loose = .vs n' g' sz' i l → ∀ g i' l', sc.vals ≠ .vs n' g 1 i' l' := by
    intro n' g' sz' i l e g i' l' e'
    rcases hz.is with ⟨_, r⟩ | ⟨a, b, _, _, r3, r4, _⟩
    · rw [r] at e; cases e
    · rcases hy.is with ⟨_, r⟩ | ⟨a', b', _, _, p3, p4, _⟩
      · rw [r] at e'; cases e'
      · rw [r3] at e; cases e
        rw [p3] at e'; cases e'
        rw [r4] at p4
        simp at p4
  have hzp : (∃ n' g' sz' i l, sc.loose = .vs n' g' sz' i l) ∨ ∃ d, sc.loose = .d d := by
    rcases hz.is with ⟨_, r⟩ | ⟨a, b, _, _, r3, r4, _⟩
    · exact .inr ⟨_, r⟩
    · exact .inl ⟨_, _, _, _, _, r3⟩
  refine AW.scene_fz1 hy hr hv hk ho hB (fun s2 h2 hvec hd => ?_) hdis hzp
  refine AW.scene_fz2 (N := B.next) (rows := rows') (rowsY := rows) (sc := { sc with vals := sl rows }) (m0 := m0) (k := k) ?_ hr' rfl hv hk h2.sc (fun m o hm hne hmo => hB m o hm hne (by rw [← h2.ob m hm hne]; exact hmo)) (fun s3 h3 => ?_)
  · rcases hz.is with ⟨r1, r⟩ | ⟨a, b, r1, _, r3, r4, _⟩
    · exact .inl ⟨r1, r⟩
    · exact .inr ⟨a, b, r1, r3, hvec _ _ _ _ _ (fun g' sz' i l e => by
        rcases hy.is with ⟨_, r⟩ | ⟨a', b', _, _, p3, p4, _⟩
        · rw [r] at e; cases e
        · rw [p3] at e; cases e
          rw [r4] at p4
          simp at p4) r4⟩
  · exact h s3 ⟨h3.sc, fun m hm hne => (h3.ob m hm hne).trans (h2.ob m hm hne), Nat.le_trans h2.nx h3.nx, fun t n off he => h3.env t n off (h2.env t n off he), h3.nt.trans h2.nt, h3.df.trans h2.df⟩
theorem formed_good {l : List News} {srcs : Int} (h : formedB l srcs = true) : ∀ n ∈ l, goodB n srcs = true := by
  simp only [formedB, plainB, Bool.and_eq_true, decide_eq_true_eq, Bool.not_eq_true', List.any_eq_false] at h
  intro n hn
  have := h.1.2 n hn
  simpa using this
theorem markM_in {l : List News} {srcs : Int} (h : formedB l srcs = true) (src : Int) : 0 ≤ markM l src ∧ markM l src ≤ 201 := by
  have hg := formed_good h
  clear h
  revert hg
  refine snoc_ind (p := fun l => (∀ n ∈ l, goodB n srcs = true) → 0 ≤ markM l src ∧ markM l src ≤ 201) ?_ (fun l n ih hg => ?_) l
  · intro _; simp [markM]
  · have := ih fun m hm => hg m (List.mem_append_left _ hm)
    rw [markM_snoc, hearM]
    split
    · rename_i hc
      have hn := hg n (by simp)
      simp [goodB, hc.1, markedB, inB] at hn
      unfold maxI; split <;> omega
    · exact this
theorem lastM_in {l : List News} {s i : Int} : ∀ {n : News}, lastM l s i = some n → n ∈ l := by
  refine snoc_ind (p := fun l => ∀ {n : News}, lastM l s i = some n → n ∈ l) ?_ (fun l m ih => ?_) l
  · intro n h; simp [lastM] at h
  · intro n h
    rw [lastM_snoc, hearL] at h
    split at h
    · cases h; simp
    · exact List.mem_append_left _ (ih h)
theorem standsM_val {l : List News} {srcs : Int} (h : formedB l srcs = true) : ∀ e ∈ standsM l, inMost e.rec_.val := by
  intro e he
  have he := (standsM_mem l e).1 he
  unfold oneM at he
  split at he
  · rename_i n hn
    split at he
    · rename_i h1
      have hg := formed_good h n (lastM_in hn)
      simp at he
      have hr : e.rec_ = n.rec_ := by rw [he]
      rw [hr]
      simp [goodB, h1, saidB, recB, inB] at hg
      unfold inMost; omega
    · simp at he
  · simp at he
theorem comeM_lists (f key : Int) (m : Nat) (y z : LV) : ∀ (k : Nat) (s : Scene) (v : Int), comeM f key m { s with vals := y, loose := z } v k = { comeM f key m s v k with vals := y, loose := z }
  | 0, s, v => rfl
  | k + 1, s, v => by
    rw [comeM, comeM]
    have : comeO { s with vals := y, loose := z } (firstP s.sh key v f m) = { comeO s (firstP s.sh key v f m) with vals := y, loose := z } := by
      cases firstP s.sh key v f m <;> rfl
    have e := comeM_lists f key m y z k (comeO s (firstP s.sh key v f m)) (v + 1)
    rw [← e]
    simp only
    rw [this]
theorem comeM_keep (f key : Int) (m : Nat) : ∀ (k : Nat) (s : Scene) (v : Int), (comeM f key m s v k).vals = s.vals ∧ (comeM f key m s v k).loose = s.loose ∧ (comeM f key m s v k).vers = s.vers ∧ (comeM f key m s v k).sh = s.sh ∧ (comeM f key m s v k).room = s.room
  | 0, s, v => ⟨rfl, rfl, rfl, rfl, rfl⟩
  | k + 1, s, v => by
    rw [comeM]
    have ih := comeM_keep f key m k (comeO s (firstP s.sh key v f m)) (v + 1)
    have : (comeO s (firstP s.sh key v f m)).vals = s.vals ∧ (comeO s (firstP s.sh key v f m)).loose = s.loose ∧ (comeO s (firstP s.sh key v f m)).vers = s.vers ∧ (comeO s (firstP s.sh key v f m)).sh = s.sh ∧ (comeO s (firstP s.sh key v f m)).room = s.room := by
      cases firstP s.sh key v f m <;> exact ⟨rfl, rfl, rfl, rfl, rfl⟩
    exact ⟨ih.1.trans this.1, ih.2.1.trans this.2.1, ih.2.2.1.trans this.2.2.1, ih.2.2.2.1.trans this.2.2.2.1, ih.2.2.2.2.trans this.2.2.2.2⟩
end Go.Aft
end
