import Derived.Test.YtdhphbedajhmnaaGreatA38
set_option linter.unusedVariables false
set_option linter.unusedSimpArgs false
set_option linter.deprecated false
section
set_option maxRecDepth 20000
namespace Go.Aft
open Go.Proofs.Tryz
def WayOk (L P : Nat) (w : Way) : Prop := w.gone + w.turned ≤ L ∧ w.more ≤ P
theorem stepB_way {s : Scene} {F : List Int} {L : List Loose} {n P : Nat} {b : Bnd} {w : Way} (hw : WayOk n P w) (h : WayOk n P b.wn ∧ WayOk n P b.wl ∧ WayOk n P b.wh) :
    WayOk n P (stepB s F L b w).wn ∧ WayOk n P (stepB s F L b w).wl ∧ WayOk n P (stepB s F L b w).wh := by
  unfold stepB
  split
  · unfold takeM
    split
    · exact h
    · refine ⟨h.1, ?_, ?_⟩
      · dsimp only; split; exact hw; exact h.2.1
      · dsimp only; split; exact hw; exact h.2.2
  · split
    · exact ⟨hw, h.2⟩
    · exact h
theorem foldB_way {s : Scene} {F : List Int} {L : List Loose} {n P : Nat} : ∀ (ws : List Way) (b : Bnd), (∀ w ∈ ws, WayOk n P w) → (WayOk n P b.wn ∧ WayOk n P b.wl ∧ WayOk n P b.wh) →
    WayOk n P (ws.foldl (stepB s F L) b).wn ∧ WayOk n P (ws.foldl (stepB s F L) b).wl ∧ WayOk n P (ws.foldl (stepB s F L) b).wh
  | [], b, _, h => h
  | w :: ws, b, hw, h => foldB_way ws _ (fun x hx => hw x (List.mem_cons_of_mem _ hx)) (stepB_way (hw w List.mem_cons_self) h)
theorem boundM_way (s : Scene) (F : List Int) (L : List Loose) (P : Nat) : WayOk L.length P (boundM s F L P).wn ∧ WayOk L.length P (boundM s F L P).wl ∧ WayOk L.length P (boundM s F L P).wh := by
  refine foldB_way _ _ (fun w hw => ?_) ⟨⟨by simp [b0], by simp [b0]⟩, ⟨by simp [b0], by simp [b0]⟩, ⟨by simp [b0], by simp [b0]⟩⟩
  rcases waysM_mem.1 hw with ⟨h1, h2, _⟩ | ⟨_, _, h⟩
  · exact ⟨by omega, by omega⟩
  · exact h.elim
theorem verM_range {l : List News} {srcs : Int} (hg : ∀ n ∈ l, goodB n srcs = true) {src id : Int} : 0 ≤ verM l src id ∧ verM l src id ≤ 99 := by
  revert hg
  refine snoc_ind (p := fun l => (∀ n ∈ l, goodB n srcs = true) → 0 ≤ verM l src id ∧ verM l src id ≤ 99) (fun _ => ⟨Int.le_refl _, by show (0 : Int) ≤ 99; decide⟩) (fun l n ih hg => ?_) l
  have h1 := ih fun m hm => hg m (by simp [hm])
  have h2 := hg n (by simp)
  rw [verM, List.foldl_append, ← verM]
  simp only [List.foldl_cons, List.foldl_nil, verStep]
  split
  · rename_i q
    have hv : n.ver ≤ 99 := by
      by_cases d1 : n.do_ = 1
      · simp [goodB, d1, saidB, inB] at h2; omega
      · by_cases d2 : n.do_ = 2
        · simp [goodB, d2, saidB, inB] at h2; omega
        · simp [goodB, d1, d2, q.1] at h2
    unfold maxI; split <;> omega
  · exact h1
def scOf (p : Prog) (d : Nat) (l : List News) (room : Room) (window key : Int) : Scene := sceneM l (plainOf p (p.defs.getD d default).exp).1 room window key 0
def looOf (p : Prog) (d : Nat) (l : List News) (window key : Int) : List Loose := sortL (looseM l (plainOf p (p.defs.getD d default).exp).1 window key (standsM l))
def bndOf (p : Prog) (d : Nat) (l : List News) (room : Room) (window key : Int) : Bnd :=
  boundM (scOf p d l room window key) (fixedM l (plainOf p (p.defs.getD d default).exp).1 window key (standsM l)) (looOf p d l window key) room.most.toNat
def reaB (B : Bnd) (sc : Scene) (L : List Loose) (l : List News) (side : Int) : List News × Int :=
  if side = 1 ∧ B.nb.none = true then (lateNV sc L l B.wn false, 0)
  else if side = 2 ∧ B.nb.some = true then (lateNV sc L l B.wl false, 0)
  else if side = 3 ∧ B.nb.some = true then (lateNV sc L l B.wh true, 0)
  else ([], 5)
open Classical in
noncomputable def reaV (p : Prog) (d : Int) (l : List News) (room : Room) (window key side : Int) : List News × Int :=
  if askedB p d l room key = true ∧ 1 ≤ side ∧ side ≤ 3 then
    (if lookE (plainOf p (p.defs.getD d.toNat default).exp) l.length room window = 0 then reaB (bndOf p d.toNat l room window key) (scOf p d.toNat l room window key) (looOf p d.toNat l window key) l side
    else ([], lookE (plainOf p (p.defs.getD d.toNat default).exp) l.length room window))
  else ([], 2)
theorem near_Reach (p : Prog) (hs : fitP p) (d : Int) (l : List News) (h12 : (standsM l).length ≤ 12) (room : Room) (window key side : Int) :
    AFun prog 31 [lv (rProg p), lvI d, sl (l.map rNews), lv (rRoom room), lvI window, lvI key, lvI side] (.tup [sl ((reaV p d l room window key side).1.map rNews), lvI (reaV p d l room window key side).2]) := by
  intro H
  have cc := cxK_ok (p := kds [7, 10] [] [])
  refine ECall.bodyNW (cxK_ok (p := kds [7, 10] [] [])) func31 rfl call31 (by rw [ntmps31]; simp) rfl fun hf hw => ?_
  have ha := near_isAsked p hs d l room key
  simp [rProg, rRoom] at ha
  simp [ntmps31, results31, rProg, rRoom] at hf ⊢
  refine AW.seq cc ?_
  simp
  refine AW.seq cc ?_
  simp
  refine EC.afun ha ?_
  by_cases hq : askedB p d l room key = true ∧ 1 ≤ side ∧ side ≤ 3
  rotate_left
  · have hrm : reaV p d l room window key side = ([], 2) := by rw [reaV, if_neg hq]
    rw [hrm]
    cases hb : askedB p d l room key with
    | false =>
      simp
      exact fun hz => hz.drop (Nat.le_refl _)
    | true =>
      by_cases c1 : side < 1
      · simp [c1]
        exact fun hz => hz.drop (Nat.le_refl _)
      · have c2 : 3 < side := by
          refine Int.not_le.1 fun q => hq ⟨hb, by omega, q⟩
        simp [c1, c2]
        exact fun hz => hz.drop (Nat.le_refl _)
  · obtain ⟨hq, hs1, hs3⟩ := hq
    have c1 : ¬ side < 1 := by omega
    have c2 : ¬ 3 < side := by omega
    simp [hq, c1, c2]
    have hq' := hq
    simp only [askedB, Bool.and_eq_true, decide_eq_true_eq] at hq'
    obtain ⟨⟨⟨⟨⟨hfm, hd0, hd1⟩, hl⟩, _⟩, hroom⟩, hkey⟩ := hq'
    have hd : d.toNat < p.defs.length := by omega
    have hdd : ((d.toNat : Nat) : Int) = d := by omega
    have hgd : p.defs.getD d.toNat default = p.defs[d.toNat] := by simp [List.getD, List.getElem?_eq_getElem hd]
    have hpl := formed_plain hfm hd
    have hlook := near_look p hs d.toNat hd hfm l hl h12 room hroom window key hkey H (fun h8 => by
      obtain ⟨k, hk, hw, _⟩ := formed_fold hfm hd h8; exact ⟨k, [], hk, hw⟩) (fun h => ⟨(hpl h).1, (hpl h).2.1, (hpl h).2.2.1, (hpl h).2.2.2.1⟩)
    rw [hdd] at hlook
    simp [rProg, rRoom] at hlook
    refine AW.seq cc ?_
    simp
    obtain ⟨E, hE⟩ : ∃ E, lookE (plainOf p p.defs[d.toNat].exp) l.length room window = E := ⟨_, rfl⟩
    rw [hE] at hlook
    have hrv : reaV p d l room window key side = if E = 0 then reaB (bndOf p d.toNat l room window key) (scOf p d.toNat l room window key) (looOf p d.toNat l window key) l side else ([], E) := by
      rw [reaV, if_pos ⟨hq, hs1, hs3⟩, hgd, hE]
    by_cases hE0 : E = 0
    · rw [hrv, if_pos hE0]
      simp only [if_pos hE0] at hlook
      refine EC.of hlook (fun v H2 hR => ?_) (fun v H2 hR => ?_)
      rotate_left
      · cases hR.1
      obtain ⟨e, es, hmv, hH2⟩ := hR
      cases e
      simp
      refine AW.seq cc ?_
      simp
      obtain ⟨sh, hsh⟩ : ∃ sh, (plainOf p p.defs[d.toNat].exp).1 = sh := ⟨_, rfl⟩
      rw [hsh] at hH2 hpl hmv
      have hpt : (plainOf p p.defs[d.toNat].exp).2 = true := by
        cases hb : (plainOf p p.defs[d.toNat].exp).2 with
        | true => rfl
        | false => rw [lookE, if_pos hb] at hE; omega
      have hpl := hpl hpt
      have hrm : (0 ≤ room.most ∧ room.most ≤ 6) ∧ valB room.low = true ∧ valB room.high = true := by
        simp [roomB, inB] at hroom
        exact ⟨hroom.1.1.1, hroom.1.1.2, hroom.1.2⟩
      obtain ⟨SC, hSC⟩ : ∃ SC, sceneM l sh room window key H.next = SC := ⟨_, rfl⟩
      have hk := comeM_keep (maxI (window - sh.n + 1) (markM l sh.src)) key (window - maxI (window - sh.n + 1) (markM l sh.src) + 1).toNat (room.high - room.low + 1).toNat (scene0 sh room (sl ((fixedM l sh window key (standsM l)).map rI)) (sl ((sortL (looseM l sh window key (standsM l))).map rLoose)) H.next) room.low
      have hci := comeM_in (maxI (window - sh.n + 1) (markM l sh.src)) key (window - maxI (window - sh.n + 1) (markM l sh.src) + 1).toNat (room.high - room.low + 1).toNat (scene0 sh room (sl ((fixedM l sh window key (standsM l)).map rI)) (sl ((sortL (looseM l sh window key (standsM l))).map rLoose)) H.next) room.low (by simp [scene0, zeroRec, inMost]) (by simp [scene0, zeroRec, inMost]) (fun j hj => by
        have h1 := hrm.2.1; have h2 := hrm.2.2
        simp [valB, inB] at h1 h2
        unfold inMost; omega)
      rw [← sceneM, hSC] at hk hci
      rw [hSC] at hH2
      have hfl : ∀ q : Event → Bool, ((standsM l).filter q).length ≤ 12 := fun q => Nat.le_trans (List.length_filter_le ..) h12
      have hval := standsM_val hl
      obtain ⟨L, hL⟩ : ∃ L, sortL (looseM l sh window key (standsM l)) = L := ⟨_, rfl⟩
      obtain ⟨F, hF⟩ : ∃ F, fixedM l sh window key (standsM l) = F := ⟨_, rfl⟩
      have hlen : F.length + L.length ≤ 60 := by
        rw [← hF, ← hL, sortL_len]; simp only [fixedM, looseM, List.length_map]
        have h1 := hfl fun e => inWin sh window key e && !isLoose l sh e
        have h2 := hfl fun e => inWin sh window key e && isLoose l sh e
        omega
      have hvF : ∀ x ∈ F, inMost x := fun x hx => by
        rw [← hF] at hx
        obtain ⟨e, he, rfl⟩ := List.mem_map.1 hx
        exact hval e (List.mem_filter.1 he).1
      have hvL : ∀ x ∈ L, inMost x.ev.rec_.val ∧ -1000 ≤ x.ver ∧ x.ver ≤ 1000 := fun x hx => by
        rw [← hL] at hx
        have hx := (Go.Aft.sortL_perm _).mem_iff.1 hx
        obtain ⟨e, he, rfl⟩ := List.mem_map.1 hx
        have hvr := verM_range (formed_good hl) (src := sh.src) (id := e.id)
        exact ⟨hval e (List.mem_filter.1 he).1, by simp only; omega, by simp only; omega⟩
      rw [hF, hL] at hk
      have hbd := scene_bound SC F L hk.1 hk.2.1 hlen room.most.toNat (by rw [hk.2.2.2.2]; simp only [scene0]; omega) (by omega) (by rw [hk.2.2.2.1]; simp only [scene0]; omega)
        hvF (fun x hx => (hvL x hx).1) (fun g => by unfold sRec; split; exact hci.2; exact hci.1) (H.next + 1) H2 (by rw [hH2]; exact add2_1)
      have n2 : H2.next = H.next + 2 := by rw [hH2]; rfl
      obtain ⟨B, hB⟩ : ∃ B, boundM SC F L room.most.toNat = B := ⟨_, rfl⟩
      rw [hB] at hbd
      refine AW.seq cc ?_
      simp
      refine ⟨by omega, EC.of hbd (fun v H3 hR => ?_) (fun v H3 hR => ?_)⟩
      rotate_left
      · cases hR.1
      obtain ⟨e, hH3⟩ := hR
      cases e
      have o3 : H3.obj H2.next = some (bndO B) := by rw [hH3]; simp [GH.add_obj]
      have o2 : H3.obj (H.next + 1) = some (sceneO SC) := by rw [hH3, GH.add_obj, if_neg (by omega), hH2]; exact add2_1
      have o1 : H3.obj H.next = some (.map es) := by rw [hH3, GH.add_obj, if_neg (by omega), hH2]; exact add2_0
      have n3 : H3.next = H.next + 3 := by rw [hH3, GH.add_next]; omega
      have hlo : ∀ m, m < H.next → H3.obj m = H.obj m := fun m hm => by rw [hH3, GH.add_obj, if_neg (by omega), hH2, GH.add_obj, if_neg (by simp only [GH.add_next]; omega), GH.add_obj, if_neg (by omega)]
      have hwy := boundM_way SC F L room.most.toNat
      rw [hB] at hwy
      have hsc : SC.sh = sh := by rw [hk.2.2.2.1]; rfl
      have hSC0 : SC = { scOf p d.toNat l room window key with vers := .gm H.next } := by
        rw [← hSC, scOf, hgd, hsh]; exact comeM_vers _ _ _ (.gm H.next) _ (scene0 sh room _ _ 0) room.low
      have hLo : looOf p d.toNat l window key = L := by rw [looOf, hgd, hsh, hL]
      have hBo : bndOf p d.toNat l room window key = B := by
        rw [← hB, bndOf, hgd, hsh, hLo, hF, hSC0]; rfl
      have hnv : ∀ w g, lateNV (scOf p d.toNat l room window key) L l w g = lateNV SC L l w g := fun w g => by rw [hSC0]; rfl
      rw [hBo, hLo]
      have hlate := fun (w : Way) (g : Bool) (hw : WayOk L.length room.most.toNat w) => scene_late SC L hk.2.1 (by omega) l (formed_good hl) w hw.1 (by have := hw.2; omega) (fun x hx => (hvL x hx).2) g (H.next + 1) H.next es hk.2.2.1 H3 o2 o1 (by rw [hsc]; exact hmv)
      have hd3 : Drop H H3 H := Drop_same (by omega) hlo hw.none
      clear hbd hlook hk hci hH2 hH3 hB hL hF hSC hSC0
      obtain ⟨⟨so, no, lo, hi⟩, wn, wl, wh⟩ := B
      have hob : bndO ⟨⟨so, no, lo, hi⟩, wn, wl, wh⟩ = .box [.d (.k (.bool so)), .d (.k (.bool no)), lvI lo, lvI hi, lvI wn.gone, lvI wn.turned, lvI wn.more, lvI wl.gone, lvI wl.turned, lvI wl.more, lvI wh.gone, lvI wh.turned, lvI wh.more] := rfl
      rw [hob] at o3
      simp
      have hs : side = 1 ∨ side = 2 ∨ side = 3 := by omega
      have hfin : ∀ {v : LV} {H5 : GH} {w : Way} {g : Bool}, (v = sl ((lateNV SC L l w g).map rNews)) ∧ H5 = H3 → v = sl ((lateNV SC L l w g).map rNews) := fun h => h.1
      have hl1 := hlate wn false hwy.1
      have hl2 := hlate wl false hwy.2.1
      have hl3 := hlate wh true hwy.2.2
      simp [rWay] at hl1 hl2 hl3
      rcases hs with rfl | rfl | rfl
      · cases no with
        | true =>
          refine AW.seq cc ?_
          simp [o3]
          refine ⟨by omega, EC.of hl1 (fun v H5 hR => ?_) (fun v H5 hR => ?_)⟩
          rotate_left
          · cases hR.1
          obtain ⟨e, rfl⟩ := hR
          cases e
          simp [reaB, hnv]
          exact fun _ => hd3
        | false =>
          refine AW.seq cc ?_
          simp [o3]
          refine AW.ev cc ?_
          simp [reaB]
          exact fun _ => hd3
      · cases so with
        | true =>
          refine AW.seq cc ?_
          simp [o3]
          refine ⟨by omega, EC.of hl2 (fun v H5 hR => ?_) (fun v H5 hR => ?_)⟩
          rotate_left
          · cases hR.1
          obtain ⟨e, rfl⟩ := hR
          cases e
          simp [reaB, hnv]
          exact fun _ => hd3
        | false =>
          refine AW.seq cc ?_
          simp [o3]
          refine AW.ev cc ?_
          simp [reaB]
          exact fun _ => hd3
      · cases so with
        | true =>
          refine AW.seq cc ?_
          simp [o3]
          refine ⟨by omega, EC.of hl3 (fun v H5 hR => ?_) (fun v H5 hR => ?_)⟩
          rotate_left
          · cases hR.1
          obtain ⟨e, rfl⟩ := hR
          cases e
          simp [reaB, hnv]
          exact fun _ => hd3
        | false =>
          refine AW.seq cc ?_
          simp [o3]
          refine AW.ev cc ?_
          simp [reaB]
          exact fun _ => hd3
    · rw [hrv, if_neg hE0]
      simp only [if_neg hE0] at hlook
      refine EC.of hlook (fun v H2 hR => ?_) (fun v H2 hR => ?_)
      rotate_left
      · cases hR.1
      obtain ⟨e, rfl⟩ := hR
      cases e
      simp
      refine AW.seq cc ?_
      simp [hE0]
      exact fun hz => hz.drop (Nat.le_refl _)
end Go.Aft
end
section
set_option maxRecDepth 20000
namespace Go.Aft
open Go.Proofs.Tryz
theorem ex_sortn : sortL [] = [] := by
  simp only [sortL, Go.Sort.insertionSort]
  rw [Go.Sort.insOuter, if_neg (by simp)]
theorem ex_askedL {l : List News} (h1 : formedB l 1 = true) (h2 : lateM l = []) {d : Int} (h : d = 0 ∨ d = 1) {room : Room} {key : Int} (hr : (roomB room && valB key) = true) : askedB exP d l room key = true := by
  have h1' : formedB l exP.srcs.length = true := h1
  simp only [Bool.and_eq_true] at hr
  simp [askedB, ex_def h, h1', h2, hr.1, hr.2]
theorem ex_of {d : Int} {sh : Shape} (hd : d = 0 ∨ d = 1) (hsh : plainOf exP (exP.defs.getD d.toNat default).exp = (sh, true)) {l : List News} (h1 : formedB l 1 = true) (h2 : lateM l = []) {room : Room} {window key : Int} (hr : (roomB room && valB key) = true)
    (hk : lookE (sh, true) l.length room window = 0) {L0 L : List Loose} {F : List Int} (hL : looseM l sh window key (standsM l) = L0) (hS : sortL L0 = L) (hF : fixedM l sh window key (standsM l) = F) {r : NB}
    (hb : (boundM (comeM (maxI (window - sh.n + 1) (markM l sh.src)) key (window - maxI (window - sh.n + 1) (markM l sh.src) + 1).toNat (scene0 sh room (sl (F.map rI)) (sl (L.map rLoose)) 0) room.low (room.high - room.low + 1).toNat) F L room.most.toNat).nb = r) :
    ofM exP d l room window key = (r, 0) := by
  rw [ofM, if_pos (ex_askedL h1 h2 hd hr), hsh, if_pos hk, boundV, hsh]
  simp only [sceneM, hL, hS, hF]
  rw [hb]
theorem ex_f : formedB exN 1 = true := by decide +kernel
theorem ex_l : lateM exN = [] := by decide +kernel
def exLast : List News := exN ++ [⟨1, 0, 3, 99, ⟨14, 0, 2⟩⟩]
def exMore : List News := [⟨2, 0, 2, 2, zeroRec⟩]
theorem ex_f2 : formedB exLast 1 = true := by decide +kernel
theorem ex_l2 : lateM exLast = [] := by decide +kernel
theorem ex_f3 : formedB (exN ++ exMore) 1 = true := by decide +kernel
theorem ex_l3 : lateM (exN ++ exMore) = [] := by decide +kernel
theorem kn1 : ofM exP 0 exN ⟨2, 1, 5⟩ 9 0 = (⟨true, false, 5, 5⟩, 0) :=
  ex_of (sh := sh0) (.inl rfl) rfl ex_f ex_l (by decide) (by decide) (L0 := []) (L := []) (F := [5]) (by rfl) ex_sortn (by rfl) (by decide +kernel)
theorem kn2 : ofM exP 0 exN ⟨0, 1, 5⟩ 19 0 = (⟨true, false, 11, 11⟩, 0) :=
  ex_of (sh := sh0) (.inl rfl) rfl ex_f ex_l (by decide) (by decide) (L0 := [⟨e2, 1⟩, ⟨e3, 1⟩]) (L := [⟨e3, 1⟩, ⟨e2, 1⟩]) (F := []) (by rfl) ex_sort0 (by rfl) (by decide +kernel)
theorem kn3 : ofM exP 0 exN ⟨2, 1, 5⟩ 19 0 = (⟨true, true, 1, 21⟩, 0) :=
  ex_of (sh := sh0) (.inl rfl) rfl ex_f ex_l (by decide) (by decide) (L0 := [⟨e2, 1⟩, ⟨e3, 1⟩]) (L := [⟨e3, 1⟩, ⟨e2, 1⟩]) (F := []) (by rfl) ex_sort0 (by rfl) (by decide +kernel)
theorem kn4 : ofM exP 0 exN ⟨1, 3, 4⟩ 29 0 = (⟨true, true, 3, 4⟩, 0) :=
  ex_of (sh := sh0) (.inl rfl) rfl ex_f ex_l (by decide) (by decide) (L0 := []) (L := []) (F := []) (by rfl) ex_sortn (by rfl) (by decide +kernel)
theorem kn5 : ofM exP 0 exN ⟨3, 0, 9⟩ 9 1 = (⟨false, true, 0, 0⟩, 0) :=
  ex_of (sh := sh0) (.inl rfl) rfl ex_f ex_l (by decide) (by decide) (L0 := []) (L := []) (F := []) (by rfl) ex_sortn (by rfl) (by decide +kernel)
theorem kn6 : ofM exP 0 exLast ⟨1, 1, 5⟩ 19 0 = (⟨true, false, 2, 16⟩, 0) :=
  ex_of (sh := sh0) (.inl rfl) rfl ex_f2 ex_l2 (by decide) (by decide) (L0 := [⟨e2, 1⟩]) (L := [⟨e2, 1⟩]) (F := [2]) (by rfl) (ex_sort1 _) (by rfl) (by decide +kernel)
theorem kn7 : ofM exP 0 (exN ++ exMore) ⟨0, 0, 0⟩ 19 0 = (⟨true, false, 2, 2⟩, 0) :=
  ex_of (sh := sh0) (.inl rfl) rfl ex_f3 ex_l3 (by decide) (by decide) (L0 := [⟨e3, 1⟩]) (L := [⟨e3, 1⟩]) (F := []) (by rfl) (ex_sort1 _) (by rfl) (by decide +kernel)
theorem kn_g : (ofM exP 0 exN ⟨1, 1, 5⟩ 18 0).2 = 2 := by
  have e : plainOf exP (exP.defs.getD (0 : Int).toNat default).exp = (sh0, true) := rfl
  rw [ofM, if_pos (ex_askedL ex_f ex_l (.inl rfl) (by decide)), e, if_neg (by decide)]
  decide
theorem kn_no {l : List News} {room : Room} (h : roomB room = false) (window key : Int) : (ofM exP 0 l room window key).2 = 2 := by
  rw [ofM, if_neg]
  simp [askedB, h]
theorem kn_reach (side : Int) (hs : 1 ≤ side ∧ side ≤ 3) : reaV exP 0 exN ⟨1, 1, 5⟩ 19 0 side = reaB (boundM (comeM (maxI (19 - sh0.n + 1) (markM exN sh0.src)) 0 (19 - maxI (19 - sh0.n + 1) (markM exN sh0.src) + 1).toNat (scene0 sh0 ⟨1, 1, 5⟩ (sl (([] : List Int).map rI)) (sl ([⟨e3, 1⟩, ⟨e2, 1⟩].map rLoose)) 0) 1 (5 - 1 + 1 : Int).toNat) [] [⟨e3, 1⟩, ⟨e2, 1⟩] 1)
    (comeM (maxI (19 - sh0.n + 1) (markM exN sh0.src)) 0 (19 - maxI (19 - sh0.n + 1) (markM exN sh0.src) + 1).toNat (scene0 sh0 ⟨1, 1, 5⟩ (sl (([] : List Int).map rI)) (sl ([⟨e3, 1⟩, ⟨e2, 1⟩].map rLoose)) 0) 1 (5 - 1 + 1 : Int).toNat) [⟨e3, 1⟩, ⟨e2, 1⟩] exN side := by
  have e : plainOf exP (exP.defs.getD (0 : Int).toNat default).exp = (sh0, true) := rfl
  rw [reaV, if_pos ⟨ex_askedL ex_f ex_l (.inl rfl) (by decide), hs⟩, e, if_pos (by decide), bndOf, scOf, looOf, e]
  simp only [sceneM, ex_loose0, ex_fixed0, ex_sort0]
  rfl
theorem kn_low : reaV exP 0 exN ⟨1, 1, 5⟩ 19 0 2 = (exMore, 0) := by
  rw [kn_reach _ (by decide)]
  decide +kernel
theorem kn_none : (reaV exP 0 exN ⟨1, 1, 5⟩ 19 0 1).2 = 5 := by
  rw [kn_reach _ (by decide)]
  decide +kernel
theorem kn_late : lateAllB exP exN exMore 0 ⟨1, 1, 5⟩ = true := by
  rw [lateAllB, ex_plain]
  have : lateNB exN exMore 1 0 ⟨1, 1, 5⟩ = true := by
    rw [lateNB, keptB, ex_f3, ex_l3]; decide
  exact this
end Go.Aft
end
section
set_option maxRecDepth 20000
namespace Go.Aft
open Go.Proofs.Tryz
theorem ex_is {d : Int} {room : Room} {window key : Int} {r : NB} (h : ofM exP d exN room window key = (r, 0)) : AFun prog 37 [lv (rAsk ⟨d, room, window, key⟩), lv (rNB r)] (.d (.k (.bool true))) := by
  have := law_is ex_stands ⟨d, room, window, key⟩ r ex_fit
  simp only [h, and_self, decide_true] at this
  exact this
theorem law_NearKnown : AFun prog 10 [] (.d (.k (.bool true))) := by
  have cc := cxS_ok (p := kds [] [] [])
  refine AFun.bodyW (cxS_ok (p := kds [] [] [])) func10 rfl call10 (by rw [ntmps10]; simp) rfl fun hf H => ?_
  have hE := law_Example
  have hN := law_News
  have i1 := ex_is kn1
  have i2 := ex_is kn2
  have i3 := ex_is kn3
  have i4 := ex_is kn4
  have i5 := ex_is kn5
  have r2 := near_Reach exP ex_fit 0 exN ex_stands ⟨1, 1, 5⟩ 19 0 2
  have r1 := near_Reach exP ex_fit 0 exN ex_stands ⟨1, 1, 5⟩ 19 0 1
  rw [kn_low] at r2
  have o18 := near_Of exP ex_fit 0 exN ex_stands ⟨1, 1, 5⟩ 18 0
  have o7 := near_Of exP ex_fit 0 exN ex_stands ⟨7, 0, 0⟩ 19 0
  have o61 := near_Of exP ex_fit 0 exN ex_stands ⟨0, 0, 61⟩ 19 0
  have oL := near_Of exP ex_fit 0 exLast (by decide +kernel) ⟨1, 1, 5⟩ 19 0
  have oM := near_Of exP ex_fit 0 (exN ++ exMore) (by decide +kernel) ⟨0, 0, 0⟩ 19 0
  have j1 := law_joined exN [⟨1, 0, 3, 99, ⟨14, 0, 2⟩⟩] (by decide)
  have j2 := law_joined exN exMore (by decide)
  have hl := law_late exP ex_fit exN exMore (by decide) ⟨0, ⟨1, 1, 5⟩, 19, 0⟩
  have hk := law_known
  simp only [kn_late] at hl
  rw [kn6] at oL
  rw [kn7] at oM
  have g18 := kn_g
  have g7 := kn_no (l := exN) (room := ⟨7, 0, 0⟩) (by decide) 19 0
  have g61 := kn_no (l := exN) (room := ⟨0, 0, 61⟩) (by decide) 19 0
  have g5 := kn_none
  generalize ofM exP 0 exN ⟨1, 1, 5⟩ 18 0 = z18 at o18 g18
  generalize ofM exP 0 exN ⟨7, 0, 0⟩ 19 0 = z7 at o7 g7
  generalize ofM exP 0 exN ⟨0, 0, 61⟩ 19 0 = z61 at o61 g61
  generalize reaV exP 0 exN ⟨1, 1, 5⟩ 19 0 1 = z5 at r1 g5
  obtain ⟨⟨a18, b18, c18, d18⟩, y18⟩ := z18
  obtain ⟨⟨a7, b7, c7, d7⟩, y7⟩ := z7
  obtain ⟨⟨a61, b61, c61, d61⟩, y61⟩ := z61
  obtain ⟨x5, y5⟩ := z5
  dsimp only at g18 g7 g61 g5
  subst g18 g7 g61 g5
  have hml : exMore.length = 1 := rfl
  rw [← exLast] at j1
  obtain ⟨P, hP⟩ : ∃ P, rProg exP = P := ⟨_, rfl⟩
  obtain ⟨N, hN'⟩ : ∃ N, exN.map rNews = N := ⟨_, rfl⟩
  obtain ⟨NL, hNL⟩ : ∃ N, exLast.map rNews = N := ⟨_, rfl⟩
  obtain ⟨NM, hNM⟩ : ∃ N, (exN ++ exMore).map rNews = N := ⟨_, rfl⟩
  obtain ⟨M, hM⟩ : ∃ N, exMore.map rNews = N := ⟨_, rfl⟩
  have hMl : M.length = 1 := by rw [← hM]; rfl
  rw [hP] at hE r1 r2 o18 o7 o61 oL oM hl
  rw [hN'] at hN r1 r2 o18 o7 o61 j1 j2 hl
  rw [hNL] at j1 oL
  rw [hNM] at j2 oM
  rw [hM] at j2 hl r2
  simp [rAsk, rRoom, rNB, dB, dI, rNews, rRec] at i1 i2 i3 i4 i5 r1 r2 o18 o7 o61 oL oM j1 hl
  simp [ntmps10, results10] at hf ⊢
  refine AW.seq cc ?_
  simp
  refine AW.seq cc ?_
  simp
  refine AW.seq cc ?_
  simp
  refine AW.seq cc ?_
  simp
  refine EC.afun i1 ?_
  simp
  refine EC.afun i2 ?_
  simp
  refine EC.afun i3 ?_
  simp
  refine AW.seq cc ?_
  simp
  refine EC.afun i4 ?_
  simp
  refine EC.afun i5 ?_
  simp
  refine AW.seq cc ?_
  refine AW.draw cc [(0, .n), (1, .n), (3, .n)] (.q 0 <| .q 1 <| .q 2 <| .q 3 <| .q 4 <| .q 5 <| .q 6 <| .q 7 <| .q 8 <| .done) (by kernel_rfl) ?_
  simp
  refine FC.afun hE ?_
  simp
  refine FC.afun hN ?_
  simp
  refine FC.afun r2 ?_
  simp
  refine AW.seq cc ?_
  refine AW.draw cc [(0, .n), (1, .n), (3, .n)] (.q 0 <| .q 1 <| .q 2 <| .q 3 <| .q 4 <| .q 5 <| .q 6 <| .q 7 <| .q 8 <| .done) (by kernel_rfl) ?_
  simp
  refine FC.afun hE ?_
  simp
  refine FC.afun hN ?_
  simp
  refine FC.afun r1 ?_
  simp
  refine AW.seq cc ?_
  refine AW.draw cc [(0, .n), (1, .n), (3, .n)] (.q 0 <| .q 1 <| .q 2 <| .q 3 <| .q 4 <| .q 5 <| .q 6 <| .f <| .one 7 <| .f <| .one 8 <| .q 9 <| .done) (by kernel_rfl) ?_
  simp
  refine FC.afun hE ?_
  simp
  refine FC.afun hN ?_
  simp
  refine FC.afun o18 ?_
  simp
  refine AW.seq cc ?_
  simp
  refine EC.afun hE ?_
  simp
  refine EC.afun hN ?_
  simp
  refine EC.afun o7 ?_
  simp
  refine AW.seq cc ?_
  simp
  refine EC.afun hE ?_
  simp
  refine EC.afun hN ?_
  simp
  refine EC.afun o61 ?_
  simp
  refine AW.seq cc ?_
  simp
  refine EC.afun hN ?_
  simp
  refine EC.afun j1 ?_
  simp
  refine AW.seq cc ?_
  refine AW.draw cc [(0, .n), (3, .n)] (.q 0 <| .q 1 <| .q 2 <| .q 3 <| .q 4 <| .q 5 <| .q 6 <| .f <| .one 7 <| .f <| .one 8 <| .q 9 <| .done) (by kernel_rfl) ?_
  simp
  refine FC.afun hE ?_
  simp
  refine FC.afun oL ?_
  simp
  refine AW.seq cc ?_
  simp
  refine AW.seq cc ?_
  simp
  refine AW.draw cc [(4, .n), (5, .n), (9, .n)] (.q 0 <| .q 1 <| .q 2 <| .q 3 <| .q 4 <| .q 5 <| .q 6 <| .q 7 <| .q 8 <| .q 9 <| .q 10 <| .q 11 <| .done) (by kernel_rfl) ?_
  simp [hMl]
  refine FCg.afun (fun _ => hE) ?_
  simp
  refine FCg.afun (fun _ => hN) ?_
  simp
  refine FCg.afun (fun _ => hl) ?_
  simp
  refine AW.seq cc ?_
  simp
  refine EC.afun hE ?_
  simp
  refine EC.afun hN ?_
  simp
  refine EC.afun j2 ?_
  simp
  refine EC.afun oM ?_
  simp
  refine AW.ev cc ?_
  simp
  refine EC.afun hk ?_
  simp
end Go.Aft
end
