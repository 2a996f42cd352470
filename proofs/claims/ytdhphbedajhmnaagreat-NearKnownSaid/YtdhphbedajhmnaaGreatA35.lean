import Derived.Test.YtdhphbedajhmnaaGreatA34
set_option linter.unusedVariables false
set_option linter.unusedSimpArgs false
set_option linter.deprecated false
section
set_option maxRecDepth 20000
namespace Go.Aft
open Go.Proofs.Tryz
open Go.Sort (swp insInner insOuter insertionSort SWO PermIn SortedIn)
theorem add2_0 {H : GH} {a b : GO} : ((H.add a).add b).obj H.next = some a := by simp [GH.add_obj, GH.add_next]
theorem add2_1 {H : GH} {a b : GO} : ((H.add a).add b).obj (H.next + 1) = some b := by simp [GH.add_obj, GH.add_next]
theorem add2_set0 {H : GH} {a b c : GO} : ((H.add a).add b).set H.next c = (H.add c).add b := by
  simp only [GH.set, GH.add]; congr 1; funext m; unfold upd; split <;> simp_all
theorem add2_set1 {H : GH} {a b c : GO} : ((H.add a).add b).set (H.next + 1) c = (H.add a).add c := by
  simp only [GH.set, GH.add]; congr 1; funext m; unfold upd; split <;> simp_all
def inWin (sh : Shape) (window key : Int) (e : Event) : Bool := decide (e.src = sh.src ∧ e.rec_.key = key) && inB e.rec_.at_ (window - sh.n + 1) window && passM sh e.rec_
def isLoose (l : List News) (sh : Shape) (e : Event) : Bool := decide (markM l sh.src ≤ e.rec_.at_ ∧ verM l sh.src e.id < 99)
def fixedM (l : List News) (sh : Shape) (window key : Int) (es : List Event) : List Int := (es.filter fun e => inWin sh window key e && !isLoose l sh e).map fun e => e.rec_.val
def looseM (l : List News) (sh : Shape) (window key : Int) (es : List Event) : List Loose := (es.filter fun e => inWin sh window key e && isLoose l sh e).map fun e => ⟨e, verM l sh.src e.id⟩
def scene0 (sh : Shape) (room : Room) (y z : LV) (m : Nat) : Scene := ⟨sh, room, y, z, false, zeroRec, zeroRec, .gm m⟩
def sceneM (l : List News) (sh : Shape) (room : Room) (window key : Int) (m : Nat) : Scene :=
  comeM (maxI (window - sh.n + 1) (markM l sh.src)) key (window - maxI (window - sh.n + 1) (markM l sh.src) + 1).toNat
    (scene0 sh room (sl ((fixedM l sh window key (standsM l)).map rI)) (sl ((sortL (looseM l sh window key (standsM l))).map rLoose)) m) room.low (room.high - room.low + 1).toNat
def lookE (q : Shape × Bool) (news : Nat) (room : Room) (window : Int) : Int :=
  if q.2 = false then 7 else if (inB window 0 200 && decide ((window + 1).tmod q.1.n = 0)) = false then 2 else if 60 < (news : Int) + room.most then 3 else 0
theorem near_look (p : Prog) (hs : fitP p) (d : Nat) (hd : d < p.defs.length) (hfm : formed p) (l : List News) (hl : formedB l p.srcs.length = true) (h12 : (standsM l).length ≤ 12) (room : Room) (hroom : roomB room = true) (window key : Int) (hkey : valB key = true) (H : GH)
    (h8 : p.defs[d].exp.op = 8 → ∃ k ks, p.defs[d].exp.kids = k :: ks ∧ WOk 1000 k) (hpl : (plainOf p p.defs[d].exp).2 = true → 1 ≤ (plainOf p p.defs[d].exp).1.n ∧ (plainOf p p.defs[d].exp).1.n ≤ 50 ∧ 0 ≤ (plainOf p p.defs[d].exp).1.src ∧ (plainOf p p.defs[d].exp).1.src < p.srcs.length) :
    ECall prog 62 [lv (rProg p), lvI d, sl (l.map rNews), lv (rRoom room), lvI window, lvI key] H fun ce H' => if lookE (plainOf p p.defs[d].exp) l.length room window = 0
      then ce = .ret (.tup [.gp (H.next + 1) 0, lvI 0]) ∧ ∃ es, MapV es l (plainOf p p.defs[d].exp).1.src ∧ H' = (H.add (.map es)).add (sceneO (sceneM l (plainOf p p.defs[d].exp).1 room window key H.next))
      else ce = .ret (.tup [.d (.k (.pointer none)), lvI (lookE (plainOf p p.defs[d].exp) l.length room window)]) ∧ H' = H := by
  have cc := cxK_ok (p := kds [6, 9] [58] [177, 189])
  refine ECall.bodyOW (cxK_ok (p := kds [6, 9] [58] [177, 189])) func62 rfl call62 (by rw [ntmps62]; simp) rfl fun hf hw => ?_
  have hsh := near_shaped p d hd h8
  simp [rProg, shapedV] at hsh
  obtain ⟨⟨sh, ok⟩, hq⟩ : ∃ q, plainOf p p.defs[d].exp = q := ⟨_, rfl⟩
  rw [hq] at hsh hpl ⊢
  simp [rShape] at hsh hpl
  simp [ntmps62, results62, rProg, rRoom] at hf ⊢
  refine AW.seq cc ?_
  simp
  refine AW.seq cc ?_
  simp
  refine EC.afun hsh ?_
  simp
  refine AW.seq cc ?_
  simp
  cases ok with
  | false =>
    simp
    exact fun hz => ⟨H, hz.drop (Nat.le_refl _), by simp [lookE]⟩
  | true =>
    have hpl' := hpl rfl
    simp
    refine AW.seq cc ?_
    have hwi := near_within' window 0 200
    have wn : inB window 0 200 = true → IntKind.wrap .i64 (window + 1) = window + 1 := fun h => by
      simp [inB] at h
      rw [wrap64] <;> omega
    simp
    refine EC.afun hwi ?_
    have hn0 : sh.n ≠ 0 := by omega
    cases hin : inB window 0 200 with
    | false =>
      simp
      exact fun hz => ⟨H, hz.drop (Nat.le_refl _), by simp [lookE, hin]⟩
    | true =>
      simp [wn hin, hn0]
      refine ⟨fun hmod hz => ⟨H, hz.drop (Nat.le_refl _), by simp [lookE, hin, hmod]⟩, fun hmod => ?_⟩
      refine AW.seq cc ?_
      have hm60 : l.length ≤ 60 := (formed_src hl).2
      have hrm : 0 ≤ room.most ∧ room.most ≤ 6 ∧ valB room.low = true ∧ valB room.high = true := by
        simp [roomB, inB] at hroom
        exact ⟨hroom.1.1.1.1, hroom.1.1.1.2, hroom.1.1.2, hroom.1.2⟩
      have wl : IntKind.wrap .i64 ((l.length : Int) + room.most) = (l.length : Int) + room.most := by rw [wrap64] <;> omega
      simp [wl]
      refine ⟨fun hlong hz => ⟨H, hz.drop (Nat.le_refl _), by simp [lookE, hin, hmod, hlong]⟩, fun hlong => ?_⟩
      have hE : lookE (sh, true) l.length room window = 0 := by simp [lookE, hin, hmod]; omega
      rw [hE]
      refine AW.seq cc ?_
      simp [GH.add_next]
      refine AW.seq cc ?_
      simp
      have hsc : ∀ m, GO.box [LV.d (DV.k (Value.int IntKind.i64 sh.src)), LV.d (DV.k (Value.int IntKind.i64 sh.n)), LV.d (DV.k (Value.int IntKind.i64 sh.fold)), LV.d (DV.sl (List.map rCalc sh.terms)), LV.d (DV.k (Value.int IntKind.i64 room.most)), LV.d (DV.k (Value.int IntKind.i64 room.low)), LV.d (DV.k (Value.int IntKind.i64 room.high)), LV.d (DV.k (Value.slice none 0 0)), LV.d (DV.k (Value.slice none 0 0)), LV.d (DV.k (Value.bool false)), LV.d (DV.k (Value.int IntKind.i64 0)), LV.d (DV.k (Value.int IntKind.i64 0)), LV.d (DV.k (Value.int IntKind.i64 0)), LV.d (DV.k (Value.int IntKind.i64 0)), LV.d (DV.k (Value.int IntKind.i64 0)), LV.d (DV.k (Value.int IntKind.i64 0)), LV.gm m] = sceneO (scene0 sh room nilS nilS m) := fun m => by simp [sceneO, scene0, rShape, rRoom, rRec, zeroRec]
      rw [hsc]
      refine AW.loopS cc (fun a : Nat × List (Value × LV) => ⟨[(2, .d (.sl (l.map rNews))), (4, lvI window), (5, lvI key), (6, .ip [.d (.sl (p.srcs.map rS)), .d (.sl (p.defs.map rDef))] 0), (14, .lp 14 0), (16, .gp (H.next + 1) 0), (59, .d (.sl (l.map rNews))), (60, lvI l.length), (61, lvI a.1)], [(14, (rShape sh).map .d)], (H.add (.map a.2)).add (sceneO (scene0 sh room nilS nilS H.next))⟩) (fun a => l.length - a.1)
        (fun a => a.1 ≤ l.length ∧ MapV a.2 (l.take a.1) sh.src) (0, []) ⟨⟨by simp, by simpa using MapV.nil _⟩, by simp [rShape]⟩ ?_
      rintro ⟨i, es⟩ ⟨hi, hm⟩
      simp only at hi hm
      simp [rShape]
      refine ⟨fun h => ?_, fun h => ?_⟩
      · simp [h, List.getElem?_eq_getElem h, rNews, rRec]
        have htk : l.take (i + 1) = l.take i ++ [l[i]] := by rw [List.take_add_one, List.getElem?_eq_getElem h]; rfl
        have wi := wrap_succ (n := 1000) (show i < 1000 by omega)
        refine ⟨fun q1 q2 => ?_, fun q => ?_⟩
        · refine AW.draw cc [] (.q 0 <| .q 1 <| .q 2 <| .q 4 <| .q 6 <| .q 7 <| .q 8 <| .q 10 <| .q 13 <| .q 3 <| .q 5 <| .q 9 <| .q 11 <| .q 12 <| .q 14 <| .q 15 <| .f <| .one 16 <| .done) (by kernel_rfl) ?_
          have hg := hm.get l[i].id
          have hkey : (∀ (a : Value) (b : LV), (a, b) ∈ es → (KK.sc (Sc.int IntKind.i64)).has a = true) = True := eq_true hm.key
          have hk1 : ∀ n, (KK.sc (Sc.int IntKind.i64)).has (Value.int IntKind.i64 n) = true := fun _ => rfl
          have hnb := hm.nb
          simp at hg
          simp [add2_0, add2_1, add2_set0, sceneO, scene0, rShape, rRoom, rRec, zeroRec, hkey, hk1, hg]
          have hm' : MapV es (l.take i) l[i].src := by rw [q2]; exact hm
          have hp := hm'.put q1
          rw [q2] at hp
          exact NX.go (i + 1, _) (by simp only; omega) ⟨h, by rw [htk]; exact hp⟩ (by simp [wi, rShape, rNews, rRec, sceneO, scene0, rRoom, zeroRec])
        · refine NX.go (i + 1, es) (by simp only; omega) ⟨h, by rw [htk]; exact hm.keep fun q' => q q'.1 q'.2⟩ (by simp [wi, rShape, rNews, rRec])
      · have e : i = l.length := by omega
        subst e
        rw [List.take_length] at hm
        have hmk := hist_Marks l p.srcs.length
        simp [marksV, hl] at hmk
        refine AW.seq cc ?_
        simp
        refine EC.afun hmk ?_
        simp
        refine AW.seq cc ?_
        refine AW.draw cc [] (.q 0 <| .q 1 <| .q 5 <| .q 6 <| .q 2 <| .q 3 <| .q 4 <| .q 10 <| .q 7 <| .q 8 <| .q 9 <| .q 11 <| .done) (by kernel_rfl) ?_
        have ws1 : IntKind.wrap .i64 (window - sh.n) = window - sh.n := by simp [inB] at hin; rw [wrap64] <;> omega
        have ws2 : IntKind.wrap .i64 (window - sh.n + 1) = window - sh.n + 1 := by simp [inB] at hin; rw [wrap64] <;> omega
        have hsn : sh.src.toNat < p.srcs.length := by omega
        have hss : (0 : Int) ≤ sh.src := hpl'.2.2.1
        have hsl : sh.src < (p.srcs.length : Int) := hpl'.2.2.2
        have hso : ((sh.src.toNat : Nat) : Int) = sh.src := by omega
        simp [ws1, ws2, hsn, hss, hsl, hso, rI]
        have hst := hist_Stands l p.srcs.length h12
        simp [hl] at hst
        refine AW.seq cc ?_
        simp
        refine EC.afun hst ?_
        simp
        refine AW.seq cc ?_
        simp
        obtain ⟨evs, hev⟩ : ∃ evs, standsM l = evs := ⟨_, rfl⟩
        have hevm : ∀ e ∈ evs, inMost e.rec_.val := fun e he => standsM_val hl e (by rw [hev]; exact he)
        simp only [hev] at h12 ⊢
        refine AW.loopS cc (fun a : Nat × LV × LV × GH => ⟨[(4, lvI window), (5, lvI key), (14, .lp 14 0), (16, .gp (H.next + 1) 0), (21, lvI (window - sh.n + 1)), (22, lvI (markM l sh.src)), (118, .d (.sl (evs.map rEvent))), (119, lvI evs.length), (120, lvI a.1)], [(14, (rShape sh).map .d)], a.2.2.2⟩) (fun a => evs.length - a.1)
          (fun a => a.1 ≤ evs.length ∧ VApp 3 1 ((H.add (.map es)).add (sceneO (scene0 sh room a.2.1 a.2.2.1 H.next))) a.2.1 ((fixedM l sh window key (evs.take a.1)).map rI) a.2.2.2 ∧ VApp 181 6 ((H.add (.map es)).add (sceneO (scene0 sh room a.2.1 a.2.2.1 H.next))) a.2.2.1 ((looseM l sh window key (evs.take a.1)).map rLoose) a.2.2.2)
          (0, nilS, nilS, (H.add (.map es)).add (sceneO (scene0 sh room nilS nilS H.next))) ⟨⟨by simp, by simpa [fixedM] using VApp.nil, by simpa [looseM] using VApp.nil⟩, by simp [rShape]⟩ ?_
        rintro ⟨i, y, z, H'⟩ ⟨hi, hy, hz⟩
        simp only at hi hy hz
        simp [rShape]
        refine ⟨fun h => ?_, fun h => ?_⟩
        · have htk : evs.take (i + 1) = evs.take i ++ [evs[i]] := by rw [List.take_add_one, List.getElem?_eq_getElem h]; rfl
          have hf1 : fixedM l sh window key (evs.take (i + 1)) = fixedM l sh window key (evs.take i) ++ (if (inWin sh window key evs[i] && !isLoose l sh evs[i]) = true then [evs[i].rec_.val] else []) := by
            rw [htk]; simp only [fixedM, List.filter_append, List.map_append, List.filter_cons, List.filter_nil]; split <;> rfl
          have hl1 : looseM l sh window key (evs.take (i + 1)) = looseM l sh window key (evs.take i) ++ (if (inWin sh window key evs[i] && isLoose l sh evs[i]) = true then [⟨evs[i], verM l sh.src evs[i].id⟩] else []) := by
            rw [htk]; simp only [looseM, List.filter_append, List.map_append, List.filter_cons, List.filter_nil]; split <;> rfl
          have hskip : inWin sh window key evs[i] = false → fixedM l sh window key (evs.take (i + 1)) = fixedM l sh window key (evs.take i) ∧ looseM l sh window key (evs.take (i + 1)) = looseM l sh window key (evs.take i) := fun q => by
            rw [hf1, hl1]; simp [q]
          have wi := wrap_succ (n := 1000) (show i < 1000 by omega)
          have hnx : ∀ (y' z' : LV) (H5 : GH), VApp 3 1 ((H.add (.map es)).add (sceneO (scene0 sh room y' z' H.next))) y' ((fixedM l sh window key (evs.take (i + 1))).map rI) H5 → VApp 181 6 ((H.add (.map es)).add (sceneO (scene0 sh room y' z' H.next))) z' ((looseM l sh window key (evs.take (i + 1))).map rLoose) H5 → True := fun _ _ _ _ _ => trivial
          by_cases c1 : evs[i].src = sh.src
          rotate_left
          · have hs' := hskip (by simp [inWin, c1])
            rw [← hs'.1] at hy; rw [← hs'.2] at hz
            have b1 : (evs[i].src != sh.src) = true := by simpa using c1
            simp [h, List.getElem?_eq_getElem h, rEvent, rRec, c1, b1]
            exact NX.go (i + 1, y, z, H') (by simp only; omega) ⟨h, hy, hz⟩ (by simp [wi, rShape, rEvent, rRec])
          by_cases c2 : evs[i].rec_.key = key
          rotate_left
          · have hs' := hskip (by simp [inWin, c2])
            rw [← hs'.1] at hy; rw [← hs'.2] at hz
            have b1 : (evs[i].src != sh.src) = false := by simpa using c1
            have b2 : (evs[i].rec_.key != key) = true := by simpa using c2
            simp [h, List.getElem?_eq_getElem h, rEvent, rRec, c1, c2, b1, b2]
            exact NX.go (i + 1, y, z, H') (by simp only; omega) ⟨h, hy, hz⟩ (by simp [wi, rShape, rEvent, rRec])
          have hwi2 := near_within' evs[i].rec_.at_ (window - sh.n + 1) window
          have hps := near_passes sh evs[i].rec_
          simp [rShape, rRec, c2] at hps
          have b1 : (evs[i].src != sh.src) = false := by simpa using c1
          have b2 : (evs[i].rec_.key != key) = false := by simpa using c2
          simp [h, List.getElem?_eq_getElem h, rEvent, rRec, c1, c2, b1, b2]
          refine EC.afun hwi2 ?_
          cases c3 : inB evs[i].rec_.at_ (window - sh.n + 1) window with
          | false =>
            have hs' := hskip (by simp [inWin, c3])
            rw [← hs'.1] at hy; rw [← hs'.2] at hz
            simp [b1, b2]
            exact NX.go (i + 1, y, z, H') (by simp only; omega) ⟨h, hy, hz⟩ (by simp [wi, rShape, rEvent, rRec])
          | true =>
            simp [b1, b2]
            refine EC.afun hps ?_
            cases c4 : passM sh evs[i].rec_ with
            | false =>
              have hs' := hskip (by simp [inWin, c4])
              rw [← hs'.1] at hy; rw [← hs'.2] at hz
              simp [b1, b2]
              exact NX.go (i + 1, y, z, H') (by simp only; omega) ⟨h, hy, hz⟩ (by simp [wi, rShape, rEvent, rRec])
            | true =>
              have hin' : inWin sh window key evs[i] = true := by simp [inWin, c1, c2, c3, c4]
              simp [b1, b2]
              have o1 : H'.obj (H.next + 1) = some (sceneO (scene0 sh room y z H.next)) := by rw [hy.ob _ (by simp [GH.add_next])]; exact add2_1
              have o0 : H'.obj H.next = some (.map es) := by rw [hy.ob _ (by simp only [GH.add_next]; omega)]; exact add2_0
              refine AW.draw cc [] (.q 0 <| .q 1 <| .q 2 <| .q 4 <| .q 3 <| .q 5 <| .q 6 <| .q 7 <| .done) (by kernel_rfl) ?_
              have hg := hm.get evs[i].id
              have hkey : (∀ (a : Value) (b : LV), (a, b) ∈ es → (KK.sc (Sc.int IntKind.i64)).has a = true) = True := eq_true hm.key
              have hk1 : ∀ n, (KK.sc (Sc.int IntKind.i64)).has (Value.int IntKind.i64 n) = true := fun _ => rfl
              simp at hg
              simp [o0, o1, sceneO, scene0, rShape, rRoom, rRec, zeroRec, hkey, hk1, hg]
              refine ⟨fun q1 q2 => ?_, fun q => ?_⟩
              · refine AW.draw cc [] (.q 0 <| .q 1 <| .q 2 <| .q 3 <| .q 6 <| .q 4 <| .f <| .one 5 <| .q 7 <| .q 8 <| .f <| .one 9 <| .q 10 <| .q 11 <| .f <| .one 12 <| .done) (by kernel_rfl) ?_
                simp [o1, sceneO, scene0, rShape, rRoom, rRec, zeroRec]
                have hlo : isLoose l sh evs[i] = true := by simp [isLoose, q1, q2]
                have e1 : fixedM l sh window key (evs.take (i + 1)) = fixedM l sh window key (evs.take i) := by rw [hf1]; simp [hlo]
                have e2 : looseM l sh window key (evs.take (i + 1)) = looseM l sh window key (evs.take i) ++ [⟨evs[i], verM l sh.src evs[i].id⟩] := by rw [hl1]; simp [hlo, hin']
                have hlen : (looseM l sh window key (evs.take i)).length ≤ evs.length := by
                  simp only [looseM, List.length_map]
                  exact Nat.le_trans (List.length_filter_le ..) (by simp; omega)
                refine APK.appV (ys := [rLoose ⟨evs[i], verM l sh.src evs[i].id⟩]) tyE175 rfl tyE181 (by simp) (x := z) (by simp [hz.plain.all]) hz (by simp [srcOf, rowsOf, rLoose, rEvent, rRec, c1, c2]) (by simp) (fun r hr => by obtain ⟨_, _, rfl⟩ := List.mem_map.1 hr; simp) (by simp) (by simp; omega) (by simp) fun z' H5 h5 n5 f5 => ?_
                have y5 := hy.keep hz (by decide) n5 h5.ob f5
                have o5 : H5.obj (H.next + 1) = some (sceneO (scene0 sh room y z H.next)) := by rw [h5.ob _ (by simp [GH.add_next])]; exact add2_1
                have y6 := y5.set (k := H.next + 1) (by simp [GH.add_next]) (sceneO (scene0 sh room y z' H.next))
                have z6 := h5.set (k := H.next + 1) (by simp [GH.add_next]) (sceneO (scene0 sh room y z' H.next))
                rw [add2_set1] at y6 z6
                simp [o5, sceneO, scene0, rShape, rRoom, rRec, zeroRec, h5.plain.all, h5.nb]
                exact NX.go (i + 1, y, z', H5.set (H.next + 1) (sceneO (scene0 sh room y z' H.next))) (by simp only; omega) ⟨h, by rw [e1]; exact y6, by rw [e2, List.map_append]; exact z6⟩ (by simp [wi, rShape, rEvent, rRec, sceneO, scene0, rRoom, zeroRec])
              · refine AW.draw cc [] (.q 0 <| .q 1 <| .q 2 <| .q 3 <| .q 5 <| .q 6 <| .q 4 <| .f <| .one 7 <| .q 8 <| .f <| .one 9 <| .q 10 <| .q 11 <| .f <| .one 12 <| .done) (by kernel_rfl) ?_
                simp [o1, sceneO, scene0, rShape, rRoom, rRec, zeroRec]
                have hlo : isLoose l sh evs[i] = false := by simp only [isLoose, decide_eq_false_iff_not]; rintro ⟨r1, r2⟩; have := q r1; omega
                have e1 : fixedM l sh window key (evs.take (i + 1)) = fixedM l sh window key (evs.take i) ++ [evs[i].rec_.val] := by rw [hf1]; simp [hlo, hin']
                have e2 : looseM l sh window key (evs.take (i + 1)) = looseM l sh window key (evs.take i) := by rw [hl1]; simp [hlo]
                have hlen : (fixedM l sh window key (evs.take i)).length ≤ evs.length := by
                  simp only [fixedM, List.length_map]
                  exact Nat.le_trans (List.length_filter_le ..) (by simp; omega)
                refine APK.appV (ys := [rI evs[i].rec_.val]) tyE89 rfl tyE3 (by simp) (x := y) (by simp [hy.plain.all]) hy (by simp [srcOf, rowsOf, rI]) (by simp) (fun r hr => by obtain ⟨_, _, rfl⟩ := List.mem_map.1 hr; rfl) (by simp) (by simp; omega) (by simp) fun y' H5 h5 n5 f5 => ?_
                have z5 := hz.keep hy (by decide) n5 h5.ob f5
                have o5 : H5.obj (H.next + 1) = some (sceneO (scene0 sh room y z H.next)) := by rw [h5.ob _ (by simp [GH.add_next])]; exact add2_1
                have y6 := h5.set (k := H.next + 1) (by simp [GH.add_next]) (sceneO (scene0 sh room y' z H.next))
                have z6 := z5.set (k := H.next + 1) (by simp [GH.add_next]) (sceneO (scene0 sh room y' z H.next))
                rw [add2_set1] at y6 z6
                simp [o5, sceneO, scene0, rShape, rRoom, rRec, zeroRec, h5.plain.all, h5.nb]
                exact NX.go (i + 1, y', z, H5.set (H.next + 1) (sceneO (scene0 sh room y' z H.next))) (by simp only; omega) ⟨h, by rw [e1, List.map_append]; exact y6, by rw [e2]; exact z6⟩ (by simp [wi, rShape, rEvent, rRec, sceneO, scene0, rRoom, zeroRec])
        · have e : i = evs.length := by omega
          subst e
          rw [List.take_length] at hy hz
          have o1 : H'.obj (H.next + 1) = some (sceneO (scene0 sh room y z H.next)) := by rw [hy.ob _ (by simp [GH.add_next])]; exact add2_1
          refine AW.seq cc ?_
          have o1' := o1
          simp only [sceneO, scene0, rShape, rRoom, rRec, zeroRec, List.map_cons, List.map_nil, List.cons_append, List.nil_append, dI_eq] at o1'
          simp [o1', hz.plain.all, hz.nb]
          have hl19 : (looseM l sh window key evs).length ≤ 12 := by
            simp only [looseM, List.length_map]
            exact Nat.le_trans (List.length_filter_le ..) h12
          have hso := loose_sort (looseM l sh window key evs) (by omega) (fun x hx => by
            obtain ⟨e, he, rfl⟩ := List.mem_map.1 hx
            exact hevm e (List.mem_filter.1 he).1) z _ H' hz
          refine EC.of hso (fun v H5 hR => ?_) (fun v H5 hR => ?_)
          rotate_left
          · obtain ⟨⟨_, q⟩, _⟩ := hR; cases q
          obtain ⟨_, z5, n5, f5⟩ := hR
          have y5 := hy.keep hz (by decide) n5 z5.ob f5
          have o5 : H5.obj (H.next + 1) = some (sceneO (scene0 sh room y z H.next)) := by rw [z5.ob _ (by simp [GH.add_next])]; exact add2_1
          have hmr := markM_in hl sh.src
          have hwin : 0 ≤ window ∧ window ≤ 200 := by simpa [inB] using hin
          have hfr : -1000 ≤ maxI (window - sh.n + 1) (markM l sh.src) ∧ maxI (window - sh.n + 1) (markM l sh.src) ≤ 1000 := by unfold maxI; split <;> omega
          have hcome := scene_come (scene0 sh room y z H.next) (H.next + 1) (maxI (window - sh.n + 1) (markM l sh.src)) window key H5 o5 hfr (by omega) hrm.2.2.1 hrm.2.2.2
          have nb5 : H.next + 1 < H5.next := by have := z5.nx; simp only [GH.add_next] at this; omega
          simp
          refine AW.seq cc ?_
          simp at hcome
          simp [nb5]
          refine EC.of hcome (fun v H6 hR => ?_) (fun v H6 hR => ?_)
          rotate_left
          · obtain ⟨⟨_, q⟩, _⟩ := hR; cases q
          obtain ⟨_, hH6⟩ := hR
          simp
          obtain ⟨SC, hSC⟩ : ∃ SC, comeM (maxI (window - sh.n + 1) (markM l sh.src)) key (window - maxI (window - sh.n + 1) (markM l sh.src) + 1).toNat (scene0 sh room y z H.next) room.low (room.high - room.low + 1).toNat = SC := ⟨_, rfl⟩
          have hk := comeM_keep (maxI (window - sh.n + 1) (markM l sh.src)) key (window - maxI (window - sh.n + 1) (markM l sh.src) + 1).toNat (room.high - room.low + 1).toNat (scene0 sh room y z H.next) room.low
          have hfin := comeM_lists (maxI (window - sh.n + 1) (markM l sh.src)) key (window - maxI (window - sh.n + 1) (markM l sh.src) + 1).toNat (sl ((fixedM l sh window key evs).map rI)) (sl ((sortL (looseM l sh window key evs)).map rLoose)) (room.high - room.low + 1).toNat (scene0 sh room y z H.next) room.low
          rw [hSC] at hk hfin
          simp only [scene0] at hSC hk
          simp only [scene0, hSC] at hH6
          have y6 := y5.set (k := H.next + 1) (by simp [GH.add_next]) (sceneO SC)
          have z6 := z5.set (k := H.next + 1) (by simp [GH.add_next]) (sceneO SC)
          rw [← hH6, add2_set1] at y6 z6
          rw [← hk.1] at y6
          rw [← hk.2.1] at z6
          have hBn : ((H.add (GO.map es)).add (sceneO SC)).next = H.next + 2 := rfl
          have oold : ∀ m, m < H.next + 2 → m ≠ H.next + 1 → H6.obj m = (H.add (GO.map es)).obj m := fun m hm hne => by
            rw [hH6, GH.set_obj, if_neg hne, z5.ob m (by simp only [GH.add_next]; omega), GH.add_obj, if_neg (by simp only [GH.add_next]; omega)]
          have hnm : nbH (H.add (GO.map es)) := hw.add (hm.nb _)
          refine AW.scene_fz (sc := SC) (m0 := H.next) (k := H.next + 1) y6 (fun r hr => by obtain ⟨_, _, rfl⟩ := List.mem_map.1 hr; rfl) z6 (fun r hr => by obtain ⟨_, _, rfl⟩ := List.mem_map.1 hr; simp) hk.2.2.1 (by rw [hBn]; omega) (by simp only; rw [hH6, GH.set_same]) (fun m o hm' hne ho => ?_) (fun s2 h2 => ?_)
          · rw [hBn] at hm' ⊢
            simp only at ho
            rw [oold m hm' hne] at ho
            exact GO.nb_mono (by simp only [GH.add_next]; omega) (hnm.nb m o ho)
          · have e16 := h2.env 16 (H.next + 1) 0 (by simp)
            obtain ⟨env2, L2, H2, nt2, df2⟩ := s2
            have ent := h2.nt
            have edf := h2.df
            have esc := h2.sc
            have eob := h2.ob
            have enx := h2.nx
            simp only at ent edf e16 esc eob enx
            subst ent; subst edf
            refine AW.ev cc ?_
            simp [e16]
            have hsm : sceneM l sh room window key H.next = { SC with vals := sl ((fixedM l sh window key evs).map rI), loose := sl ((sortL (looseM l sh window key evs)).map rLoose) } := by
              rw [sceneM, hev]; exact hfin
            refine fun _ => ⟨(H.add (.map es)).add (sceneO (sceneM l sh room window key H.next)), ?_, by simp only [GH.add_next]; omega, es, by simpa using hm, rfl⟩
            have hnb2 : (sceneO (sceneM l sh room window key H.next)).nb ((H.add (.map es)).next + 1) := by
              rw [hsm]
              simp only [sceneO, GO.nb, hk.2.2.1]
              simp [nbs_append, nbs, LV.nb, GH.add_next]
              omega
            refine Drop_sub (by rw [hBn] at eob; have := z6.nx; simp only [GH.add_next] at this ⊢; omega) (fun m hm' => ?_) (hnm.add hnb2) (by simp only [GH.add_next]; omega)
            have e1 : (H.add (GO.map es)).next = H.next + 1 := rfl
            simp only [GH.add_next] at hm'
            by_cases em : m = (H.add (GO.map es)).next
            · rw [GH.add_obj, if_pos em, em, e1, hsm]; exact esc.symm
            · rw [GH.add_obj, if_neg em, eob m (by rw [hBn]; omega) (by omega), oold m (by omega) (by omega)]
end Go.Aft
end
section
set_option maxRecDepth 20000
namespace Go.Aft
open Go.Proofs.Tryz
def valsM (F : List Int) (L : List Loose) (w : Way) (great : Bool) (rec_ : Int) : List Int := F ++ (keptM L w great).map (fun x => x.ev.rec_.val) ++ List.replicate (w.turned + w.more) rec_
def sRec (s : Scene) (great : Bool) : Int := (if great = true then s.high else s.low).val
theorem keptM_len (L : List Loose) (w : Way) (great : Bool) (hw : w.gone + w.turned ≤ L.length) : (keptM L w great).length = L.length - (w.gone + w.turned) := by
  unfold keptM; split <;> simp
theorem scene_values (s : Scene) (F : List Int) (L : List Loose) (hF : s.vals = sl (F.map rI)) (hL : s.loose = sl (L.map rLoose)) (h60 : F.length + L.length ≤ 60) (w : Way) (hw : w.gone + w.turned ≤ L.length) (hm : w.gone + w.turned + w.more ≤ 6) (great : Bool) (n : Nat) (H : GH) (ho : H.obj n = some (sceneO s)) :
    ECall prog 105 [.gp n 0, lv (rWay w), .d (.k (.bool great))] H fun ce H' => ce = .ret (sl ((valsM F L w great (sRec s great)).map rI)) ∧ H' = H := by
  have cc := cxK_ok (p := kds [4] [7] [])
  refine ECall.bodyNW (cxK_ok (p := kds [4] [7] [])) func105 rfl call105 (by rw [ntmps105]; simp) rfl fun hf hz => ?_
  have ln := hz.lt ho
  have hkl := keptM_len L w great hw
  have hv0 : (H.add (valsO [])).obj H.next = some (valsO []) := by simp [GH.add_obj]
  have hon : ∀ o, (H.add o).obj n = some (sceneO s) := fun o => by rw [GH.add_obj, if_neg (by omega)]; exact ho
  have hset : ∀ a b : GO, (H.add a).set H.next b = H.add b := fun a b => GH.add_set
  simp [ntmps105, results105, rWay]
  refine AW.seq cc ?_
  simp
  refine AW.seq cc ?_
  simp
  refine AW.at (c := cxK (kds [4] [7] [])) ⟨[(0, .gp n 0), (2, .d (.k (.bool great))), (4, .ip [lvI w.gone, lvI w.turned, lvI w.more] 0), (7, .gp H.next 0)], [], H.add (valsO [])⟩ ⟨by simp, trivial, rfl, rfl, rfl⟩ ?_
  refine AW.seq cc ?_
  have hs : (sceneO s) = GO.box (((rShape s.sh).map .d ++ (rRoom s.room).map .d ++ [s.vals, s.loose, .d (.k (.bool s.has))] ++ (rRec s.low).map .d ++ (rRec s.high).map .d ++ [s.vers])) := rfl
  have hp1 := values_put [] F H.next (H.add (valsO [])) hv0 (by simp; omega)
  simp at hp1
  simp [hon, hs, rShape, rRoom, rRec, hF]
  refine ⟨by rw [GH.add_next]; omega, EC.of hp1 (fun v H2 hR => ?_) (fun v H2 hR => ?_)⟩
  rotate_left
  · obtain ⟨⟨_, q⟩, _⟩ := hR; cases q
  obtain ⟨_, rfl⟩ := hR
  rw [hset]
  simp
  refine AW.seq cc ?_
  have hch := scene_changed s L hL (by omega) w hw great n (H.add (valsO F)) (hon _)
  simp [rWay] at hch
  simp [GH.add_next]
  refine ⟨by omega, EC.of hch (fun v H2 hR => ?_) (fun v H2 hR => ?_)⟩
  rotate_left
  · cases hR.1
  obtain ⟨e, rfl⟩ := hR
  cases e
  simp
  obtain ⟨K, hK⟩ : ∃ K, keptM L w great = K := ⟨_, rfl⟩
  rw [hK] at hkl
  have hr1 : List.range' 0 1 = [0] := rfl
  obtain ⟨V, hV⟩ : ∃ V, (K.map fun x => x.ev.rec_.val) = V := ⟨_, rfl⟩
  have hVl : V.length = K.length := by rw [← hV]; simp
  have hVi : ∀ i (h : i < K.length), V[i]? = some K[i].ev.rec_.val := fun i h => by rw [← hV]; simp [h]
  have hvm : ∀ r, valsM F L w great r = F ++ V ++ List.replicate (w.turned + w.more) r := fun r => by rw [valsM, hK, hV]
  simp only [hK]
  refine AW.seq cc ?_
  simp
  refine AW.loopS cc (fun i : Nat => ⟨[(0, .gp n 0), (2, .d (.k (.bool great))), (4, .ip [lvI w.gone, lvI w.turned, lvI w.more] 0), (7, .gp H.next 0), (24, .d (.sl (K.map rLoose))), (25, lvI K.length), (26, lvI i)], [], H.add (valsO (F ++ V.take i))⟩) (fun i => K.length - i) (fun i => i ≤ K.length) 0 ⟨by simp, by simp⟩ ?_
  intro i hi
  simp
  refine ⟨fun h => ?_, fun h => ?_⟩
  · have wi := wrap_succ (n := 1000) (show i < 1000 by omega)
    have hp2 := values_put (F ++ V.take i) [K[i].ev.rec_.val] H.next (H.add (valsO (F ++ V.take i))) (by simp [GH.add_obj]) (by simp; omega)
    simp [rI] at hp2
    simp [h, List.getElem?_eq_getElem h, rLoose, rEvent, rRec, hr1, GH.add_next]
    refine EC.of hp2 (fun v H2 hR => ?_) (fun v H2 hR => ?_)
    rotate_left
    · obtain ⟨⟨_, q⟩, _⟩ := hR; cases q
    obtain ⟨_, rfl⟩ := hR
    rw [hset]
    simp
    refine NX.go (i + 1) (by omega) h (by simp [wi, rLoose, rEvent, rRec, List.take_add_one, hVi i h])
  · have e : i = K.length := by omega
    subst e
    rw [← hVl, List.take_length]
    simp
    refine AW.seq cc ?_
    have wm : IntKind.wrap .i64 ((w.turned : Int) + w.more) = (w.turned : Int) + w.more := by rw [wrap64] <;> omega
    simp [wm]
    obtain ⟨M, hM⟩ : ∃ M, w.turned + w.more = M := ⟨_, rfl⟩
    have hMi : (w.turned : Int) + w.more = M := by omega
    rw [hMi]
    refine AW.loopS cc (fun i : Nat => ⟨[(0, .gp n 0), (2, .d (.k (.bool great))), (7, .gp H.next 0), (41, lvI M), (42, lvI i)], [], H.add (valsO (F ++ V ++ List.replicate i (sRec s great)))⟩) (fun i => M - i) (fun i => i ≤ M) 0 ⟨by simp, by simp⟩ ?_
    intro i hi
    simp
    refine ⟨fun h => ?_, fun h => ?_⟩
    · have wi := wrap_succ (n := 1000) (show i < 1000 by omega)
      have hrc := scene_record s n great (H.add (valsO (F ++ V ++ List.replicate i (sRec s great)))) (hon _)
      simp [rRec] at hrc
      have hp3 := values_put (F ++ V ++ List.replicate i (sRec s great)) [sRec s great] H.next (H.add (valsO (F ++ V ++ List.replicate i (sRec s great)))) (by simp [GH.add_obj]) (by simp; omega)
      simp [rI] at hp3
      simp [GH.add_next]
      refine ⟨by omega, EC.of hrc (fun v H2 hR => ?_) (fun v H2 hR => ?_)⟩
      rotate_left
      · cases hR.1
      obtain ⟨e, rfl⟩ := hR
      cases e
      have hsr : (if great = true then s.high else s.low).val = sRec s great := rfl
      simp [hr1, hsr, GH.add_next]
      refine EC.of hp3 (fun v H2 hR => ?_) (fun v H2 hR => ?_)
      rotate_left
      · obtain ⟨⟨_, q⟩, _⟩ := hR; cases q
      obtain ⟨_, rfl⟩ := hR
      rw [hset]
      simp
      exact NX.go (i + 1) (by omega) h (by simp [wi, List.replicate_succ'])
    · have e : i = M := by omega
      subst e
      have hls := values_list (F ++ V ++ List.replicate i (sRec s great)) H.next (H.add (valsO (F ++ V ++ List.replicate i (sRec s great)))) (by simp [GH.add_obj]) (by simp; omega)
      simp at hls
      refine AW.ev cc ?_
      simp [GH.add_next]
      refine EC.of hls (fun v H2 hR => ?_) (fun v H2 hR => ?_)
      rotate_left
      · cases hR.1
      obtain ⟨e, rfl⟩ := hR
      cases e
      rw [hset]
      simp
      rw [hvm, hM]
      exact fun _ => ⟨Drop_same (by rw [GH.add_next]; omega) (fun m hm => by rw [GH.add_obj, if_neg (by omega)]) hz.none, by simp⟩
end Go.Aft
end
section
set_option maxRecDepth 20000
namespace Go.Aft
open Go.Proofs.Tryz
structure NB where
  some : Bool
  none : Bool
  low : Int
  high : Int
  deriving DecidableEq
structure Bnd where
  nb : NB
  wn : Way
  wl : Way
  wh : Way
def rNB (b : NB) : List DV := [dB b.some, dB b.none, dI b.low, dI b.high]
def bndO (b : Bnd) : GO := .box ((rNB b.nb ++ rWay b.wn ++ rWay b.wl ++ rWay b.wh).map .d)
def nowM (b : Bnd) (low high : Int) : NB := ⟨true, b.nb.none, if b.nb.some = true then farI low b.nb.low false else low, if b.nb.some = true then farI high b.nb.high true else high⟩
def takeM (b : Bnd) (w : Way) (low high : Int) : Bnd :=
  if nowM b low high = b.nb then b else ⟨nowM b low high, b.wn, if b.nb.some = false ∨ low < b.nb.low then w else b.wl, if b.nb.some = false ∨ b.nb.high < high then w else b.wh⟩
theorem bound_take (b : Bnd) (w : Way) (low high : Int) (n : Nat) (H : GH) (ho : H.obj n = some (bndO b)) :
    ECall prog 106 [.gp n 0, lv (rWay w), lvI low, lvI high] H fun ce H' => (∃ v, ce = .ret v) ∧ H' = H.set n (bndO (takeM b w low high)) := by
  have cc := cxS_ok (p := kds [5] [] [])
  refine ECall.bodyNW (cxS_ok (p := kds [5] [] [])) func106 rfl call106 (by rw [ntmps106]; simp) rfl fun hf hz => ?_
  have ln := hz.lt ho
  obtain ⟨⟨so, no, lo, hi⟩, wn, wl, wh⟩ := b
  have hob : bndO ⟨⟨so, no, lo, hi⟩, wn, wl, wh⟩ = .box [.d (.k (.bool so)), .d (.k (.bool no)), lvI lo, lvI hi, lvI wn.gone, lvI wn.turned, lvI wn.more, lvI wl.gone, lvI wl.turned, lvI wl.more, lvI wh.gone, lvI wh.turned, lvI wh.more] := rfl
  rw [hob] at ho
  have f1 := near_far low lo false
  have f2 := near_far high hi true
  simp at f1 f2
  simp [ntmps106, results106, rWay]
  refine AW.seq cc ?_
  simp
  refine AW.seq cc ?_
  simp [ho]
  refine AW.seq cc ?_
  simp [ho]
  refine ⟨fun hs => ?_, fun hs => ?_⟩
  · subst hs
    refine AW.draw cc [(6, .n), (13, .n)] (.q 0 <| .q 1 <| .q 2 <| .q 3 <| .q 4 <| .q 7 <| .q 8 <| .q 9 <| .q 10 <| .q 11 <| .q 5 <| .q 6 <| .q 14 <| .f <| .one 12 <| .q 13 <| .f <| .one 15 <| .q 16 <| .f <| .one 17 <| .done) (by kernel_rfl) ?_
    simp [ho]
    refine FC.afun f1 ?_
    simp [ho]
    refine FC.afun f2 ?_
    simp
    refine AW.seq cc ?_
    simp
    refine AW.draw cc [] (.q 1 <| .q 2 <| .q 3 <| .q 0 <| .q 4 <| .q 5 <| .done) (by kernel_rfl) ?_
    simp [ho]
    have os : ∀ o, (H.set n o).obj n = some o := fun o => GH.set_same
    refine ⟨fun e1 e2 hz2 => ?_, fun e => ?_⟩
    · have : takeM ⟨⟨true, no, lo, hi⟩, wn, wl, wh⟩ w low high = ⟨⟨true, no, lo, hi⟩, wn, wl, wh⟩ := by simp [takeM, nowM, e1, e2]
      rw [this, GH.set_id (by rw [hob]; exact ho)]
      exact hz2.drop (Nat.le_refl _)
    · have ht : takeM ⟨⟨true, no, lo, hi⟩, wn, wl, wh⟩ w low high = ⟨⟨true, no, farI low lo false, farI high hi true⟩, wn, if low < lo then w else wl, if hi < high then w else wh⟩ := by
        unfold takeM
        rw [if_neg]
        · simp [nowM]
        · simp [nowM]; exact e
      rw [ht]
      refine AW.ev cc ?_
      by_cases c1 : low < lo <;> by_cases c2 : hi < high
      all_goals
        simp [ho, os, c1, c2, GH.set_set]
        exact fun hz2 => hz2.drop (by rw [GH.set_next]; exact Nat.le_refl _)
  · subst hs
    refine AW.seq cc ?_
    simp
    refine AW.draw cc [] (.q 1 <| .q 2 <| .q 3 <| .q 0 <| .q 4 <| .q 5 <| .done) (by kernel_rfl) ?_
    simp [ho]
    have os : ∀ o, (H.set n o).obj n = some o := fun o => GH.set_same
    have ht : takeM ⟨⟨false, no, lo, hi⟩, wn, wl, wh⟩ w low high = ⟨⟨true, no, low, high⟩, wn, w, w⟩ := by
      unfold takeM
      rw [if_neg]
      · simp [nowM]
      · simp [nowM]
    rw [ht]
    refine AW.ev cc ?_
    simp [ho, os, GH.set_set]
    exact fun hz2 => hz2.drop (by rw [GH.set_next]; exact Nat.le_refl _)
end Go.Aft
end
section
set_option maxRecDepth 20000
namespace Go.Aft
open Go.Proofs.Tryz
def wM (can : Bool) (g t : Nat) : Nat → Nat → List Way
  | _, 0 => []
  | m, c + 1 => (if can = true ∨ t + m = 0 then [⟨g, t, m⟩] else []) ++ wM can g t (m + 1) c
def wT (P : Nat) (can : Bool) (g : Nat) : Nat → Nat → List Way
  | _, 0 => []
  | t, c + 1 => wM can g t 0 (P + 1 - g - t) ++ wT P can g (t + 1) c
def wG (P mn : Nat) (can : Bool) : Nat → Nat → List Way
  | _, 0 => []
  | g, c + 1 => wT P can g 0 (mn + 1 - g) ++ wG P mn can (g + 1) c
def waysM (P mn : Nat) (can : Bool) : List Way := wG P mn can 0 (mn + 1)
def rowW (w : Way) : LV := lv (rWay w)
theorem AW.nb {P : Program} {rd : RD} {x : Code} {s : S} {Q : QT} (h : nbH s.H → @AW P rd ⟨x⟩ s Q) : @AW P rd ⟨x⟩ s Q := fun E a w hs => h hs.nbH E a w hs
theorem scene_ways (s : Scene) (L : List Loose) (hL : s.loose = sl (L.map rLoose)) (h60 : L.length ≤ 60) (P : Nat) (hP : s.room.most = P) (hP6 : P ≤ 6) {y N n : Nat} {J : Nat → GH → Prop}
    (hI : Iter prog y N ((waysM P (min P L.length) s.has).map rowW) J (fun _ => False) (fun _ _ => False)) (hsc : ∀ i H, J i H → H.obj n = some (sceneO s)) (H : GH) (hN : N ≤ H.next) (hj : J 0 H) :
    ECall prog 153 [.yl y, .ip [.gp n 0] 0] H fun ce H' => GH.same N H H' ∧ (match ce with
      | .ret _ => J (waysM P (min P L.length) s.has).length H'
      | .pan _ => False) := by
  have cc := cxK_ok (p := kds [] [] [])
  refine ECall.bodyN (cxK_ok (p := kds [] [] [])) func153 rfl call153 (by rw [ntmps153]; simp) rfl fun hf hw => ?_
  obtain ⟨mn, hmn⟩ : ∃ mn, min P L.length = mn := ⟨_, rfl⟩
  have hmin : minI (P : Int) (L.length : Int) = (mn : Int) := by unfold minI; split <;> omega
  rw [hmn] at hI ⊢
  obtain ⟨rows, hrows⟩ : ∃ rows, (waysM P mn s.has).map rowW = rows := ⟨_, rfl⟩
  rw [hrows] at hI
  have hlen : rows.length = (waysM P mn s.has).length := by rw [← hrows]; simp
  have hs : (sceneO s) = GO.box (((rShape s.sh).map .d ++ (rRoom s.room).map .d ++ [s.vals, s.loose, .d (.k (.bool s.has))] ++ (rRec s.low).map .d ++ (rRec s.high).map .d ++ [s.vers])) := rfl
  simp [ntmps153, results153]
  refine AW.loopS cc (fun a : Nat × Nat × GH => ⟨[(0, .yl y), (1, .ip [.gp n 0] 0), (3, lvI a.1)], [], a.2.2⟩) (fun a => mn + 1 - a.1)
    (fun a => a.1 ≤ mn + 1 ∧ GH.same N H a.2.2 ∧ (a.2.1 ≤ rows.length ∧ J a.2.1 a.2.2) ∧ rows.drop a.2.1 = (wG P mn s.has a.1 (mn + 1 - a.1)).map rowW) (0, 0, H) ⟨⟨by simp, GH.same.refl, ⟨Nat.zero_le _, hj⟩, by rw [← hrows]; rfl⟩, by simp⟩ ?_
  rintro ⟨g, i, H1⟩ ⟨g1, g2, g3, g4⟩
  simp only at g1 g2 g3 g4
  have hob := hsc _ _ g3.2
  rw [hs] at hob
  simp
  refine AW.draw cc [] (.q 0 <| .q 1 <| .q 2 <| .q 3 <| .q 4 <| .q 5 <| .q 6 <| .q 7 <| .q 8 <| .q 9 <| .q 10 <| .q 11 <| .q 12 <| .done) (by kernel_rfl) ?_
  simp [hob, rShape, rRoom, rRec, hP, hL, hmin]
  refine ⟨fun hg => ?_, fun hg => ?_⟩
  · have e1 : mn + 1 - g = (mn - g) + 1 := by omega
    rw [e1, wG] at g4
    have wg : IntKind.wrap .i64 ((g : Int) + 1) = (g : Int) + 1 := by rw [wrap64] <;> omega
    refine AW.loopS cc (fun a : Nat × Nat × GH => ⟨[(0, .yl y), (1, .ip [.gp n 0] 0), (3, lvI g), (4, lvI a.1)], [], a.2.2⟩) (fun a => mn + 1 - g - a.1)
      (fun a => a.1 ≤ mn + 1 - g ∧ GH.same N H a.2.2 ∧ (a.2.1 ≤ rows.length ∧ J a.2.1 a.2.2) ∧ rows.drop a.2.1 = (wT P s.has g a.1 (mn + 1 - g - a.1) ++ wG P mn s.has (g + 1) (mn - g)).map rowW) (0, i, H1) ⟨⟨by simp, g2, g3, by simpa using g4⟩, by simp⟩ ?_
    rintro ⟨t, i2, H2⟩ ⟨t1, t2, t3, t4⟩
    simp only at t1 t2 t3 t4
    have hob2 := hsc _ _ t3.2
    rw [hs] at hob2
    have wt0 : IntKind.wrap .i64 ((g : Int) + t) = (g : Int) + t := by rw [wrap64] <;> omega
    simp
    refine AW.draw cc [] (.q 0 <| .q 1 <| .q 2 <| .q 3 <| .q 4 <| .q 5 <| .q 6 <| .q 7 <| .q 8 <| .q 9 <| .q 10 <| .q 11 <| .q 12 <| .q 13 <| .q 14 <| .done) (by kernel_rfl) ?_
    simp [hob2, rShape, rRoom, rRec, hP, hL, hmin, wt0]
    refine ⟨fun ht => ?_, fun ht => ?_⟩
    · have e2 : mn + 1 - g - t = (mn - g - t) + 1 := by omega
      rw [e2, wT, List.append_assoc] at t4
      have hmP : mn ≤ P := by omega
      have wt : IntKind.wrap .i64 ((t : Int) + 1) = (t : Int) + 1 := by rw [wrap64] <;> omega
      refine AW.loopW cc (fun a : Nat × Nat × GH => ⟨[(0, .yl y), (1, .ip [.gp n 0] 0), (3, lvI g), (4, lvI t), (5, lvI a.1)], [], a.2.2⟩) (fun a => P + 1 - g - t - a.1)
        (fun a => a.1 ≤ P + 1 - g - t ∧ GH.same N H a.2.2 ∧ (a.2.1 ≤ rows.length ∧ J a.2.1 a.2.2) ∧ rows.drop a.2.1 = (wM s.has g t a.1 (P + 1 - g - t - a.1) ++ (wT P s.has g (t + 1) (mn - g - t) ++ wG P mn s.has (g + 1) (mn - g))).map rowW) (0, i2, H2) ⟨⟨by simp, t2, t3, by simpa using t4⟩, by simp⟩ ?_
      rintro ⟨m, i3, H3⟩ ⟨m1, m2, m3, m4⟩
      simp only at m1 m2 m3 m4
      have hob3 := hsc _ _ m3.2
      rw [hs] at hob3
      have wm0 : IntKind.wrap .i64 ((g : Int) + t + m) = (g : Int) + t + m := by rw [wrap64] <;> omega
      have wm1 : IntKind.wrap .i64 ((t : Int) + m) = (t : Int) + m := by rw [wrap64] <;> omega
      have wm : IntKind.wrap .i64 ((m : Int) + 1) = (m : Int) + 1 := by rw [wrap64] <;> omega
      refine AW.nb fun hz3 => ?_
      refine AW.ev cc ?_
      simp at hz3
      by_cases hle : g + t + m ≤ P
      rotate_left
      · have hle' : ¬ (g : Int) + t + m ≤ P := by omega
        have e3 : P + 1 - g - t - m = 0 := by omega
        rw [e3, wM, List.nil_append] at m4
        simp [hob3, rShape, rRoom, rRec, hP, hL, hmin, wt0, wm0, wm1, hle', wt]
        have e4 : mn + 1 - g - (t + 1) = mn - g - t := by omega
        exact NX.go (t + 1, i3, H3) (by simp only; omega) ⟨by simp only; omega, m2, m3, by simp only; rw [e4]; exact m4⟩ (by simp [wt])
      have hle' : (g : Int) + t + m ≤ P := by omega
      have e3 : P + 1 - g - t - m = (P - g - t - m) + 1 := by omega
      have e4 : P + 1 - g - t - (m + 1) = P - g - t - m := by omega
      rw [e3, wM] at m4
      by_cases hc : s.has = true ∨ t + m = 0
      rotate_left
      · have hh : s.has = false := by simpa using fun q => hc (.inl q)
        have h0 : ¬ (t : Int) + m = 0 := fun q => hc (.inr (by omega))
        have hb : ((t : Int) + m == 0) = false := by simpa using h0
        rw [if_neg hc, List.nil_append] at m4
        simp [hob3, rShape, rRoom, rRec, hP, hL, hmin, wt0, wm0, wm1, hle', hh, h0, hb]
        exact NX.go (m + 1, i3, H3) (by simp only; omega) ⟨by simp only; omega, m2, m3, by simp only; rw [e4]; exact m4⟩ (by simp [wm])
      · rw [if_pos hc] at m4
        have hrow : rows[i3]? = some (rowW ⟨g, t, m⟩) := by
          have : (rows.drop i3)[0]? = some (rowW ⟨g, t, m⟩) := by rw [m4]; simp
          rw [List.getElem?_drop] at this; simpa using this
        have hdr : rows.drop (i3 + 1) = (wM s.has g t (m + 1) (P - g - t - m) ++ (wT P s.has g (t + 1) (mn - g - t) ++ wG P mn s.has (g + 1) (mn - g))).map rowW := by
          rw [← List.drop_drop, m4]; simp
        have hy := hI.step hrow (by rw [m2.next]; exact hN) hz3 m3.2
        simp [rowW, rWay] at hy
        have key : ∀ (v : LV) (H4 : GH), (GH.same N H3 H4 ∧ (v = bool true ∧ J (i3 + 1) H4 ∨ v = bool false ∧ False)) → v = bool true ∧ GH.same N H H4 ∧ J (i3 + 1) H4 := fun v H4 hR => by
          obtain ⟨hs4, hR⟩ := hR
          rcases hR with ⟨rfl, hR⟩ | ⟨_, hR⟩
          · exact ⟨rfl, m2.trans hs4, hR⟩
          · exact hR.elim
        have hbb : (s.has || ((t : Int) + m == 0)) = true := by
          rcases hc with q | q
          · simp [q]
          · have : (t : Int) + m = 0 := by omega
            simp [this]
        have hcc : s.has = true ∨ (t : Int) + m = 0 := by simpa using hbb
        simp [hob3, rShape, rRoom, rRec, hP, hL, hmin, wt0, wm0, wm1, hle', hbb, hcc]
        have hi3 : i3 + 1 ≤ rows.length := (List.getElem?_eq_some_iff.1 hrow).1
        refine EY.of hy (fun v H4 hR => ?_) (fun v H4 hR => ?_)
        rotate_left
        · obtain ⟨_, q⟩ := hR; exact q.elim
        obtain ⟨rfl, k2, k3⟩ := key v H4 ⟨hR.1, .inl hR.2⟩
        simp [hbb]
        exact NX.go (m + 1, i3 + 1, H4) (by simp only; omega) ⟨by simp only; omega, k2, ⟨hi3, k3⟩, by simp only; rw [e4]; exact hdr⟩ (by simp [wm])
    · have e2 : mn + 1 - g - t = 0 := by omega
      rw [e2, wT, List.nil_append] at t4
      have e5 : mn + 1 - (g + 1) = mn - g := by omega
      exact NX.go (g + 1, i2, H2) (by simp only; omega) ⟨by simp only; omega, t2, t3, by simp only; rw [e5]; exact t4⟩ (by simp [wg])
  · have e1 : mn + 1 - g = 0 := by omega
    rw [e1, wG, List.map_nil, List.drop_eq_nil_iff] at g4
    have : i = (waysM P mn s.has).length := by rw [← hlen]; omega
    rw [this] at g3
    exact fun hz => ⟨H1, hz.drop (by rw [g2.next]; exact Nat.le_refl _), g2, g3.2⟩
end Go.Aft
end
