import Derived.Test.YtdhphbedajhmnaaGreatA42
import Derived.Test.YtdhphbedajhmnaaGreatA40
set_option linter.unusedVariables false
set_option linter.unusedSimpArgs false
set_option linter.deprecated false
section
set_option maxRecDepth 20000
namespace Go.Aft
def withFold : Exp -> Int -> Exp
 | .mk op name n _ calcs kids, f => .mk op name n f calcs kids
def setDef (ds : List Def) : Nat -> Int -> List Def
 := fun d f => ds.modify d fun x => ⟨x.name, withFold x.exp f⟩
def setFold (p : Prog) (d : Nat) (f : Int) : Prog := ⟨p.srcs, setDef p.defs d f⟩
theorem setDef_len (ds : List Def) (d : Nat) (f : Int) : (setDef ds d f).length = ds.length := by simp [setDef]
theorem setDef_get {ds : List Def} {d : Nat} {f : Int} {i : Nat} (h : i < (setDef ds d f).length) : (setDef ds d f)[i] = if d = i then ⟨(ds[i]'(by rw [<- setDef_len ds d f]; exact h)).name, withFold (ds[i]'(by rw [<- setDef_len ds d f]; exact h)).exp f⟩ else ds[i]'(by rw [<- setDef_len ds d f]; exact h) := by
 simp only [setDef, List.getElem_modify]
theorem setFold_names (p : Prog) (d : Nat) (f : Int) : defNames (setFold p d f) = defNames p := by
 refine List.ext_getElem (by simp [defNames, setFold, setDef]) fun i h1 h2 => ?_
 simp only [defNames, setFold, List.getElem_map]
 rw [setDef_get]
 split <;> rfl
theorem withFold_lExp {srcs defs : List Str} {a : Int} {f : Int} (hf : 1 <= f /\ f <= 4) : ∀ {e : Exp} {depth left l : Int}, e.op = 8 -> lExp srcs defs a e depth left = some l -> lExp srcs defs a (withFold e f) depth left = some l
 | .mk op name n fold calcs kids, depth, left, l, h8, h => by
  simp only [Exp.op_mk] at h8
  subst h8
  rw [withFold]
  rw [lExp] at h |-
  split at h
  ·rename_i hc
   rw [if_pos]
   ·exact h
   ·refine ⟨hc.1, hc.2.1, ?_, hc.2.2.2⟩
    have hek := hc.2.2.1
    have hsx : shpOf 8 = some ⟨1, 0, false, true, 1, 50⟩ := rfl
    simp only [expOk, hsx, Bool.and_eq_true, decide_eq_true_eq, if_true] at hek |-
    exact ⟨hek.1, hf⟩
  ·cases h
theorem setDef_lDefs {srcs names : List Str} {f : Int} (hf : 1 <= f /\ f <= 4) : ∀ (ds : List Def) (d : Nat) (a left l : Int), (∀ h : d < ds.length, ds[d].exp.op = 8) -> lDefs srcs names ds a left = some l -> lDefs srcs names (setDef ds d f) a left = some l
 | [], d, a, left, l, _, h => by simpa [setDef] using h
 | x :: ds, 0, a, left, l, h8, h => by
  simp only [setDef, List.modify_cons, if_true]
  rw [lDefs] at h |-
  split at h
  ·rename_i l' hl
   simp only
   rw [withFold_lExp (e := x.exp) hf (h8 (by simp)) hl]
   exact h
  ·cases h
 | x :: ds, d + 1, a, left, l, h8, h => by
  have e : setDef (x :: ds) (d + 1) f = x :: setDef ds d f := by simp [setDef]
  rw [e]
  rw [lDefs] at h |-
  split at h
  ·exact setDef_lDefs hf ds d _ _ _ (fun h => h8 (by simpa using h)) h
  ·cases h
theorem withFold_all {e e' : Exp} {f : Int} (h : e' ∈ allE (withFold e f)) : ∃ x ∈ allE e, x.op = e'.op /\ x.name = e'.name /\ x.n = e'.n := by
 obtain ⟨op, name, n, fold, calcs, kids⟩ := e
 rw [withFold, allE] at h
 rcases List.mem_cons.1 h with rfl | h
 ·exact ⟨.mk op name n fold calcs kids, by rw [allE]; simp, rfl, rfl, rfl⟩
 ·exact ⟨e', by rw [allE]; exact List.mem_cons_of_mem _ h, rfl, rfl, rfl⟩
theorem setFold_all {p : Prog} {d : Nat} {f : Int} {i : Nat} (h : i < (setFold p d f).defs.length) {e' : Exp} (he : e' ∈ allE (setFold p d f).defs[i].exp) : ∃ h' : i < p.defs.length, ∃ x ∈ allE p.defs[i].exp, x.op = e'.op /\ x.name = e'.name /\ x.n = e'.n := by
 have hl : i < p.defs.length := by rw [<- setDef_len p.defs d f]; exact h
 refine ⟨hl, ?_⟩
 have hg : (setFold p d f).defs[i] = if d = i then ⟨p.defs[i].name, withFold p.defs[i].exp f⟩ else p.defs[i] := setDef_get h
 rw [hg] at he
 split at he
 ·exact withFold_all he
 ·exact ⟨e', he, rfl, rfl, rfl⟩
theorem formed_setFold {p : Prog} (hp : formed p) {d : Nat} {f : Int} (hf : 1 <= f /\ f <= 4) (h8 : ∀ h : d < p.defs.length, p.defs[d].exp.op = 8) : formed (setFold p d f) := by
 obtain ⟨⟨l, hl⟩, hr⟩ := hp
 constructor
 ·refine ⟨l, ?_⟩
  unfold countM at hl |-
  rw [setFold_names]
  split at hl
  ·rename_i hc
   rw [if_pos ⟨hc.1, hc.2.1, by rw [show (setFold p d f).defs.length = p.defs.length from setDef_len ..]; exact hc.2.2.1, hc.2.2.2⟩]
   exact setDef_lDefs hf _ _ _ _ _ h8 hl
  ·cases hl
 ·intro i h hpath e' he'
  have hst : ∀ {a b : Nat}, stepsTo (setFold p d f) a b -> stepsTo p a b := fun {a b} q => by
   obtain ⟨h1, e, h2, h3, h4⟩ := q
   obtain ⟨h5, x, h6, h7, h8, _⟩ := setFold_all h1 h2
   exact ⟨h5, x, h6, by rw [h7]; exact h3, by rw [h8]; rw [setFold_names] at h4; exact h4⟩
  have hP : ∀ {a b : Nat}, Path (stepsTo (setFold p d f)) a b -> Path (stepsTo p) a b := fun {a b} q => by
   induction q with
   | one q => exact .one (hst q)
   | cons q _ ih => exact .cons (hst q) ih
  obtain ⟨h5, x, h6, h7, _, h9⟩ := setFold_all h he'
  have := hr i h5 (hP hpath) x h6
  unfold looksAhead at this |-
  rw [<- h7, <- h9]; exact this
theorem setFold_plain {p : Prog} {d : Nat} {f : Int} (hd : d < p.defs.length) (hp : (plainOf p p.defs[d].exp).2 = true) :
  plainOf (setFold p d f) ((setFold p d f).defs.getD d default).exp = ({ (plainOf p p.defs[d].exp).1 with fold := f }, true) := by
 have hl : d < (setFold p d f).defs.length := by rw [show (setFold p d f).defs.length = p.defs.length from setDef_len ..]; exact hd
 have hg : (setFold p d f).defs.getD d default = ⟨p.defs[d].name, withFold p.defs[d].exp f⟩ := by
  simp only [List.getD, List.getElem?_eq_getElem hl, Option.getD_some]
  have := setDef_get (ds := p.defs) (f := f) hl
  rw [if_pos rfl] at this
  exact this
 rw [hg]
 generalize p.defs[d].exp = ex at hp |-
 obtain ⟨op, name, n, fold, calcs, kids⟩ := ex
 simp only [withFold]
 unfold plainOf at hp |-
 simp only [Exp.op_mk, Exp.kids_mk, Exp.n_mk, Exp.fold_mk] at hp |-
 by_cases h8 : op = 8
 ·subst h8
  by_cases h1 : (stripL kids).2.op = 1
  ·simp [h1, setFold]
  ·simp [h1] at hp
 ·simp [h8] at hp
theorem plain_op {p : Prog} {e : Exp} (hp : (plainOf p e).2 = true) : e.op = 8 := by
 unfold plainOf at hp
 split at hp
 ·cases hp
 ·rename_i h; simpa using h
theorem comeM_fold (f key : Int) (m : Nat) (g : Int) : ∀ (k : Nat) (s : Scene) (v : Int), comeM f key m { s with sh := { s.sh with fold := g } } v k = { comeM f key m s v k with sh := { s.sh with fold := g } }
 | 0, s, v => rfl
 | k + 1, s, v => by
  have hf : ∀ (mm : Nat) (ff : Int), firstP { s.sh with fold := g } key v ff mm = firstP s.sh key v ff mm := by
   intro mm
   induction mm with
   | zero => intro ff; rfl
   | succ mm ih => intro ff; rw [firstP, firstP, ih]; rfl
  rw [comeM, comeM]
  simp only [hf]
  have hsh : (comeO s (firstP s.sh key v f m)).sh = s.sh := by cases firstP s.sh key v f m <;> rfl
  have : comeO { s with sh := { s.sh with fold := g } } (firstP s.sh key v f m) = { comeO s (firstP s.sh key v f m) with sh := { (comeO s (firstP s.sh key v f m)).sh with fold := g } } := by
   cases firstP s.sh key v f m <;> rfl
  rw [this, comeM_fold f key m g k, hsh]
theorem sceneM_fold (l : List News) (sh : Shape) (room : Room) (window key : Int) (g : Int) : sceneM l { sh with fold := g } room window key 0 = { sceneM l sh room window key 0 with sh := { sh with fold := g } } :=
 comeM_fold _ _ _ g _ (scene0 sh room _ _ 0) room.low
theorem folds_spec {l : List News} {sh : Shape} {room : Room} {window key : Int} : ∃ (V U : Way -> List Int) (ws : List Way), (∀ f, BSpec V U f ws (bndM l { sh with fold := f } room window key)) /\ ∀ w ∈ ws, Dom (V w) (U w) := by
 refine ⟨fun w => valsM (fixedM l sh window key (standsM l)) (sortL (looseM l sh window key (standsM l))) w false (sRec (sceneM l sh room window key 0) false), fun w => valsM (fixedM l sh window key (standsM l)) (sortL (looseM l sh window key (standsM l))) w true (sRec (sceneM l sh room window key 0) true), waysM room.most.toNat (min room.most.toNat (sortL (looseM l sh window key (standsM l))).length) (sceneM l sh room window key 0).has, fun f => ?_, ?_⟩
 ·have := bound_spec (sceneM l { sh with fold := f } room window key 0) (fixedM l sh window key (standsM l)) (sortL (looseM l sh window key (standsM l))) room.most.toNat
  rw [sceneM_fold] at this
  have e : bndM l { sh with fold := f } room window key = boundM { sceneM l sh room window key 0 with sh := { sh with fold := f } } (fixedM l sh window key (standsM l)) (sortL (looseM l sh window key (standsM l))) room.most.toNat := by
   unfold bndM; rw [sceneM_fold]; rfl
  rw [e]
  exact this
 ·intro w hw
  rw [way_room] at hw
  have hsp := scene_spec l sh room window key 0
  have hs := loose_sorted (looseM l sh window key (standsM l))
  generalize sortL (looseM l sh window key (standsM l)) = L at *
  have hl : (valsL L).length = L.length := by simp [valsL]
  show Dom (valsM _ L w false _) (valsM _ L w true _)
  rw [valsM_eq, valsM_eq]
  unfold valI
  simp only [Bool.false_eq_true, if_false, if_true]
  refine .append (.append (.refl _) ?_) ?_
  ·have := Dom.take_low (valsL L) ((valsL L).drop (w.gone + w.turned)) ((valsL L).take (w.gone + w.turned)) hs (List.Perm.trans (by rw [List.take_append_drop]) List.perm_append_comm)
   rwa [List.length_drop] at this
  ·rcases hw.2.2 with q | q
   ·refine .rep _ ?_
    have h1 := (hsp.low q).1
    exact (hsp.has _ h1).2.2
   ·rw [q]; exact .refl _
theorem folds {l : List News} {sh : Shape} {room : Room} {window key : Int} (a b c d : NB) (ha : a = (bndM l { sh with fold := 3 } room window key).nb) (hb : b = (bndM l { sh with fold := 4 } room window key).nb) (hc : c = (bndM l { sh with fold := 1 } room window key).nb) (hd : d = (bndM l { sh with fold := 2 } room window key).nb) :
  (a.some = b.some /\ a.some = c.some /\ a.some = d.some /\ a.none = b.none /\ a.none = c.none /\ a.none = d.none) /\ (a.some = true -> a.low <= b.low /\ a.high <= b.high /\ 1 <= c.low /\ c.low <= c.high /\ d.low <= d.high) := by
 obtain ⟨V, U, ws, hB, hD⟩ := folds_spec (l := l) (sh := sh) (room := room) (window := window) (key := key)
 have hn : ∀ f g, (bndM l { sh with fold := f } room window key).nb.none = true -> (bndM l { sh with fold := g } room window key).nb.none = true := fun f g q => (hB g).none2 _ ((hB f).none1 q).1 ((hB f).none1 q).2
 have hs : ∀ f g, (bndM l { sh with fold := f } room window key).nb.some = true -> (bndM l { sh with fold := g } room window key).nb.some = true := fun f g q => ((hB g).some2 _ ((hB f).some1 q).1.1 ((hB f).some1 q).1.2.1).1
 have en : ∀ f g, (bndM l { sh with fold := f } room window key).nb.none = (bndM l { sh with fold := g } room window key).nb.none := fun f g => Bool.eq_iff_iff.2 ⟨hn f g, hn g f⟩
 have es : ∀ f g, (bndM l { sh with fold := f } room window key).nb.some = (bndM l { sh with fold := g } room window key).nb.some := fun f g => Bool.eq_iff_iff.2 ⟨hs f g, hs g f⟩
 subst ha; subst hb; subst hc; subst hd
 refine ⟨⟨es _ _, es _ _, es _ _, en _ _, en _ _, en _ _⟩, fun q => ?_⟩
 have hU : ∀ w ∈ ws, V w ≠ [] -> U w ≠ [] := fun w hw h e => h (List.eq_nil_of_length_eq_zero (by rw [(hD w hw).len, e]; rfl))
 have f1 : ∀ x, foldOf 1 x = x.length := fun x => rfl
 have f3 : ∀ x, foldOf 3 x = MinL x := fun x => rfl
 have f4 : ∀ x, foldOf 4 x = MaxL x := fun x => rfl
 have mm : ∀ x, x ≠ [] -> MinL x <= MaxL x := fun x h => (MaxL_spec h).1 _ (MinL_spec h).2
 refine ⟨?_, ?_, ?_, ?_, ?_⟩
 ·obtain ⟨h1, h2, h3⟩ := ((hB 4).some1 (hs _ _ q)).1
  have := ((hB 3).some2 _ h1 h2).2.1
  rw [f3] at this; rw [h3, f4]
  exact Int.le_trans this (mm _ h2)
 ·obtain ⟨h1, h2, h3⟩ := ((hB 3).some1 q).2
  have := ((hB 4).some2 _ h1 h2).2.2
  rw [f4] at this; rw [h3, f3]
  exact Int.le_trans (mm _ (hU _ h1 h2)) this
 ·obtain ⟨h1, h2, h3⟩ := ((hB 1).some1 (hs _ _ q)).1
  rw [h3, f1]
  have := List.length_pos_iff.2 h2
  omega
 ·obtain ⟨h1, h2, h3⟩ := ((hB 1).some1 (hs _ _ q)).1
  have := ((hB 1).some2 _ h1 h2).2
  exact Int.le_trans this.1 (Int.le_trans ((hD _ h1).fold h2 1) this.2)
 ·obtain ⟨h1, h2, h3⟩ := ((hB 2).some1 (hs _ _ q)).1
  have := ((hB 2).some2 _ h1 h2).2
  exact Int.le_trans this.1 (Int.le_trans ((hD _ h1).fold h2 2) this.2)
end Go.Aft
end
section
set_option maxRecDepth 20000
namespace Go.Aft
open Go.Proofs.Tryz
mutual
def okC : Calc -> Prop
 | .mk op n kids => kids.length * 40 <= 140737488351232 /\ okCs kids
def okCs : List Calc -> Prop
 | [] => True
 | c :: cs => okC c /\ okCs cs
end
mutual
def okE : Exp -> Prop
 | .mk op name n fold calcs kids => calcs.length * 40 <= 140737488351232 /\ kids.length * 88 <= 140737488351232 /\ okCs calcs /\ okEs kids
def okEs : List Exp -> Prop
 | [] => True
 | e :: es => okE e /\ okEs es
end
def okP (p : Prog) : Prop := p.srcs.length * 16 <= 140737488351232 /\ p.defs.length * 104 <= 140737488351232 /\ ∀ d ∈ p.defs, okE d.exp
mutual
theorem ref02_CopyCalc : ∀ c : Calc, okC c -> AFun prog 94 [lv (rCalc c)] (lv (rCalc c))
 | .mk op n kids, h => by
  rw [okC] at h
  exact ref02_CopyCalc1 op n kids h.1 (ref02_CopyCalcs kids h.2)
theorem ref02_CopyCalcs : ∀ cs : List Calc, okCs cs -> ∀ k ∈ cs, AFun prog 94 [lv (rCalc k)] (lv (rCalc k))
 | [], _, k, hk => by cases hk
 | c :: cs, h, k, hk => by
  rw [okCs] at h
  rcases List.mem_cons.1 hk with q | hk
  ·rw [q]; exact ref02_CopyCalc c h.1
  ·exact ref02_CopyCalcs cs h.2 k hk
end
theorem ref02_CopyExp1 (op : Int) (name : Str) (n fold : Int) (calcs : List Calc) (kids : List Exp) (hc : calcs.length * 40 <= 140737488351232) (hk : kids.length * 88 <= 140737488351232) (hcs : ∀ k ∈ calcs, AFun prog 94 [lv (rCalc k)] (lv (rCalc k)))
  (ih : ∀ k ∈ kids, AFun prog 56 [lv (rExp k)] (lv (rExp k))) : AFun prog 56 [lv (rExp (.mk op name n fold calcs kids))] (lv (rExp (.mk op name n fold calcs kids))) := by
 have cc := cxK_ok (p := kds [1] [] [])
 refine AFun.body (cxK_ok (p := kds [1] [] [])) func56 rfl call56 (by rw [ntmps56]; simp) rfl fun hf H => ?_
 simp [ntmps56, results56, rExp_eq, Exp.op, Exp.n, Exp.kids, Exp.name, Exp.fold, Exp.calcs]
 refine AW.loopS cc (fun a : Nat × LV × GH => ⟨[(1, .ip [lvI op, .d (.k (.string name)), lvI n, lvI fold, sl (calcs.map rCalc), sl (kids.map rExp)] 0), (2, .lp 2 0), (3, .lp 3 0), (4, lvI a.1)],
  [(2, [lvI 0, .d (.k (.string ⟨#[]⟩)), lvI 0, lvI 0, .d (.k (.slice none 0 0)), .d (.k (.slice none 0 0))]), (3, [lvI op, .d (.k (.string name)), lvI n, lvI fold, a.2.1, .d (.k (.slice none 0 0))])], a.2.2⟩) (fun a => calcs.length - a.1) (fun a => a.1 <= calcs.length /\ AppX 135 3 H a.2.1 ((calcs.take a.1).map rCalc) a.2.2) (0, .d (.k (.slice none 0 0)), H) ⟨⟨Nat.zero_le _, .nil⟩, by simp⟩ ?_
 rintro ⟨i, x, H'⟩ ⟨hi, happ⟩
 simp only at hi happ
 simp
 refine ⟨fun h => ?_, fun h => ?_⟩
 ·refine AW.draw cc [(7, .n)] (.q 0 <| .q 2 <| .q 4 <| .q 1 <| .f <| .one 3 <| .q 5 <| .f <| .one 6 <| .q 7 <| .q 8 <| .f <| .one 9 <| .q 10 <| .f <| .one 11 <| .done) (by kernel_rfl) ?_
  simp [h, List.getElem?_eq_getElem h, rCalc_eq]
  refine FC.afun (v := lv (rCalc calcs[i])) (by simpa [rCalc_eq] using hcs calcs[i] (List.getElem_mem h)) ?_
  simp [rCalc_eq]
  refine APK.appX (ys := [rCalc calcs[i]]) tyE68 rfl tyE135 (by simp) (x := x) (by simp) happ (by simp [rCalc_eq, rowsOf]) (by simp) (fun r hr => by obtain ⟨_, _, rfl⟩ := List.mem_map.1 hr; simp) (by simp) (by simp; omega) (by simp) fun x' H' happ' _ _ => ?_
  rw [show (calcs.take i).map rCalc ++ [rCalc calcs[i]] = (calcs.take (i + 1)).map rCalc by rw [<- take_more h, List.map_append]; rfl] at happ'
  simp [happ'.plain.all, happ'.only, wrap_succ (n := 9223372036854775807) (show i < 9223372036854775807 by omega)]
  exact NX.go (i + 1, x', H') (by simp only; omega) ⟨h, happ'⟩ (by simp [happ'.only])
 ·have e : i = calcs.length := by omega
  subst e
  rw [List.take_length] at happ
  simp [happ.plain.all]
  refine AW.loopS cc (fun a : Nat × LV × GH => ⟨[(1, .ip [lvI op, .d (.k (.string name)), lvI n, lvI fold, sl (calcs.map rCalc), sl (kids.map rExp)] 0), (2, .lp 2 0), (3, .lp 3 0), (5, lvI a.1)],
   [(2, [lvI 0, .d (.k (.string ⟨#[]⟩)), lvI 0, lvI 0, .d (.k (.slice none 0 0)), .d (.k (.slice none 0 0))]), (3, [lvI op, .d (.k (.string name)), lvI n, lvI fold, x, a.2.1])], a.2.2⟩) (fun a => kids.length - a.1) (fun a => a.1 <= kids.length /\ AppX 105 6 H' a.2.1 ((kids.take a.1).map rExp) a.2.2) (0, .d (.k (.slice none 0 0)), H') ⟨⟨Nat.zero_le _, .nil⟩, by simp [happ.only]⟩ ?_
  rintro ⟨i, y, H2⟩ ⟨hi, hy⟩
  simp only at hi hy
  simp [happ.plain.all]
  refine ⟨fun h => ?_, fun h => ?_⟩
  ·refine AW.draw cc [(7, .n)] (.q 0 <| .q 2 <| .q 4 <| .q 1 <| .f <| .one 3 <| .q 5 <| .f <| .one 6 <| .q 7 <| .q 8 <| .f <| .one 9 <| .q 10 <| .f <| .one 11 <| .done) (by kernel_rfl) ?_
   simp [h, List.getElem?_eq_getElem h, rExp_eq]
   refine FC.afun (v := lv (rExp kids[i])) (by simpa [rExp_eq] using ih kids[i] (List.getElem_mem h)) ?_
   simp [rExp_eq]
   refine APK.appX (ys := [rExp kids[i]]) tyE103 rfl tyE105 (by simp) (x := y) (by simp) hy (by simp [rExp_eq, rowsOf]) (by simp) (fun r hr => by obtain ⟨_, _, rfl⟩ := List.mem_map.1 hr; simp) (by simp) (by simp; omega) (by simp) fun y' H3 hy' _ _ => ?_
   rw [show (kids.take i).map rExp ++ [rExp kids[i]] = (kids.take (i + 1)).map rExp by rw [<- take_more h, List.map_append]; rfl] at hy'
   simp [happ.plain.all, hy'.plain.all, hy'.only, wrap_succ (n := 9223372036854775807) (show i < 9223372036854775807 by omega)]
   exact NX.go (i + 1, y', H3) (by simp only; omega) ⟨h, hy'⟩ (by simp [happ.only, hy'.only])
  ·have e : i = kids.length := by omega
   subst e
   rw [List.take_length] at hy
   have ha2 := happ.mono hy.nx hy.ob
   simp [happ.plain.all, hy.plain.all, happ.fz, hy.fz]
   exact ⟨by rw [rExp_eq]; rfl, ha2.nx, ha2.ob⟩
mutual
theorem ref02_CopyExp : ∀ e : Exp, okE e -> AFun prog 56 [lv (rExp e)] (lv (rExp e))
 | .mk op name n fold calcs kids, h => by
  rw [okE] at h
  exact ref02_CopyExp1 op name n fold calcs kids h.1 h.2.1 (ref02_CopyCalcs calcs h.2.2.1) (ref02_CopyExps kids h.2.2.2)
theorem ref02_CopyExps : ∀ es : List Exp, okEs es -> ∀ k ∈ es, AFun prog 56 [lv (rExp k)] (lv (rExp k))
 | [], _, k, hk => by cases hk
 | c :: cs, h, k, hk => by
  rw [okEs] at h
  rcases List.mem_cons.1 hk with q | hk
  ·rw [q]; exact ref02_CopyExp c h.1
  ·exact ref02_CopyExps cs h.2 k hk
end
end Go.Aft
end
section
set_option maxRecDepth 20000
namespace Go.Aft
open Go.Proofs.Tryz
theorem ref02_CopyO (p : Prog) (hp : okP p) (h6 : p.defs.length <= 1000) (H : GH) : ECall prog 20 [lv (rProg p)] H fun ce H' => ∃ x y Ha, ce = .ret (.agg [x, y]) /\ AppX 9 1 H x (p.srcs.map rS) Ha /\ VApp 107 7 Ha y (p.defs.map rDef) H' := by
 obtain ⟨hp1, hp2, hp3⟩ := hp
 have cc := cxK_ok (p := kds [1] [] [33])
 refine ECall.bodyOW (cxK_ok (p := kds [1] [] [33])) func20 rfl call20 (by rw [ntmps20]; simp) rfl fun hf hw => ?_
 simp [ntmps20, results20, rProg] at hf |-
 refine AW.seq cc ?_
 simp
 refine AW.seq cc ?_
 simp
 refine APK.appX (ys := p.srcs.map rS) tyE22 rfl tyE9 (by simp) (by simp) (.nil (H := H)) (by simp [rowsOf]) (by simp) (by simp) (fun r hr => by obtain ⟨_, _, rfl⟩ := List.mem_map.1 hr; rfl) (by simp; omega) (by simp) fun x Ha hx hn1 ho1 => ?_
 simp only [List.nil_append] at hx
 simp [hx.plain.all]
 refine AW.seq cc ?_
 simp
 refine AW.loopS cc (fun a : Nat × LV × GH => ⟨[(1, .ip ((rProg p).map .d) 0), (2, .lp 2 0), (3, .lp 3 0), (4, lvI a.1)], [(2, [.d (.k (.slice none 0 0)), .d (.k (.slice none 0 0))]), (3, [x, a.2.1])], a.2.2⟩) (fun a => p.defs.length - a.1)
  (fun a => a.1 <= p.defs.length /\ VApp 107 7 Ha a.2.1 ((p.defs.take a.1).map rDef) a.2.2) (0, .d (.k (.slice none 0 0)), Ha) ⟨⟨Nat.zero_le _, by simpa using VApp.nil⟩, by simp [rProg, hx.only]⟩ ?_
 rintro ⟨i, y, H2⟩ ⟨hi, hy⟩
 simp only at hi hy
 simp [rProg]
 refine ⟨fun h => ?_, fun h => ?_⟩
 ·have hce := ref02_CopyExp p.defs[i].exp (hp3 _ (List.getElem_mem h))
  simp [rExp_eq] at hce
  refine AW.draw cc [(3, .n), (7, .n), (9, .n), (13, .n), (14, .n)] (.q 0 <| .q 2 <| .q 3 <| .q 4 <| .q 5 <| .q 6 <| .q 7 <| .q 8 <| .q 9 <| .q 10 <| .q 11 <| .q 12 <| .q 13 <| .q 14 <| .q 15 <| .q 16 <| .q 1 <| .f <| .one 17 <| .q 18 <| .f <| .one 19 <| .done) (by kernel_rfl) ?_
  simp [h, List.getElem?_eq_getElem h, rDef, rExp_eq]
  refine FC.afun hce ?_
  simp [rExp_eq]
  refine APK.appV (ys := [rDef p.defs[i]]) tyE23 rfl tyE107 (by simp) (x := y) (by simp [hy.plain.all]) hy (by simp [srcOf, rowsOf, rDef, rExp_eq]) (by simp) (fun r hr => by obtain ⟨_, _, rfl⟩ := List.mem_map.1 hr; simp) (by simp) (by simp; omega) (by simp) fun y' H3 h3 n3 f3 => ?_
  rw [show (p.defs.take i).map rDef ++ [rDef p.defs[i]] = (p.defs.take (i + 1)).map rDef by rw [<- take_more h, List.map_append]; rfl] at h3
  simp [hx.plain.all, h3.plain.all, h3.nb, wrap_succ (n := 9223372036854775807) (show i < 9223372036854775807 by omega)]
  exact NX.go (i + 1, y', H3) (by simp only; omega) ⟨h, h3⟩ (by simp [rProg, hx.only, h3.only])
 ·have e : i = p.defs.length := by omega
  subst e
  rw [List.take_length] at hy
  refine AW.ev cc ?_
  simp [hx.plain.all, hy.plain.all]
  exact fun hz => ⟨H2, hz.drop (Nat.le_trans hx.nx hy.nx), ⟨(hx.mono hy.nx hy.ob).nb, hy.nb⟩, x, y, ⟨rfl, rfl⟩, Ha, hx, hy⟩
theorem rDef_fold (ds : List Def) (d : Nat) (f : Int) (hd : d < ds.length) : putAt (flatD (ds.map rDef)) (d * 7 + 4) [lvI f] = flatD ((setDef ds d f).map rDef) := by
 induction ds generalizing d with
 | nil => simp at hd
 | cons x ds ih =>
  cases d with
  | zero =>
   obtain ⟨name, ex⟩ := x
   obtain ⟨op, nm, n, fold, calcs, kids⟩ := ex
   simp [setDef, flatD, rDef, rExp_eq, putAt, withFold]
  | succ d =>
   have ih := ih d (by simpa using hd)
   have e : setDef (x :: ds) (d + 1) f = x :: setDef ds d f := by simp [setDef]
   rw [e]
   have hl : (List.map LV.d (rDef x)).length = 7 := by simp
   simp only [List.map_cons, flatD, List.flatten_cons, List.map_append] at ih |-
   rw [<- ih]
   simp only [putAt, List.take_append, List.drop_append, hl, List.length_singleton]
   rw [List.take_of_length_le (by omega), List.drop_of_length_le (by omega), show (d + 1) * 7 + 4 - 7 = d * 7 + 4 by omega, show (d + 1) * 7 + 4 + 1 - 7 = d * 7 + 4 + 1 by omega]
   simp
theorem law_folded (p : Prog) (hp : okP p) (h6 : p.defs.length <= 1000) (d : Nat) (hd : d < p.defs.length) (f : Int) : AFun prog 29 [lv (rProg p), lvI d, lvI f] (lv (rProg (setFold p d f))) := by
 intro H
 have cc := cxK_ok (p := kds [3] [] [])
 refine ECall.bodyNW (cxK_ok (p := kds [3] [] [])) func29 rfl call29 (by rw [ntmps29]; simp) rfl fun hf hw => ?_
 have hcp := ref02_CopyO p hp h6 H
 simp [rProg] at hcp
 simp [ntmps29, results29, rProg] at hf |-
 refine AW.seq cc ?_
 simp
 refine AW.seq cc ?_
 simp
 refine EC.of hcp (fun v H2 hR => ?_) (fun v H2 hR => ?_)
 rotate_left
 ·obtain ⟨_, _, q, _⟩ := hR; cases q
 obtain ⟨x, y, q, Ha, hx, hy⟩ := hR
 cases q
 have hx2 := hx.mono hy.nx hy.ob
 rcases id hy.is with ⟨e1, e2⟩ | ⟨n, g, q1, q2, q3, q4, q5⟩
 ·have : p.defs = [] := by simpa using e1
  rw [this] at hd; simp at hd
 subst q3
 simp [hx.plain.all, q2]
 refine AW.seq cc ?_
 have hfl : (flatD (p.defs.map rDef)).length = p.defs.length * 7 := flatM_len (fun x => by simp) p.defs
 have c1 : d * 7 + 1 + 3 + 1 <= p.defs.length * 7 := by omega
 have hrd := rDef_fold p.defs d f hd
 simp only [putAt, List.length_singleton, lvI, List.append_assoc, List.singleton_append] at hrd
 simp [q4, hfl, c1, hd, hrd]
 refine AW.thaw (n := n) (g := g) (sz := 7) (e := 107) (ex := false) ((setDef p.defs d f).map rDef) GH.set_same rfl (fun r hr => by obtain ⟨_, _, rfl⟩ := List.mem_map.1 hr; simp) ?_
 refine AW.ev cc ?_
 have hxt : ∀ R, x.thaw n g 7 R = x := fun R => by
  rcases hx.is with ⟨_, rfl⟩ | ⟨m, _, _, rfl, _⟩ <;> simp
 have htl : (setDef p.defs d f).length = p.defs.length := setDef_len ..
 have htk : ((setDef p.defs d f).map rDef).take p.defs.length = (setDef p.defs d f).map rDef := List.take_of_length_le (by simp [htl])
 simp [hxt, htl, htk, hx.plain.all, hx.fz]
 refine fun _ => ⟨Drop_same (by have := hx.nx; have := hy.nx; simp only [GH.set_next]; omega) (fun m hm => ?_) hw.none, rfl⟩
 have hmn : m ≠ n := by have := hx.nx; omega
 have ho : H2.obj m = H.obj m := by rw [hy.ob m (by have := hx.nx; omega), hx.ob m hm]
 simp only
 rw [if_neg hmn, GH.set_obj, if_neg hmn, ho]
 cases hm' : H.obj m with
 | none => rfl
 | some o => rw [Option.map_some, GO.thaw_nb (N := H.next) (by have := hx.nx; omega) (hw.nb m o hm')]
end Go.Aft
end
section
set_option maxRecDepth 20000
namespace Go.Aft
open Go.Proofs.Tryz
theorem lateAll_one {p : Prog} {l : List News} {d : Int} {room : Room} {window key : Int} (h : askE p d l room window key = 0) {more : List News} : lateAllB p l more d room = lateNB l more p.srcs.length (shD p d).src room := by
 obtain ⟨_, _, _, _, _, _, h7, _⟩ := askE_facts h
 unfold lateAllB
 rw [h7]; simp
def lessR (room : Room) (n : News) : Room := if n.do_ = 3 then room else { room with most := IntKind.wrap .i64 (room.most - 1) }
theorem heard_law {p : Prog} {l : List News} {d : Int} {room : Room} {window key : Int} {n : News} (h1 : askE p d l room window key = 0) (h2 : lateAllB p l [n] d room = true) (h3 : askE p d (l ++ [n]) (lessR room n) window key = 0) :
  (ofM p d l room window key).2 = 0 /\ (ofM p d (l ++ [n]) (lessR room n) window key).2 = 0 /\ lessB (ofM p d (l ++ [n]) (lessR room n) window key).1 (ofM p d l room window key).1 = true := by
 obtain ⟨_, _, _, _, a5, _, _, a8, _⟩ := askE_facts h1
 obtain ⟨_, _, _, _, b5, _, _, b8, _⟩ := askE_facts h3
 have hm := roomB_most a5
 have hm' := roomB_most b5
 have hw : IntKind.wrap .i64 (room.most - 1) = room.most - 1 := by rw [wrap64] <;> omega
 rw [lateAll_one h1] at h2
 simp only [lateNB, List.all_cons, List.all_nil, Bool.and_true, Bool.and_eq_true, decide_eq_true_eq] at h2
 rw [a8, b8]
 refine ⟨rfl, rfl, heard h2.2 h2.1.1 ?_ hm'.1 ?_ ?_⟩
 ·unfold lessR; split
  ·rfl
  ·exact hw
 ·unfold lessR; split <;> rfl
 ·unfold lessR; split <;> rfl
def inWinB (window many : Int) (es : List Event) : Bool := es.any fun e => decide (window - many < e.rec_.at_ /\ e.rec_.at_ <= window)
theorem others_law {p : Prog} {l : List News} {d : Int} {room : Room} {window key : Int} {n : News} (h1 : askE p d l room window key = 0) (h3 : askE p d (l ++ [n]) room window key = 0)
  (h : n.src = (shD p d).src -> inWinB window (shD p d).n ((stepM l n).1 ++ (stepM l n).2) = false /\ n.do_ ≠ 3 /\ n.ver ≠ 99) :
  (ofM p d l room window key).2 = 0 /\ (ofM p d (l ++ [n]) room window key).2 = 0 /\ (ofM p d l room window key).1 = (ofM p d (l ++ [n]) room window key).1 := by
 obtain ⟨_, _, _, _, _, _, _, a8, _⟩ := askE_facts h1
 obtain ⟨_, _, b3, _, _, _, _, b8, _⟩ := askE_facts h3
 rw [a8, b8]
 refine ⟨rfl, rfl, ?_⟩
 have hg := formed_good b3 n (by simp)
 by_cases hs : n.src = (shD p d).src
 ·obtain ⟨q1, q2, q3⟩ := h hs
  refine congrArg Bnd.nb (others_out hg hs q2 q3 fun e he => ?_).symm
  rw [inWinB, List.any_eq_false] at q1
  have := q1 e (List.mem_append.2 he)
  simpa using this
 ·exact congrArg Bnd.nb (others_src hs).symm
end Go.Aft
end
section
set_option maxRecDepth 20000
namespace Go.Aft
open Go.Proofs.Tryz
theorem calcOk_len {o : Bool} {op n : Int} {k : Nat} (h : calcOk o op n k = true) : k <= 2 := by
 unfold calcOk at h
 split at h
 ·simp at h; omega
 ·split at h
  ·simp at h; omega
  ·split at h
   ·simp at h; omega
   ·simp at h; omega
mutual
theorem lCalc_okC {o : Bool} : ∀ (c : Calc) (d f l : Int), lCalc o c d f = some l -> okC c
 | .mk op n kids, d, f, l, h => by
  rw [lCalc] at h
  split at h
  ·rename_i hc
   have := calcOk_len hc.2.2
   exact ⟨by omega, lCalcs_okC kids _ _ _ h⟩
  ·cases h
theorem lCalcs_okC {o : Bool} : ∀ (cs : List Calc) (d f l : Int), lCalcs o cs d f = some l -> okCs cs
 | [], d, f, l, h => trivial
 | c :: cs, d, f, l, h => by
  rw [lCalcs] at h
  split at h
  ·rename_i l' hl
   exact ⟨lCalc_okC c _ _ _ hl, lCalcs_okC cs _ _ _ h⟩
  ·cases h
end
theorem ite_some {α : Type} {c : Prop} [Decidable c] {a x : α} {o : Option α} {P : α -> Prop} (h : (if c then some a else o) = some x) (h1 : P a) (h2 : o = some x -> P x) : P x := by
 by_cases q : c
 ·rw [if_pos q] at h; cases h; exact h1
 ·rw [if_neg q] at h; exact h2 h
theorem shp_small {op : Int} {x : Shp} (h : shpOf op = some x) : x.kids <= 2 /\ x.calcs <= 2 := by
 unfold shpOf at h
 iterate 13
  refine ite_some (P := fun x : Shp => x.kids <= 2 /\ x.calcs <= 2) h (by decide) fun h => ?_
 cases h
mutual
theorem lExp_okE {srcs defs : List Str} {a : Int} : ∀ (e : Exp) (d f l : Int), lExp srcs defs a e d f = some l -> okE e
 | .mk op name n fold calcs kids, d, f, l, h => by
  rw [lExp] at h
  split at h
  ·rename_i hc
   obtain ⟨x, hx, k1, k2⟩ := expOk_len hc.2.2.1
   have := shp_small hx
   split at h
   ·rename_i l1 h1
    exact ⟨by omega, by omega, lCalcs_okC calcs _ _ _ h1, lExps_okE kids _ _ _ h⟩
   ·cases h
  ·cases h
theorem lExps_okE {srcs defs : List Str} {a : Int} : ∀ (es : List Exp) (d f l : Int), lExps srcs defs a es d f = some l -> okEs es
 | [], d, f, l, h => trivial
 | c :: cs, d, f, l, h => by
  rw [lExps] at h
  split at h
  ·rename_i l' hl
   exact ⟨lExp_okE c _ _ _ hl, lExps_okE cs _ _ _ h⟩
  ·cases h
end
theorem lDefs_okE {srcs names : List Str} : ∀ (ds : List Def) (a left l : Int), lDefs srcs names ds a left = some l -> ∀ d ∈ ds, okE d.exp
 | [], a, left, l, h, d, hd => by cases hd
 | x :: ds, a, left, l, h, d, hd => by
  rw [lDefs] at h
  split at h
  ·rename_i l' hl
   rcases List.mem_cons.1 hd with q | hd
   ·rw [q]; exact lExp_okE _ _ _ _ hl
   ·exact lDefs_okE ds _ _ _ h d hd
  ·cases h
theorem formed_ok {p : Prog} (h : formed p) : okP p /\ p.defs.length <= 6 := by
 obtain ⟨⟨l, hl⟩, _⟩ := h
 unfold countM at hl
 split at hl
 ·rename_i hc
  exact ⟨⟨by omega, by omega, lDefs_okE _ _ _ _ hl⟩, hc.2.2.1⟩
 ·cases hl
theorem fit_setFold {p : Prog} (h : fitP p) (d : Nat) (f : Int) : fitP (setFold p d f) := by
 intro s hs
 have e : (setFold p d f).srcs ++ defNames (setFold p d f) = p.srcs ++ defNames p := by rw [setFold_names]; rfl
 rw [e] at hs
 exact h s hs
theorem folds_of {p : Prog} {d : Int} {l : List News} {room : Room} {window key : Int} (h : askE p d l room window key = 0) {f : Int} (hf : 1 <= f /\ f <= 4) :
  ofM (setFold p d.toNat f) d l room window key = ((bndM l { shD p d with fold := f } room window key).nb, 0) := by
 obtain ⟨h1, h2, _⟩ := askE_zero h
 obtain ⟨hdf, hpl, _⟩ := askE_facts h
 have hd : d.toNat < p.defs.length := by have := hdf.2; omega
 have hgd : p.defs.getD d.toNat default = p.defs[d.toNat] := by simp [List.getD, List.getElem?_eq_getElem hd]
 rw [hgd] at hpl h2
 have hsp := setFold_plain (f := f) hd hpl
 have hl : (setFold p d.toNat f).defs.length = p.defs.length := setDef_len ..
 have hdef : isDefM (setFold p d.toNat f) d := ⟨formed_setFold hdf.1 hf (fun _ => plain_op hpl), hdf.2.1, by rw [hl]; exact hdf.2.2⟩
 have hask : askedB (setFold p d.toNat f) d l room key = true := by
  simp only [askedB, Bool.and_eq_true, decide_eq_true_eq] at h1 |-
  exact ⟨⟨⟨⟨hdef, h1.1.1.1.2⟩, h1.1.1.2⟩, h1.1.2⟩, h1.2⟩
 have hlook : lookE (plainOf (setFold p d.toNat f) ((setFold p d.toNat f).defs.getD d.toNat default).exp) l.length room window = 0 := by
  rw [hsp]
  unfold lookE at h2 |-
  rw [if_neg (by rw [hpl]; simp)] at h2
  rw [if_neg (by simp)]
  exact h2
 rw [ofM, if_pos hask, if_pos hlook, boundV_eq, hsp]
 unfold shD
 rw [hgd]
end Go.Aft
end
section
set_option maxRecDepth 20000
namespace Go.Aft
open Go.Proofs.Tryz
theorem fold_one {p : Prog} (hs : fitP p) {l : List News} {a : Ask} (h : askE p a.d l a.room a.window a.key = 0) (f : Int) (hf : 1 <= f /\ f <= 4) : ∃ P : List DV, AFun prog 29 [lv (rProg p), lvI a.d, lvI f] (lv P) /\
  AFun prog 21 [lv P, sl (l.map rNews), lv (rAsk a)] (.tup [lv (rNB (bndM l { shD p a.d with fold := f } a.room a.window a.key).nb), lvI 0]) := by
 obtain ⟨hdf, hpl, _⟩ := askE_facts h
 have hd : a.d.toNat < p.defs.length := by have := hdf.2; omega
 have hok := formed_ok hdf.1
 have h1 := law_folded p hok.1 (by omega) a.d.toNat hd f
 rw [show ((a.d.toNat : Nat) : Int) = a.d by have := hdf.2; omega] at h1
 have h2 := law_bound (setFold p a.d.toNat f) (fit_setFold hs _ _) l a
 rw [folds_of h hf] at h2
 exact ⟨_, h1, h2⟩
theorem law_Folds (p : Prog) (hs : fitP p) (l : List News) (a : Ask) : AFun prog 7 [lv (rProg p), sl (l.map rNews), lv (rAsk a)] (.d (.k (.bool true))) := by
 have cc := cxK_ok (p := kds [3, 5] [] [])
 refine AFun.bodyW (cxK_ok (p := kds [3, 5] [] [])) func7 rfl call7 (by rw [ntmps7]; simp) rfl fun hf H => ?_
 have a1 := law_asked p hs l a
 have hk := law_known
 have h3 := fun h => @fold_one p hs l a h 3 (by omega)
 have h4 := fun h => @fold_one p hs l a h 4 (by omega)
 have h1 := fun h => @fold_one p hs l a h 1 (by omega)
 have h2 := fun h => @fold_one p hs l a h 2 (by omega)
 have hfo := folds (l := l) (sh := shD p a.d) (room := a.room) (window := a.window) (key := a.key) _ _ _ _ rfl rfl rfl rfl
 generalize askE p a.d l a.room a.window a.key = e1 at a1 h1 h2 h3 h4
 generalize (bndM l { shD p a.d with fold := 3 } a.room a.window a.key).nb = A at h3 hfo
 generalize (bndM l { shD p a.d with fold := 4 } a.room a.window a.key).nb = B at h4 hfo
 generalize (bndM l { shD p a.d with fold := 1 } a.room a.window a.key).nb = C at h1 hfo
 generalize (bndM l { shD p a.d with fold := 2 } a.room a.window a.key).nb = D at h2 hfo
 simp [rProg, rAsk, rRoom, dI] at a1
 simp [ntmps7, results7, rProg, rAsk, rRoom, dI] at hf |-
 refine AW.seq cc ?_
 simp
 refine AW.seq cc ?_
 simp
 refine EC.afun a1 ?_
 by_cases q1 : e1 = 0
 rotate_left
 ·simp [q1]
  refine EC.afun hk ?_
  simp
 obtain ⟨P3, f3, k3⟩ := h3 q1
 obtain ⟨P4, f4, k4⟩ := h4 q1
 obtain ⟨P1, f1, k1⟩ := h1 q1
 obtain ⟨P2, f2, k2⟩ := h2 q1
 obtain ⟨sA, nA, lA, hA⟩ := A
 obtain ⟨sB, nB, lB, hB⟩ := B
 obtain ⟨sC, nC, lC, hC⟩ := C
 obtain ⟨sD, nD, lD, hD⟩ := D
 simp only at hfo
 obtain ⟨⟨rfl, rfl, rfl, rfl, rfl, rfl⟩, hle⟩ := hfo
 simp [rProg, rAsk, rRoom, dI, rNB, dB] at f1 f2 f3 f4 k1 k2 k3 k4
 simp [q1]
 refine AW.seq cc ?_
 simp
 refine AW.draw cc [(3, .n), (6, .n)] (.q 1 <| .q 4 <| .q 0 <| .q 2 <| .q 3 <| .q 5 <| .q 6 <| .q 7 <| .q 8 <| .q 9 <| .f <| .one 10 <| .f <| .one 11 <| .q 12 <| .done) (by kernel_rfl) ?_
 simp
 refine FC.afun f3 ?_
 simp
 refine FC.afun k3 ?_
 simp
 refine AW.seq cc ?_
 simp
 refine AW.draw cc [(3, .n), (6, .n)] (.q 1 <| .q 4 <| .q 0 <| .q 2 <| .q 3 <| .q 5 <| .q 6 <| .q 7 <| .q 8 <| .q 9 <| .f <| .one 10 <| .f <| .one 11 <| .q 12 <| .done) (by kernel_rfl) ?_
 simp
 refine FC.afun f4 ?_
 simp
 refine FC.afun k4 ?_
 simp
 refine AW.seq cc ?_
 simp
 refine AW.draw cc [(3, .n), (6, .n)] (.q 1 <| .q 4 <| .q 0 <| .q 2 <| .q 3 <| .q 5 <| .q 6 <| .q 7 <| .q 8 <| .q 9 <| .f <| .one 10 <| .f <| .one 11 <| .q 12 <| .done) (by kernel_rfl) ?_
 simp
 refine FC.afun f1 ?_
 simp
 refine FC.afun k1 ?_
 simp
 refine AW.seq cc ?_
 simp
 refine AW.draw cc [(3, .n), (6, .n)] (.q 1 <| .q 4 <| .q 0 <| .q 2 <| .q 3 <| .q 5 <| .q 6 <| .q 7 <| .q 8 <| .q 9 <| .f <| .one 10 <| .f <| .one 11 <| .q 12 <| .done) (by kernel_rfl) ?_
 simp
 refine FC.afun f2 ?_
 simp
 refine FC.afun k2 ?_
 simp
 refine AW.seq cc ?_
 simp
 refine AW.seq cc ?_
 cases sA with
 | false =>
  simp
  refine AW.ev cc ?_
  simp
  refine EC.afun hk ?_
  simp
 | true =>
  obtain ⟨x1, x2, x3, x4, x5⟩ := hle rfl
  simp
  refine ⟨⟨⟨⟨⟨x1, x2⟩, x3⟩, x4⟩, x5⟩, fun _ _ _ _ _ => AW.ev cc ?_⟩
  simp
  refine EC.afun hk ?_
  simp
end Go.Aft
end
section
set_option maxRecDepth 20000
namespace Go.Aft
open Go.RowKit
open Go.Proofs.Tryz
section
variable {H : Type} {enc : TypeId × Value -> H} {w : World}
theorem read_slice {P : Program} {α : Type} {t e : TypeId} {r : List α -> List DV} {x1 : List α -> DV} {fit : List α -> Prop} {base : Nat} {v : Value} {d : DataW H} {p : List MemPlace} (hr : ∀ fuel, Rd enc P w t r fit fuel) (hx : ∀ x, r x = [x1 x]) (hu : P.underlying t = some (.slice e))
  (hval : Value.okWide P w .any base t v) (hd : DataW.Trod enc P w 0 (fun _ => true) true t v d p) (hw : Wt P t d) : ∃ x, fit x /\ LR (allG w) 0 noL (.d (x1 x)) v := by
 obtain ⟨a, len, cap, rfl⟩ := Go.WideShapes.okWide_slice hu hval
 obtain ⟨fuel, hf⟩ := hd
 obtain ⟨x, h1, h2⟩ := hr fuel _ _ _ hf
 refine ⟨x, h2 hw, ?_⟩
 rw [hx] at h1
 have h3 := RL_LRs (G := allG w) (nx := 0) (lm := noL) h1
 simp only [List.map_cons, List.map_nil] at h3
 unfold LRs at h3
 obtain ⟨v', vs', e, h4, _⟩ := h3
 have : v' = .slice a len cap := by
  have := congrArg List.head? e
  simpa [Value.cells] using this.symm
 rw [<- this]; exact h4
theorem rd_news (fuel : Nat) : Rd enc prog w 53 rNews (fun _ => True) fuel :=
 Rd.struct underlying53 fuel fun f hf => ((RdFs.cons (n := 7) rfl (Rd.int underlying51 f) <| RdFs.cons rfl (Rd.int underlying3 f) <| RdFs.cons rfl (Rd.int underlying3 f) <| RdFs.cons rfl (Rd.int underlying3 f) <| RdFs.cons rfl (rd_rec f) <| RdFs.nil)).conv (fun x => ⟨x.1, x.2.1, x.2.2.1, x.2.2.2.1, x.2.2.2.2.1⟩) (fun _ => rfl) (fun _ _ => trivial)
theorem rd_newsL (fuel : Nat) : Rd enc prog w 35 (fun l : List News => [.sl (l.map rNews)]) (fun l => ∀ n ∈ l, True) fuel := Rd.slice underlying35 (by decide +kernel) (fun x => by rw [show prog.cellsOf 53 = 7 by decide +kernel]; rfl) fuel fun f _ => rd_news f
theorem rd_room (fuel : Nat) : Rd enc prog w 37 rRoom (fun _ => True) fuel :=
 Rd.struct underlying37 fuel fun f hf => ((RdFs.cons (n := 3) rfl (Rd.int underlying3 f) <| RdFs.cons rfl (Rd.int underlying3 f) <| RdFs.cons rfl (Rd.int underlying3 f) <| RdFs.nil)).conv (fun x => ⟨x.1, x.2.1, x.2.2.1⟩) (fun _ => rfl) (fun _ _ => trivial)
theorem rd_ask (fuel : Nat) : Rd enc prog w 39 rAsk (fun _ => True) fuel :=
 Rd.struct underlying39 fuel fun f hf => ((RdFs.cons (n := 6) rfl (Rd.int underlying3 f) <| RdFs.cons rfl (rd_room f) <| RdFs.cons rfl (Rd.int underlying3 f) <| RdFs.cons rfl (Rd.int underlying3 f) <| RdFs.nil)).conv (fun x => ⟨x.1, x.2.1, x.2.2.1, x.2.2.2.1⟩) (fun _ => rfl) (fun _ _ => trivial)
end
end Go.Aft
end
