import Derived.Test.YtdhphbedajhmnaaGreatA17
import Derived.ProofKit
import Derived.OpenShut
import Derived.ShutString
import Derived.ChangeOld
import Derived.Below
import Derived.Carry
import Derived.SizedLaws
import Derived.Test.YtdhphbedajhmnaaGreatA36
set_option linter.unusedVariables false
set_option linter.unusedSimpArgs false
set_option linter.deprecated false
section
namespace Go.Aft
open Go.RowKit
def allM (w : World) : Mem := fun b o => w.cell? ⟨b, o, none⟩
def allG (w : World) : Gh := ⟨allM w, fun _ => .none, fun _ => 0, fun _ => undef, fun _ => 0⟩
def H0 : GH := ⟨fun _ => none, 0⟩
theorem allG_MR (w : World) : MR (allG w) noL noS H0 w :=
  ⟨fun b o v h => h, fun b o v h => .inl rfl, fun b hb => ⟨rfl, fun o => by
    simp only [allG, allM, World.cell?]
    rw [Array.getElem?_eq_none hb]⟩, fun _ _ => rfl, fun k cs h => (by cases h), fun n o h => (by cases h)⟩
theorem AFun.calls {P : Program} {f : FuncId} {args : List LV} {v : LV} (h : AFun P f args v) (w : World) (vs : List Value) (ha : LRs (allG w) 0 noL args vs) :
    Calls P f vs.toArray w fun e w' => (∃ G x, e = .returned x ∧ LR G 0 noL v x) ∧ Below w.heap.size w w' := by
  refine Calls.mono ((h H0).2 (allG w) w vs (allG_MR w) (fun b k q => by cases q) ha) ?_
  rintro e w' ⟨ce, H', G', ⟨rfl, rfl⟩, hE, hM, hN, hx⟩
  obtain ⟨x, rfl, hr⟩ := hE
  exact ⟨⟨G', x, rfl, hr⟩, hx.os, hx.tape, hx.output, hx.size, fun k hk => hx.frame k hk (.inl rfl)⟩
theorem AFun.callsT {P : Program} {f : FuncId} {args : List LV} (h : AFun P f args (.d (.k (.bool true)))) (w : World) (vs : List Value) (ha : LRs (allG w) 0 noL args vs) :
    Calls P f vs.toArray w fun e w' => e = .returned (.bool true) ∧ Below w.heap.size w w' := by
  refine Calls.mono (h.calls w vs ha) ?_
  rintro e w' ⟨⟨G, x, rfl, hr⟩, hb⟩
  unfold LR DR at hr
  rw [hr.1]; exact ⟨rfl, hb⟩
def RL (M : Mem) : List DV → List Value → Prop
  | [], [] => True
  | d :: ds, v :: vs => DR M d v ∧ RL M ds vs
  | _, _ => False
theorem RL_append {M : Mem} : ∀ {a b : List DV} {x y : List Value}, RL M a x → RL M b y → RL M (a ++ b) (x ++ y)
  | [], b, [], y, _, k => k
  | [], b, _ :: _, y, h, _ => h.elim
  | _ :: _, b, [], y, h, _ => h.elim
  | d :: a, b, v :: x, y, h, k => ⟨h.1, RL_append h.2 k⟩
theorem RL_len {M : Mem} : ∀ {a : List DV} {x : List Value}, RL M a x → x.length = a.length
  | [], [], _ => rfl
  | [], _ :: _, h => h.elim
  | _ :: _, [], h => h.elim
  | d :: a, v :: x, h => by simp [RL_len h.2]
theorem RL_LRs {G : Gh} {nx : Nat} {lm : Nat → Option Nat} : ∀ {a : List DV} {x : List Value}, RL G.M a x → LRs G nx lm (a.map .d) x
  | [], [], _ => by simp [LRs]
  | [], _ :: _, h => h.elim
  | _ :: _, [], h => h.elim
  | d :: a, v :: x, h => by simp only [List.map_cons]; unfold LRs; exact ⟨v, x, rfl, by unfold LR; exact h.1, RL_LRs h.2⟩
theorem RC_of_RL {M : Mem} {b : Nat} : ∀ {r : List DV} {cs : List Value} {o : Nat}, RL M r cs → (∀ i v, cs[i]? = some v → M b (o + i) = some v) → RC M b o r
  | [], [], o, _, _ => by simp [RC]
  | [], _ :: _, _, h, _ => h.elim
  | _ :: _, [], _, h, _ => h.elim
  | d :: r, c :: cs, o, h, hm => by
    unfold RC
    exact ⟨⟨c, by simpa using hm 0 c rfl, h.1⟩, RC_of_RL h.2 fun i v hv => by have := hm (i + 1) v hv; rw [show o + 1 + i = o + (i + 1) by omega]; exact this⟩
theorem RR_of {M : Mem} {b k : Nat} : ∀ {rs : List (List DV)} {o : Nat}, (∀ (i : Nat) r, rs[i]? = some r → RC M b (o + i * k) r ∧ r.length = k) → RR M b o rs
  | [], o, _ => by simp [RR]
  | r :: rs, o, h => by
    unfold RR
    have h0 := h 0 r rfl
    refine ⟨by simpa using h0.1, RR_of (k := k) fun i r' hr => ?_⟩
    have := h (i + 1) r' hr
    rw [h0.2, show o + k + i * k = o + (i + 1) * k by rw [Nat.succ_mul]; omega]; exact this
theorem mapM_get {α β : Type} {f : α → Option β} : ∀ {l : List α} {ys : List β}, l.mapM f = some ys → ys.length = l.length ∧ ∀ (i : Nat) (y : β), ys[i]? = some y → ∃ x, l[i]? = some x ∧ f x = some y
  | [], ys, h => by simp at h; subst h; simp
  | a :: l, ys, h => by
    rw [List.mapM_cons] at h
    simp only [Option.pure_def, Option.bind_eq_bind, Option.bind_eq_some_iff, Option.some.injEq] at h
    obtain ⟨y, hy, zs, hz, rfl⟩ := h
    obtain ⟨h1, h2⟩ := mapM_get hz
    refine ⟨by simp [h1], fun i z hi => ?_⟩
    cases i with
    | zero => simp at hi; subst hi; exact ⟨a, rfl, hy⟩
    | succ i => exact h2 i z (by simpa using hi)
section
variable {H : Type} {enc : TypeId × Value → H} {P : Program} {w : World}
def Wt (P : Program) (t : TypeId) (d : DataW H) : Prop := ∀ n ∈ d.weights P t, n ≤ reachBytes
def Rd (enc : TypeId × Value → H) (P : Program) (w : World) {α : Type} (t : TypeId) (r : α → List DV) (fit : α → Prop) (fuel : Nat) : Prop :=
  ∀ cs d ps, DataW.trod enc P w 0 (fun _ => true) true fuel t cs = some (d, ps) → ∃ x, RL (allM w) (r x) cs ∧ (Wt P t d → fit x)
theorem Rd.zero {α : Type} {t : TypeId} {r : α → List DV} {fit : α → Prop} : Rd enc P w t r fit 0 := fun cs d ps h => by simp [DataW.trod] at h
theorem Rd.map {α β : Type} {t : TypeId} {r : α → List DV} {fit : α → Prop} {r' : β → List DV} {fit' : β → Prop} {fuel : Nat} (h : Rd enc P w t r fit fuel) (g : α → β) (hr : ∀ x, r' (g x) = r x) (hf : ∀ x, fit x → fit' (g x)) : Rd enc P w t r' fit' fuel :=
  fun cs d ps q => by
    obtain ⟨x, h1, h2⟩ := h cs d ps q
    exact ⟨g x, by rw [hr]; exact h1, fun q => hf x (h2 q)⟩
theorem Rd.int {t : TypeId} {k : IntKind} (hu : P.underlying t = some (.int k)) (fuel : Nat) : Rd enc P w t (fun n : Int => [.k (.int k n)]) (fun n => (Lit.int k n).wf = true) fuel := by
  intro cs d ps h
  cases fuel with
  | zero => simp [DataW.trod] at h
  | succ fuel =>
    unfold DataW.trod at h
    simp only [hu] at h
    split at h <;> simp_all
    obtain ⟨⟨rfl, h1⟩, _⟩ := h
    exact ⟨_, by simp [RL, DR, Value.oneCell'], fun _ => h1⟩
theorem Rd.str {t : TypeId} (hu : P.underlying t = some .string) (fuel : Nat) : Rd enc P w t (fun s : ByteArray => [.k (.string s)]) (fun s => s.size ≤ reachBytes) fuel := by
  intro cs d ps h
  cases fuel with
  | zero => simp [DataW.trod] at h
  | succ fuel =>
    unfold DataW.trod at h
    simp only [hu] at h
    split at h <;> simp_all only [Option.some.injEq, reduceCtorEq]
    rename_i s
    split at h
    · rename_i h1
      simp only [Option.some.injEq, Prod.mk.injEq] at h
      obtain ⟨h2, _⟩ := h
      refine ⟨s, by simp [RL, DR, Value.oneCell'], fun hw => ?_⟩
      have := hw s.data.toList.length (by rw [← h2]; simp [DataW.weights])
      simpa using this
    · cases h
theorem cells_get {base n : Nat} {a : Addr} {cs : List Value} (h : w.cells? base a n = some cs) : cs.length = n ∧ ∀ i v, cs[i]? = some v → w.cell? (a.add i) = some v := by
  unfold World.cells? at h
  split at h
  · obtain ⟨h1, h2⟩ := mapM_get h
    refine ⟨by simpa using h1, fun i v hv => ?_⟩
    obtain ⟨x, hx, hf⟩ := h2 i v hv
    have : x = i := by
      have hl := (List.getElem?_eq_some_iff.1 hx).1
      simp at hl
      rw [List.getElem?_range hl] at hx
      cases hx; rfl
    rw [← this]; exact hf
  · cases h
theorem cell_spot {a : Addr} {n : Nat} {v : Value} (h : w.cell? (a.add n) = some v) : (a.add n) = ⟨a.block, a.off + n, none⟩ := by
  have hs : (a.add n).spot = none := by
    unfold World.cell? at h
    split at h
    · split at h
      · cases h
      · rename_i q; simpa using q
    · cases h
  unfold Addr.add at hs ⊢
  split
  · rename_i e
    rw [if_pos e] at hs
    subst e
    cases a; simp_all
  · rfl
theorem Rd.slice {α : Type} {t e : TypeId} {r : α → List DV} {fit : α → Prop} (hu : P.underlying t = some (.slice e)) (hk : 0 < P.cellsOf e) (hr : ∀ x, (r x).length = P.cellsOf e) (fuel : Nat) (h : ∀ f, f < fuel → Rd enc P w e r fit f) :
    Rd enc P w t (fun xs : List α => [.sl (xs.map r)]) (fun xs => ∀ x ∈ xs, fit x) fuel := by
  intro cs d ps hd
  cases fuel with
  | zero => simp [DataW.trod] at hd
  | succ fuel =>
    have he := h fuel (Nat.lt_succ_self _)
    clear h
    cases cs with
    | nil => simp [DataW.trod, hu] at hd
    | cons c tl =>
      cases tl with
      | cons c2 tl => cases c <;> simp [DataW.trod, hu] at hd
      | nil =>
        cases c with
        | slice a len cap =>
          cases a with
          | none =>
            cases len <;> cases cap <;> simp [DataW.trod, hu] at hd
            exact ⟨[], ⟨by unfold DR; exact ⟨none, 0, 0, rfl, Nat.le_refl _, by simp [maxLen], by simp, .inl rfl⟩, trivial⟩, fun _ => by simp⟩
          | some a =>
            simp only [DataW.trod, hu] at hd
            split at hd
            · rename_i hb
              simp only [Option.bind_eq_some_iff, Option.map_eq_some_iff] at hd
              obtain ⟨elems, h1, rest, h2, h3⟩ := hd
              obtain ⟨l1, g1⟩ := mapM_get h1
              simp only [List.length_range] at l1
              have key : ∀ i (y : DataW H × List MemPlace), elems[i]? = some y → ∃ x cs, RL (allM w) (r x) cs ∧ (Wt P e y.1 → fit x) ∧ cs.length = P.cellsOf e ∧ ∀ k v, cs[k]? = some v → w.cell? ((a.add (i * P.cellsOf e)).add k) = some v := by
                intro i y hy
                obtain ⟨x, hx, hf⟩ := g1 i y hy
                have hxi : x = i := by
                  have hl := (List.getElem?_eq_some_iff.1 hx).1
                  simp at hl
                  rw [List.getElem?_range hl] at hx
                  cases hx; rfl
                subst hxi
                simp only [Option.bind_eq_some_iff] at hf
                obtain ⟨cs, hc, ht⟩ := hf
                obtain ⟨c1, c2⟩ := cells_get hc
                obtain ⟨z, hz, hz2⟩ := he cs y.1 y.2 ht
                exact ⟨z, cs, hz, hz2, c1, c2⟩
              have hlist : ∀ (es : List (DataW H × List MemPlace)) (o : Nat), (∀ i y, es[i]? = some y → elems[o + i]? = some y) → ∃ xs : List α, xs.length = es.length ∧ ∀ i x, xs[i]? = some x → ∃ y cs, es[i]? = some y ∧ RL (allM w) (r x) cs ∧ (Wt P e y.1 → fit x) ∧ cs.length = P.cellsOf e ∧ ∀ k v, cs[k]? = some v → w.cell? ((a.add ((o + i) * P.cellsOf e)).add k) = some v := by
                intro es
                induction es with
                | nil => intro o _; exact ⟨[], rfl, fun i x h => by simp at h⟩
                | cons y es ih =>
                  intro o ho
                  obtain ⟨x, cs, q1, q2, q3, q4⟩ := key o y (by simpa using ho 0 y rfl)
                  obtain ⟨xs, p1, p2⟩ := ih (o + 1) fun i y' hy => by rw [show o + 1 + i = o + (i + 1) by omega]; exact ho (i + 1) y' (by simpa using hy)
                  refine ⟨x :: xs, by simp [p1], fun i z hz => ?_⟩
                  cases i with
                  | zero => simp at hz; subst hz; exact ⟨y, cs, rfl, q1, q2, q3, q4⟩
                  | succ i =>
                    obtain ⟨y', cs', s1, s2, s3, s4, s5⟩ := p2 i z (by simpa using hz)
                    exact ⟨y', cs', by simpa using s1, s2, s3, s4, by rw [show o + (i + 1) = o + 1 + i by omega]; exact s5⟩
              obtain ⟨xs, p1, p2⟩ := hlist elems 0 fun i y h => by simpa using h
              simp only [Nat.zero_add] at p2
              refine ⟨xs, ?_, fun hw x hx => ?_⟩
              · refine ⟨?_, trivial⟩
                unfold DR
                refine ⟨some a, cap, P.cellsOf e, by simp [p1, l1], by simp [p1, l1]; omega, hb.2.2, fun r' hr' => ?_, ?_⟩
                · obtain ⟨x, _, rfl⟩ := List.mem_map.1 hr'; exact hr x
                · cases hxs : xs with
                  | nil => exact .inl rfl
                  | cons x0 xs0 =>
                    right
                    obtain ⟨y, cs, s1, s2, s3, s4, s5⟩ := p2 0 x0 (by rw [hxs]; rfl)
                    have hspot : a = ⟨a.block, a.off, none⟩ := by
                      have hc : ∃ v, cs[0]? = some v := ⟨cs[0]'(by omega), List.getElem?_eq_getElem (by omega)⟩
                      obtain ⟨v, hv⟩ := hc
                      have := s5 0 v hv
                      simp only [Nat.zero_mul] at this
                      have e0 : (a.add 0).add 0 = a := by simp [Addr.add]
                      rw [e0] at this
                      have := cell_spot (a := a) (n := 0) (by simpa [Addr.add] using this)
                      simpa [Addr.add] using this
                    refine ⟨a.block, a.off, by rw [← hspot], ?_⟩
                    rw [← hxs]
                    refine RR_of (k := P.cellsOf e) fun i r' hr' => ?_
                    rw [List.getElem?_map, Option.map_eq_some_iff] at hr'
                    obtain ⟨x, hx, rfl⟩ := hr'
                    obtain ⟨y, cs, s1, s2, s3, s4, s5⟩ := p2 i x hx
                    refine ⟨RC_of_RL s2 fun k v hv => ?_, hr x⟩
                    have := s5 k v hv
                    have e1 := cell_spot this
                    rw [e1] at this
                    have e2 : a.add (i * P.cellsOf e) = ⟨a.block, a.off + i * P.cellsOf e, none⟩ := by
                      rw [hspot]; exact addr_add _ _ _
                    rw [e2] at this
                    exact this
              · obtain ⟨i, hi, rfl⟩ := List.mem_iff_getElem.1 hx
                obtain ⟨y, cs, s1, s2, s3, s4, s5⟩ := p2 i _ (List.getElem?_eq_getElem hi)
                refine s3 fun n hn => hw n ?_
                cases h3
                simp only [DataW.weights, hu, List.mem_cons, List.mem_append]
                right; left
                have : ∀ (es : List (DataW H × List MemPlace)) (i : Nat), es[i]? = some y → n ∈ DataW.weightsAll P e (es.map (·.1)) := by
                  intro es
                  induction es with
                  | nil => intro i h; simp at h
                  | cons z es ih =>
                    intro i h
                    simp only [List.map_cons, DataW.weightsAll, List.mem_append]
                    cases i with
                    | zero => simp at h; subst h; exact .inl hn
                    | succ i => exact .inr (ih i (by simpa using h))
                exact this elems i s1
            · cases hd
        | _ => simp [DataW.trod, hu] at hd
def RdFs (enc : TypeId × Value → H) (P : Program) (w : World) {α : Type} (n : Nat) (fs : List Field) (off : Nat) (r : α → List DV) (fit : α → Prop) (fuel : Nat) : Prop :=
  ∀ (cs : List Value) (xs : List (DataW H × List MemPlace)), cs.length = n → fs.mapM (fun f => DataW.trod enc P w 0 (fun _ => true) true fuel f.type ((cs.drop f.offset).take (P.cellsOf f.type))) = some xs →
    ∃ x, RL (allM w) (r x) (cs.drop off) ∧ ((∀ m ∈ DataW.weightsEach P (fs.map (·.type)) (xs.map (·.1)), m ≤ reachBytes) → fit x)
theorem RdFs.nil {n fuel : Nat} : RdFs enc P w n [] n (fun _ : Unit => []) (fun _ => True) fuel := fun cs xs hn h => ⟨(), by rw [List.drop_of_length_le (by omega)]; trivial, fun _ => trivial⟩
theorem RdFs.cons {α β : Type} {n off fuel : Nat} {f : Field} {fs : List Field} {r : α → List DV} {fit : α → Prop} {r' : β → List DV} {fit' : β → Prop} (ho : f.offset = off) (h : Rd enc P w f.type r fit fuel) (k : RdFs enc P w n fs (off + P.cellsOf f.type) r' fit' fuel) :
    RdFs enc P w n (f :: fs) off (fun x : α × β => r x.1 ++ r' x.2) (fun x => fit x.1 ∧ fit' x.2) fuel := by
  intro cs xs hn hm
  rw [List.mapM_cons] at hm
  simp only [Option.pure_def, Option.bind_eq_bind, Option.bind_eq_some_iff, Option.some.injEq] at hm
  obtain ⟨y, hy, zs, hz, rfl⟩ := hm
  obtain ⟨x, h1, h2⟩ := h _ _ _ hy
  obtain ⟨x', k1, k2⟩ := k cs zs hn hz
  rw [ho] at h1
  refine ⟨(x, x'), ?_, fun hw => ⟨h2 fun m hm => hw m ?_, k2 fun m hm => hw m ?_⟩⟩
  · have := RL_append h1 k1
    rw [← List.drop_drop, List.take_append_drop] at this
    exact this
  · simp only [List.map_cons, DataW.weightsEach, List.mem_append]; exact .inl hm
  · simp only [List.map_cons, DataW.weightsEach, List.mem_append]; exact .inr hm
theorem Rd.struct {α : Type} {t : TypeId} {fs : Array Field} {r : α → List DV} {fit : α → Prop} (hu : P.underlying t = some (.struct fs)) (fuel : Nat) (h : ∀ f, f < fuel → RdFs enc P w (P.cellsOf t) fs.toList 0 r fit f) : Rd enc P w t r fit fuel := by
  intro cs d ps hd
  cases fuel with
  | zero => simp [DataW.trod] at hd
  | succ fuel =>
    have he := h fuel (Nat.lt_succ_self _)
    unfold DataW.trod at hd
    simp only [hu] at hd
    split at hd
    · rename_i hl
      simp only [Option.map_eq_some_iff, Prod.mk.injEq] at hd
      obtain ⟨xs, h1, h2, h3⟩ := hd
      obtain ⟨x, q1, q2⟩ := he cs xs hl h1
      rw [List.drop_zero] at q1
      refine ⟨x, q1, fun hw => q2 fun m hm => hw m ?_⟩
      rw [← h2]
      simp only [DataW.weights, hu]; exact hm
    · cases hd
end
theorem read_struct {H : Type} {enc : TypeId × Value → H} {P : Program} {W : World} {α : Type} {t : TypeId} {fs : Array Field} {r : α → List DV} {fit : α → Prop} {base : Nat} {v : Value} {d : DataW H} {p : List MemPlace} (hr : ∀ fuel, Rd enc P W t r fit fuel) (hu : P.underlying t = some (.struct fs))
    (hval : Value.okWide P W .any base t v) (hd : DataW.Trod enc P W 0 (fun _ => true) true t v d p) (hw : Wt P t d) : ∃ x, fit x ∧ LR (allG W) 0 noL (.agg ((r x).map .d)) v := by
  obtain ⟨cs, rfl, _⟩ := Go.WideShapes.okWide_struct hu hval
  obtain ⟨fuel, hf⟩ := hd
  obtain ⟨x, h1, h2⟩ := hr fuel _ _ _ hf
  refine ⟨x, h2 hw, ?_⟩
  unfold LR
  exact ⟨cs.toList, by simp, RL_LRs h1⟩
theorem wt_of {H : Type} {P : Program} {ts : List TypeId} {ds : List (DataW H)} (h : (DataW.weightsEach P ts ds).all (· ≤ reachBytes) = true) {j : Nat} {t : TypeId} {d : DataW H} (ht : ts[j]? = some t) (hd : ds[j]? = some d) : Wt P t d := fun n hn => by
  have := List.all_eq_true.1 h _ (DataW.weights_mem_each ht hd n hn)
  simpa using this
end Go.Aft
end
section
set_option maxRecDepth 20000
namespace Go.Aft
open Go.RowKit
open Go.Proofs.Tryz
section
variable {H : Type} {enc : TypeId × Value → H} {w : World}
theorem RdFs.conv {P : Program} {α β : Type} {n off fuel : Nat} {fs : List Field} {r : α → List DV} {fit : α → Prop} {r' : β → List DV} {fit' : β → Prop} (h : RdFs enc P w n fs off r fit fuel) (g : α → β) (hr : ∀ x, r' (g x) = r x) (hf : ∀ x, fit x → fit' (g x)) : RdFs enc P w n fs off r' fit' fuel :=
  fun cs xs h1 h2 => by
    obtain ⟨x, q1, q2⟩ := h cs xs h1 h2
    exact ⟨g x, by rw [hr]; exact q1, fun q => hf x (q2 q)⟩
theorem rd_int (fuel : Nat) : Rd enc prog w 3 (fun n : Int => [.k (.int .i64 n)]) (fun n => True) fuel := (Rd.int underlying3 fuel).map id (fun _ => rfl) (fun _ _ => trivial)
theorem rd_rec (fuel : Nat) : Rd enc prog w 27 rRec (fun _ => True) fuel :=
  Rd.struct underlying27 fuel fun f hf => ((RdFs.cons (n := 3) rfl (Rd.int underlying3 f) <| RdFs.cons rfl (Rd.int underlying3 f) <| RdFs.cons rfl (Rd.int underlying3 f) <| RdFs.nil)).conv (fun x => ⟨x.1, x.2.1, x.2.2.1⟩) (fun _ => rfl) (fun _ _ => trivial)
theorem rd_calc : ∀ fuel, Rd enc prog w 135 rCalc (fun _ => True) fuel := fun fuel => by
  induction fuel using Nat.strongRecOn with
  | _ fuel ih =>
    refine Rd.struct underlying135 fuel fun f hf => ?_
    refine (RdFs.cons (n := 3) rfl (Rd.int underlying133 f) <| RdFs.cons rfl (Rd.int underlying3 f) <| RdFs.cons rfl (Rd.slice (r := rCalc) (fit := fun _ => True) underlying68 (by decide +kernel) (fun x => ?_) f fun g hg => ih g (by omega)) <| RdFs.nil).conv (fun x => .mk x.1 x.2.1 x.2.2.1) (fun x => ?_) (fun _ _ => trivial)
    · rw [rCalc_len]; decide +kernel
    · rw [rCalc, rCalcs_map]; rfl
theorem rd_exp : ∀ fuel, Rd enc prog w 105 rExp (fun _ => True) fuel := fun fuel => by
  induction fuel using Nat.strongRecOn with
  | _ fuel ih =>
    refine Rd.struct underlying105 fuel fun f hf => ?_
    refine (RdFs.cons (n := 6) rfl (Rd.int underlying102 f) <| RdFs.cons rfl (Rd.str underlying9 f) <| RdFs.cons rfl (Rd.int underlying3 f) <| RdFs.cons rfl (Rd.int underlying58 f) <| RdFs.cons rfl (Rd.slice (r := rCalc) (fit := fun _ => True) underlying68 (by decide +kernel) (fun x => ?_) f fun g hg => rd_calc g) <| RdFs.cons rfl (Rd.slice (r := rExp) (fit := fun _ => True) underlying103 (by decide +kernel) (fun x => ?_) f fun g hg => ih g (by omega)) <| RdFs.nil).conv (fun x => .mk x.1 x.2.1 x.2.2.1 x.2.2.2.1 x.2.2.2.2.1 x.2.2.2.2.2.1) (fun x => ?_) (fun _ _ => trivial)
    · rw [rCalc_len]; decide +kernel
    · rw [rExp_len]; decide +kernel
    · rw [rExp, rCalcs_map, rExps_map]; rfl
theorem rd_def (fuel : Nat) : Rd enc prog w 107 rDef (fun d => strFit d.name) fuel :=
  Rd.struct underlying107 fuel fun f hf => (RdFs.cons (n := 7) rfl (Rd.str underlying9 f) <| RdFs.cons rfl (rd_exp f) <| RdFs.nil).conv (fun x => ⟨x.1, x.2.1⟩) (fun x => by simp [rDef]) (fun x h => h.1)
theorem rd_prog (fuel : Nat) : Rd enc prog w 25 rProg fitP fuel :=
  Rd.struct underlying25 fuel fun f hf => (RdFs.cons (n := 2) rfl (Rd.slice (r := rS) (fit := strFit) underlying22 (by decide +kernel) (fun x => by rw [rS, show prog.cellsOf 9 = 1 by decide +kernel]; rfl) f fun g hg => Rd.str underlying9 g) <| RdFs.cons rfl (Rd.slice (r := rDef) (fit := fun d => strFit d.name) underlying23 (by decide +kernel) (fun x => by rw [rDef_len]; decide +kernel) f fun g hg => rd_def g) <| RdFs.nil).conv (fun x => ⟨x.1, x.2.1⟩) (fun x => rfl) (fun x h s hs => by
    rcases List.mem_append.1 hs with q | q
    · exact h.1 s q
    · obtain ⟨d, hd, rfl⟩ := List.mem_map.1 q
      exact h.2.1 d hd)
end
end Go.Aft
end
section
set_option maxRecDepth 20000
namespace Go.Aft
open Go.Proofs.Tryz
theorem ref05_Good (n : News) (srcs : Int) (hs : 0 ≤ srcs ∧ srcs ≤ 4) : AFun prog 204 [lv (rNews n), lvI srcs] (.d (.k (.bool (goodB n srcs)))) := by
  have cc := cxS_ok (p := kds [2] [] [])
  refine AFun.bodyW (cxS_ok (p := kds [2] [] [])) func204 rfl call204 (by rw [ntmps204]; simp) rfl fun hf H => ?_
  have hr := ref05_Rec n.rec_
  simp [rRec] at hr
  have w : IntKind.wrap .i64 (srcs - 1) = srcs - 1 := by rw [wrap64] <;> omega
  simp [ntmps204, results204, rNews, rRec] at hf ⊢
  refine AW.seq cc ?_
  simp
  refine AW.seq cc ?_
  simp [w]
  refine EC.afun (ref05_in _ _ _) ?_
  cases h1 : inB n.src 0 (srcs - 1) with
  | false => simp [goodB, h1]
  | true =>
    simp
    refine AW.seq cc ?_
    simp
    refine ⟨fun e1 => ?_, fun e1 => ?_⟩
    · refine EC.afun (ref05_in _ _ _) ?_
      cases h2 : inB n.id 0 999 with
      | false => simp [goodB, h1, e1, saidB, h2]
      | true =>
        simp
        refine EC.afun (ref05_in _ _ _) ?_
        cases h3 : inB n.ver 1 99 with
        | false => simp [goodB, h1, e1, saidB, h2, h3]
        | true =>
          simp
          refine EC.afun hr ?_
          simp [goodB, h1, e1, saidB, h2, h3]
    · refine ⟨fun e2 => ?_, fun e2 => ?_⟩
      · have hz : (n.rec_ = zeroRec) ↔ (n.rec_.at_ = 0 ∧ n.rec_.key = 0 ∧ n.rec_.val = 0) := by
          obtain ⟨d0, s0, i0, v0, ⟨x, y, z⟩⟩ := n
          simp [zeroRec]
        refine EC.afun (ref05_in _ _ _) ?_
        cases h2 : inB n.id 0 999 with
        | false => simp [goodB, h1, e1, e2, saidB, h2]
        | true =>
          simp
          refine EC.afun (ref05_in _ _ _) ?_
          cases h3 : inB n.ver 1 99 with
          | false => simp [goodB, h1, e1, e2, saidB, h2, h3]
          | true =>
            simp [goodB, h1, e1, e2, saidB, h2, h3]
            by_cases q : n.rec_ = zeroRec
            · rw [q]; rfl
            · have q' : ¬ (n.rec_.at_ = 0 ∧ n.rec_.key = 0 ∧ n.rec_.val = 0) := fun h => q (hz.2 h)
              rw [Bool.eq_iff_iff]
              simp [q]
              exact fun a b c => q' ⟨a, b, c⟩
      · refine ⟨fun e3 => ⟨fun q1 q2 q3 q4 => ⟨⟨⟨q1, q2⟩, q3, q4⟩, EC.afun (ref05_in _ _ _) ?_⟩, fun q => ?_⟩, fun e3 => ?_⟩
        · simp [goodB, h1, e1, e2, e3, markedB, q1, q2, q3, q4]
        · have hb : (n.id == 0 && n.ver == 0 && (n.rec_.key == 0 && n.rec_.val == 0)) = false := by
            rw [Bool.eq_false_iff]; intro h; simp at h; exact q h.1.1 h.1.2 h.2.1 h.2.2
          rw [hb]
          have hm : markedB n = false := by
            rw [Bool.eq_false_iff]; intro h; simp [markedB] at h; exact q h.1.1.1 h.1.1.2 h.1.2.1 h.1.2.2
          simp [goodB, h1, e1, e2, e3, hm]
        · refine AW.ev cc ?_
          simp [goodB, h1, e1, e2, e3]
theorem ref05_Clashes (a b : News) : AFun prog 205 [lv (rNews a), lv (rNews b)] (.d (.k (.bool (clashB a b)))) := by
  have cc := cxS_ok (p := kds [2, 3] [] [])
  refine AFun.bodyW (cxS_ok (p := kds [2, 3] [] [])) func205 rfl call205 (by rw [ntmps205]; simp) rfl fun hf H => ?_
  simp [ntmps205, results205, rNews, rRec] at hf ⊢
  refine AW.seq cc ?_
  simp
  refine AW.ev cc ?_
  obtain ⟨d0, s0, i0, v0, ⟨x, y, z⟩⟩ := a
  obtain ⟨d1, s1, i1, v1, ⟨x1, y1, z1⟩⟩ := b
  simp [clashB]
  simp only [bne, Bool.and_assoc]
  rfl
theorem ref05_plain (l : List News) (srcs : Int) : AFun prog 157 [sl (l.map rNews), lvI srcs] (.d (.k (.bool (plainB l srcs)))) := by
  have cc := cxK_ok (p := kds [] [] [])
  refine AFun.bodyW (cxK_ok (p := kds [] [] [])) func157 rfl call157 (by rw [ntmps157]; simp) rfl fun hf H => ?_
  simp [ntmps157, results157] at hf ⊢
  refine AW.seq cc ?_
  simp
  refine AW.seq cc ?_
  simp
  refine EC.afun (ref05_in _ _ _) ?_
  cases h1 : inB srcs 1 4 with
  | false => simp [plainB, h1]
  | true =>
    by_cases h2 : l.length ≤ 60
    rotate_left
    · have h2' : ¬ ((l.length : Int) ≤ 60) := by omega
      simp [h2', plainB, h1, h2]
    · have h2' : ((l.length : Int) ≤ 60) := by omega
      simp [h2']
      have hs : 0 ≤ srcs ∧ srcs ≤ 4 := by simp [inB] at h1; omega
      refine ⟨fun q => absurd h2' (by omega), AW.ev cc ?_⟩
      simp
      refine AW.loopS cc (fun k : Nat => ⟨[(0, .d (.sl (l.map rNews))), (1, lvI srcs), (5, lvI k)], [], H⟩) (fun k => l.length - k) (fun k => k ≤ l.length ∧ ∀ j (h : j < l.length), j < k → goodB l[j] srcs = true) 0 ⟨by simp, by simp⟩ ?_
      rintro k ⟨hk, hI⟩
      simp
      refine ⟨fun h => ?_, fun h => ?_⟩
      · have hg := ref05_Good l[k] srcs hs
        simp [rNews, rRec] at hg
        simp [h, List.getElem?_eq_getElem h, rNews, rRec]
        refine EC.afun hg ?_
        simp
        refine ⟨fun e => ?_, fun e => ?_⟩
        · have : plainB l srcs = false := by
            rw [plainB]
            have : (l.any fun n => !goodB n srcs) = true := List.any_eq_true.2 ⟨l[k], List.getElem_mem h, by simp [e]⟩
            simp [this]
          rw [this]
        · refine NX.go (k + 1) (Nat.sub_lt_sub_left h (Nat.lt_succ_self k)) ⟨h, fun j hj hjk => ?_⟩ (by simp [wrap_succ h hf.1])
          by_cases z : j = k
          · subst z; exact e
          · exact hI j hj (by omega)
      · have : plainB l srcs = true := by
          have ha : (l.any fun n => !goodB n srcs) = false := by
            rw [List.any_eq_false]
            intro n hn
            obtain ⟨j, hj, rfl⟩ := List.mem_iff_getElem.1 hn
            simp [hI j hj (by omega)]
          simp [plainB, h1, h2, ha]
        rw [this]
theorem ref05_clash (l : List News) : AFun prog 158 [sl (l.map rNews)] (clashV (clashM l)) := by
  have cc := cxK_ok (p := kds [] [] [])
  refine AFun.bodyW (cxK_ok (p := kds [] [] [])) func158 rfl call158 (by rw [ntmps158]; simp) rfl fun hf H => ?_
  simp [ntmps158, results158] at hf ⊢
  refine AW.seq cc ?_
  simp
  refine AW.ev cc ?_
  simp
  refine AW.loopS cc (fun k : Nat => ⟨[(0, .d (.sl (l.map rNews))), (5, lvI k)], [], H⟩) (fun k => l.length - k)
    (fun k => k ≤ l.length ∧ ∀ j, j < k → clashAt l j = none) 0 ⟨by simp, by simp⟩ ?_
  rintro k ⟨hk, hI⟩
  simp
  refine ⟨fun h => ?_, fun h => ?_⟩
  · refine AW.loopS cc (fun i : Nat => ⟨[(0, .d (.sl (l.map rNews))), (5, lvI k), (6, lvI i)], [], H⟩) (fun i => k - i)
        (fun i => i ≤ k ∧ ∀ j (hj : j < i) (hjk : j < k), clashB l[j] l[k] = false) 0 ⟨⟨by simp, by simp⟩, by simp⟩ ?_
    rintro i ⟨hi, hJ⟩
    simp
    refine ⟨fun hik => ?_, fun hik => ?_⟩
    · have hil : i < l.length := by omega
      have hc := ref05_Clashes l[i] l[k]
      simp [rNews, rRec] at hc
      refine AW.draw cc [(8, .n)] (.q 0 <| .q 1 <| .q 2 <| .q 4 <| .q 5 <| .q 6 <| .q 3 <| .q 7 <| .q 8 <| .done) (by kernel_rfl) ?_
      simp [h, hil, List.getElem?_eq_getElem h, List.getElem?_eq_getElem hil, rNews, rRec]
      refine FC.afun hc ?_
      simp
      refine ⟨fun e => ?_, fun e => ?_⟩
      · rw [clashM_some h (fun j hj => hI j hj) (clashAt_yes h hik e fun j hj => hJ j hj (by omega))]
        simp [clashV, LV.nb, nbs]
      · refine NX.go (i + 1) (Nat.sub_lt_sub_left hik (Nat.lt_succ_self i)) ⟨hik, fun j hj hjk => ?_⟩ (by simp [wrap_succ hil hf.1])
        by_cases z : j = i
        · subst z; exact e
        · exact hJ j (by omega) hjk
    · have : i = k := by omega
      subst this
      refine NX.go (i + 1) (Nat.sub_lt_sub_left h (Nat.lt_succ_self i)) ⟨h, fun j hj => ?_⟩ (by simp [wrap_succ h hf.1])
      by_cases z : j = i
      · subst z; exact clashAt_no h fun i hi => hJ i hi hi
      · exact hI j (by omega)
  · have : clashM l = none := clashM_none fun j hj => hI j (by omega)
    rw [this]; simp [clashV, LV.nb, nbs]
theorem ref05_Formed (l : List News) (srcs : Int) : AFun prog 109 [sl (l.map rNews), lvI srcs] (.d (.k (.bool (formedB l srcs)))) := by
  refine AFun.body cx0_ok func109 rfl call109 (by rw [ntmps109]; simp) rfl fun hf H => ?_
  have h1 := ref05_plain l srcs
  have h2 := ref05_clash l
  simp at h1 h2
  simp [ntmps109, results109]
  refine EC.afun h1 ?_
  cases hp : plainB l srcs with
  | false => simp [formedB, hp]
  | true =>
    simp
    refine EC.afun h2 ?_
    cases hc : clashM l with
    | none => simp [clashV, formedB, hp, hc]
    | some ij => simp [clashV, formedB, hp, hc]
end Go.Aft
end
