/- What arguments of any shape read as: numbers, bools, strings, arrays, structs, slices. -/
import Derived.Test.YticnjkdaccacaaaDoorRow
import Derived.Deep.Slices
namespace Go.Proofs.YticnjkdaccacaaaDoor.Base
open Go Go.RowKit Go.ChangeShapes Go.WideShapes

structure Rdr (α : Type) where
  sz : Nat
  R : World → List Value → α → Prop
  len : ∀ {w cs x}, R w cs x → cs.length = sz
  keep : ∀ {w w1 : World} {cs x}, Below w.heap.size w w1 → R w cs x → R w1 cs x
namespace Rdr
def int (k : IntKind) : Rdr Int where
  sz := 1
  R := fun _ cs x => cs = [.int k x] ∧ (Lit.int k x).wf = true
  len := by rintro w cs x ⟨rfl, _⟩; rfl
  keep := fun _ h => h
def bool : Rdr Bool where
  sz := 1
  R := fun _ cs x => cs = [.bool x]
  len := by rintro w cs x rfl; rfl
  keep := fun _ h => h
def str : Rdr ByteArray where
  sz := 1
  R := fun _ cs x => cs = [.string x] ∧ x.size ≤ maxLen
  len := by rintro w cs x ⟨rfl, _⟩; rfl
  keep := fun _ h => h
def unit : Rdr Unit where
  sz := 0
  R := fun _ cs _ => cs = []
  len := by rintro w cs x rfl; rfl
  keep := fun _ h => h
def pair {α β : Type} (r : Rdr α) (s : Rdr β) : Rdr (α × β) where
  sz := r.sz + s.sz
  R := fun w cs x => ∃ c d, cs = c ++ d ∧ r.R w c x.1 ∧ s.R w d x.2
  len := by
    rintro w cs x ⟨c, d, rfl, h1, h2⟩
    rw [List.length_append, r.len h1, s.len h2]
  keep := by
    rintro w w1 cs x hb ⟨c, d, rfl, h1, h2⟩
    exact ⟨c, d, rfl, r.keep hb h1, s.keep hb h2⟩
def arr {α : Type} (n : Nat) (r : Rdr α) : Rdr (List α) where
  sz := n * r.sz
  R := fun w cs x => cs.length = n * r.sz ∧ x.length = n ∧ ∀ i y, x[i]? = some y → r.R w ((cs.drop (i * r.sz)).take r.sz) y
  len := fun h => h.1
  keep := fun hb h => ⟨h.1, h.2.1, fun i y hy => r.keep hb (h.2.2 i y hy)⟩
/-- A row of elements in memory. -/
def Row {α : Type} (r : Rdr α) (w : World) (A : Option Addr) (l : List α) : Prop :=
  l ≠ [] → ∃ ad, A = some ad ∧ (0 < r.sz → ad.block < w.heap.size) ∧ ∀ i y, l[i]? = some y → ∃ c, r.R w c y ∧ ∀ j u, c[j]? = some u → w.cell? (ad.add (i * r.sz + j)) = some u
theorem Row.keep {α : Type} {r : Rdr α} {w w1 : World} {A : Option Addr} {l : List α} (h : Row r w A l) (hb : Below w.heap.size w w1) : Row r w1 A l := fun hne => by
  obtain ⟨ad, e, h1, h2⟩ := h hne
  refine ⟨ad, e, fun hp => Nat.lt_of_lt_of_le (h1 hp) hb.size, fun i y hy => ?_⟩
  obtain ⟨c, h3, h4⟩ := h2 i y hy
  refine ⟨c, r.keep hb h3, fun j u hu => ?_⟩
  have h5 := h4 j u hu
  have h6 := World.block_lt_of_cell? w _ h5
  rw [hb.cell h6]; exact h5
def sl {α : Type} (r : Rdr α) : Rdr (List α) where
  sz := 1
  R := fun w cs x => ∃ A cap, cs = [.slice A x.length cap] ∧ x.length ≤ cap ∧ cap ≤ maxLen ∧ Row r w A x
  len := by rintro w cs x ⟨A, cap, rfl, _⟩; rfl
  keep := by
    rintro w w1 cs x hb ⟨A, cap, rfl, h1, h2, h3⟩
    exact ⟨A, cap, rfl, h1, h2, h3.keep hb⟩
/-- A row of whole numbers. -/
theorem Row.rd {k : IntKind} {w : World} {A : Option Addr} {l : List Int} (h : Row (int k) w A l) : Rd k w A l ∧ ∀ x ∈ l, (Lit.int k x).wf = true := by
  refine ⟨fun hne => ?_, fun x hx => ?_⟩
  · obtain ⟨ad, e, h1, h2⟩ := h hne
    refine ⟨ad, e, h1 Nat.one_pos, fun j hj => ?_⟩
    obtain ⟨c, ⟨rfl, _⟩, h4⟩ := h2 j _ (List.getElem?_eq_getElem hj)
    have := h4 0 _ rfl
    rw [show j * (int k).sz + 0 = j from by show j * 1 + 0 = j; omega] at this
    rw [this, List.getD_eq_getElem?_getD, List.getElem?_eq_getElem hj]; rfl
  · obtain ⟨i, hi, rfl⟩ := List.getElem_of_mem hx
    obtain ⟨ad, e, h1, h2⟩ := h (by intro e; rw [e] at hi; exact absurd hi (Nat.not_lt_zero _))
    obtain ⟨c, ⟨rfl, h3⟩, _⟩ := h2 i _ (List.getElem?_eq_getElem hi)
    exact h3
/-- An array of whole numbers. -/
theorem arr_int {k : IntKind} {n : Nat} {w : World} {cs : List Value} {l : List Int} (h : (arr n (int k)).R w cs l) : l.length = n ∧ cs = l.map (Value.int k) ∧ ∀ x ∈ l, (Lit.int k x).wf = true := by
  obtain ⟨h1, h2, h3⟩ := h
  refine ⟨h2, ?_, fun x hx => ?_⟩
  · apply List.ext_getElem?
    intro i
    by_cases hi : i < n
    · have h4 := (h3 i _ (List.getElem?_eq_getElem (by omega))).1
      rw [List.getElem?_map, List.getElem?_eq_getElem (show i < l.length by omega)]
      have h5 := congrArg (fun l : List Value => l[0]?) h4
      simp only [int, Nat.mul_one, List.getElem?_take, List.getElem?_drop] at h5
      simpa using h5
    · rw [List.getElem?_eq_none (by show cs.length ≤ i; rw [h1]; show n * 1 ≤ i; omega), List.getElem?_eq_none (by simp; omega)]
  · obtain ⟨i, hi, rfl⟩ := List.getElem_of_mem hx
    exact (h3 i _ (List.getElem?_eq_getElem hi)).2
/-! ### What the form's reading gives -/
def Of (P : Program) (t : TypeId) {α : Type} (r : Rdr α) : Prop :=
  P.cellsOf t = r.sz ∧ ∀ (H : Type) (enc : TypeId × Value → H) (w : World) (base : Nat) (spare : Nat → Bool) (held : Bool) (fuel : Nat) (cs : List Value) (x : DataW H × List MemPlace),
    DataW.trod enc P w base spare held fuel t cs = some x → ∃ y, r.R w cs y
section
variable {P : Program} {t : TypeId}
theorem of_int {k : IntKind} (ht : P.underlying t = some (.int k)) (hc : P.cellsOf t = 1) : Of P t (int k) := by
  refine ⟨hc, fun H enc w base spare held fuel cs x h => ?_⟩
  cases fuel with
  | zero => simp [DataW.trod] at h
  | succ n =>
    unfold DataW.trod at h
    rw [ht] at h
    split at h <;> simp_all
    rename_i k' n' _
    exact ⟨n', by simp [int, h.1]⟩
theorem of_bool (ht : P.underlying t = some .bool) (hc : P.cellsOf t = 1) : Of P t bool := by
  refine ⟨hc, fun H enc w base spare held fuel cs x h => ?_⟩
  obtain ⟨b, hcs, _⟩ := DataW.trod_bool ht h
  exact ⟨b, hcs⟩
theorem of_str (ht : P.underlying t = some .string) (hc : P.cellsOf t = 1) : Of P t str := by
  refine ⟨hc, fun H enc w base spare held fuel cs x h => ?_⟩
  obtain ⟨s, hcs, _, hs⟩ := DataW.trod_string ht h
  exact ⟨s, hcs, hs⟩
theorem of_arr {α : Type} {r : Rdr α} {e : TypeId} {n : Nat} (ht : P.underlying t = some (.array n e)) (hc : P.cellsOf t = n * r.sz) (he : Of P e r) : Of P t (arr n r) := by
  refine ⟨hc, fun H enc w base spare held fuel cs x h => ?_⟩
  obtain ⟨xs, m, rfl, rfl, hl, hn, hx⟩ := DataW.trod_array ht h
  have hex : ∀ i, i < n → ∃ y, r.R w ((cs.drop (i * r.sz)).take r.sz) y := by
    intro i hi
    have h1 := hx i hi
    rw [he.1, List.getElem?_eq_getElem (by omega)] at h1
    exact he.2 H enc w base spare held m _ _ h1
  obtain ⟨f, hf⟩ : ∃ f : Fin n → α, ∀ i : Fin n, r.R w ((cs.drop (i.val * r.sz)).take r.sz) (f i) :=
    ⟨fun i => (hex i.val i.isLt).choose, fun i => (hex i.val i.isLt).choose_spec⟩
  refine ⟨List.ofFn f, by rw [hl, hc], by simp, fun i y hy => ?_⟩
  have hi : i < n := by
    have := (List.getElem?_eq_some_iff.1 hy).1; simpa using this
  have h2 := (List.getElem?_eq_some_iff.1 hy).2
  rw [List.getElem_ofFn] at h2
  rw [← h2]; exact hf ⟨i, hi⟩
theorem of_sl {α : Type} {r : Rdr α} {e : TypeId} (ht : P.underlying t = some (.slice e)) (hc : P.cellsOf t = 1) (he : Of P e r) : Of P t (sl r) := by
  refine ⟨hc, fun H enc w base spare held fuel cs x h => ?_⟩
  rcases Deep.open_slice ht h with ⟨rfl, _⟩ | ⟨a, len, cap, m, n, D, Pl, rfl, hb, hl, hm, hmm, _, hx⟩
  · exact ⟨[], none, 0, rfl, Nat.le_refl _, Nat.zero_le _, fun h => absurd rfl h⟩
  · rw [he.1] at hx
    have hlm : len ≤ m := by rw [hmm]; split <;> omega
    have hex : ∀ i, i < len → ∃ y c, w.cells? base (a.add (i * r.sz)) r.sz = some c ∧ r.R w c y := by
      intro i hi
      obtain ⟨c, h1, h2⟩ := hx i (by omega)
      obtain ⟨y, hy⟩ := he.2 H enc w base spare held n _ _ h2
      exact ⟨y, c, h1, hy⟩
    obtain ⟨f, hf⟩ : ∃ f : Fin len → α, ∀ i : Fin len, ∃ c, w.cells? base (a.add (i.val * r.sz)) r.sz = some c ∧ r.R w c (f i) :=
      ⟨fun i => (hex i.val i.isLt).choose, fun i => (hex i.val i.isLt).choose_spec⟩
    refine ⟨List.ofFn f, some a, cap, by simp, by simp; exact hl, hm, fun hne => ⟨a, rfl, fun hp => ?_, fun i y hy => ?_⟩⟩
    · have hpos : 0 < len := by
        rcases Nat.eq_zero_or_pos len with h0 | h0
        · subst h0; simp at hne
        · exact h0
      obtain ⟨c, h1, h2⟩ := hf ⟨0, hpos⟩
      obtain ⟨_, hlen, hcell⟩ := World.cells?_some h1
      have h3 := hcell 0 (by omega)
      rw [List.getElem?_eq_getElem (by omega)] at h3
      have h4 := World.block_lt_of_cell? w _ h3
      rw [add_block, add_block] at h4
      exact h4
    · have hi : i < len := by
        have := (List.getElem?_eq_some_iff.1 hy).1; simpa using this
      have h2 := (List.getElem?_eq_some_iff.1 hy).2
      rw [List.getElem_ofFn] at h2
      obtain ⟨c, h3, h4⟩ := hf ⟨i, hi⟩
      rw [h2] at h4
      refine ⟨c, h4, fun j u hu => ?_⟩
      obtain ⟨_, hlen, hcell⟩ := World.cells?_some h3
      have hj : j < r.sz := by have := (List.getElem?_eq_some_iff.1 hu).1; omega
      have h5 := hcell j hj
      rw [add_add] at h5
      rw [h5]; exact hu
/-- A struct's fields, one behind the other. -/
def OfF (P : Program) (fs : List Field) (off : Nat) {α : Type} (r : Rdr α) : Prop :=
  ∀ (H : Type) (enc : TypeId × Value → H) (w : World) (base : Nat) (spare : Nat → Bool) (held : Bool) (fuel : Nat) (cs : List Value) (xs : List (DataW H × List MemPlace)),
    cs.length = off + r.sz → (fs.mapM fun f => DataW.trod enc P w base spare held fuel f.type ((cs.drop f.offset).take (P.cellsOf f.type))) = some xs → ∃ y, r.R w (cs.drop off) y
theorem ofF_nil (off : Nat) : OfF P [] off unit := by
  intro H enc w base spare held fuel cs xs hl _
  exact ⟨(), List.drop_eq_nil_of_le (by rw [hl]; exact Nat.le_refl _)⟩
theorem ofF_cons {α β : Type} {r : Rdr α} {s : Rdr β} {f : Field} {fs : List Field} {off : Nat} (hf : f.offset = off) (hr : Of P f.type r) (hs : OfF P fs (off + r.sz) s) : OfF P (f :: fs) off (pair r s) := by
  intro H enc w base spare held fuel cs xs hl h
  have hl' : cs.length = off + (r.sz + s.sz) := hl
  simp only [List.mapM_cons, Option.bind_eq_bind, Option.bind_eq_some_iff] at h
  obtain ⟨x, h1, ys, h2, _⟩ := h
  rw [hf, hr.1] at h1
  obtain ⟨a, ha⟩ := hr.2 H enc w base spare held fuel _ _ h1
  obtain ⟨b, hb⟩ := hs H enc w base spare held fuel cs ys (by omega) h2
  refine ⟨(a, b), (cs.drop off).take r.sz, cs.drop (off + r.sz), ?_, ha, hb⟩
  rw [← List.drop_drop, List.take_append_drop]
theorem of_st {α : Type} {r : Rdr α} {fs : Array Field} (ht : P.underlying t = some (.struct fs)) (hc : P.cellsOf t = r.sz) (hF : OfF P fs.toList 0 r) : Of P t r := by
  refine ⟨hc, fun H enc w base spare held fuel cs x h => ?_⟩
  cases fuel with
  | zero => simp [DataW.trod] at h
  | succ n =>
    unfold DataW.trod at h
    rw [ht] at h
    simp only at h
    split at h
    · rename_i hl
      simp only [Option.map_eq_some_iff] at h
      obtain ⟨xs, hxs, _⟩ := h
      have := hF H enc w base spare held n cs xs (by rw [hl, hc]; omega) hxs
      simpa using this
    · cases h
theorem okWide_agg {w : World} {r : Reach} {base : Nat} {v : Value} (ht : (∃ fs, P.underlying t = some (.struct fs)) ∨ ∃ n e, P.underlying t = some (.array n e)) (hv : Value.okWide P w r base t v) : ∃ cs, v = .agg cs := by
  unfold Value.okWide at hv
  rcases ht with ⟨fs, ht⟩ | ⟨n, e, ht⟩ <;> rw [ht] at hv <;> obtain ⟨cs, h, _⟩ := hv <;> exact ⟨cs, h⟩
/-- A row's argument that is a slice. -/
theorem of_slice_arg {α : Type} {r : Rdr α} {H : Type} {enc : TypeId × Value → H} {w : World} {base : Nat} {spare : Nat → Bool} {held : Bool} {A : Option Addr} {len cap : Nat} {d : DataW H} {ps : List MemPlace} (h : Of P t (sl r)) (hd : DataW.Trod enc P w base spare held t (.slice A len cap) d ps) :
    ∃ l : List α, l.length = len ∧ len ≤ cap ∧ cap ≤ maxLen ∧ Row r w A l := by
  obtain ⟨fuel, hf⟩ := hd
  obtain ⟨l, A', cap', e, h1, h2, h3⟩ := h.2 H enc w base spare held fuel _ _ hf
  simp only [Value.cells, List.cons.injEq, and_true] at e
  injection e with e1 e2 e3
  subst e1 e2 e3
  exact ⟨l, rfl, h1, h2, h3⟩
/-- A row's argument that is an array or a struct. -/
theorem of_agg_arg {α : Type} {r : Rdr α} {H : Type} {enc : TypeId × Value → H} {w : World} {base : Nat} {spare : Nat → Bool} {held : Bool} {cs : Array Value} {d : DataW H} {ps : List MemPlace} (h : Of P t r) (hd : DataW.Trod enc P w base spare held t (.agg cs) d ps) :
    ∃ x : α, r.R w cs.toList x := by
  obtain ⟨fuel, hf⟩ := hd
  exact h.2 H enc w base spare held fuel _ _ hf
end
end Rdr
end Go.Proofs.YticnjkdaccacaaaDoor.Base
