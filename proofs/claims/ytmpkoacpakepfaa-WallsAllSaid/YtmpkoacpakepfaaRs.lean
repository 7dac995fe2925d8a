/- What arguments of any shape read as, and how long what is in them may be. -/
import Derived.Test.YtmpkoacpakepfaaRdr
import Derived.SizedLaws
namespace Go.Proofs.Ytmpkoacpakepfaa.Base
open Go Go.RowKit Go.ChangeShapes Go.WideShapes
namespace Rdr

def smT {α : Type} : α → Prop := fun _ => True
def smL {α : Type} (s : α → Prop) : List α → Prop := fun l => l.length ≤ 140737488351232 ∧ ∀ y ∈ l, s y
def smA {α : Type} (s : α → Prop) : List α → Prop := fun l => ∀ y ∈ l, s y
def smP {α β : Type} (s : α → Prop) (t : β → Prop) : α × β → Prop := fun x => s x.1 ∧ t x.2
def OfS (P : Program) (t : TypeId) {α : Type} (r : Rdr α) (s : α → Prop) : Prop :=
  P.cellsOf t = r.sz ∧ ∀ (H : Type) (enc : TypeId × Value → H) (w : World) (base : Nat) (spare : Nat → Bool) (held : Bool) (fuel : Nat) (cs : List Value) (x : DataW H × List MemPlace),
    DataW.trod enc P w base spare held fuel t cs = some x → ∃ y, r.R w cs y ∧ ((∀ n ∈ x.1.weights P t, n ≤ reachBytes) → s y)
section
variable {P : Program} {t : TypeId}
theorem ofS {α : Type} {r : Rdr α} (h : Of P t r) : OfS P t r smT := ⟨h.1, fun H enc w base spare held fuel cs x hx => by
  obtain ⟨y, hy⟩ := h.2 H enc w base spare held fuel cs x hx
  exact ⟨y, hy, fun _ => trivial⟩⟩
theorem all_mem {H : Type} {e : TypeId} : ∀ {l : List (DataW H)} {d : DataW H}, d ∈ l → ∀ n ∈ d.weights P e, n ∈ DataW.weightsAll P e l := by
  intro l
  induction l with
  | nil => intro d hd; cases hd
  | cons c l ih =>
    intro d hd n hn
    simp only [DataW.weightsAll, List.mem_append]
    rcases List.mem_cons.1 hd with rfl | hd
    · exact .inl hn
    · exact .inr (ih hd n hn)
theorem ofS_sl {α : Type} {r : Rdr α} {s : α → Prop} {e : TypeId} (ht : P.underlying t = some (.slice e)) (hc : P.cellsOf t = 1) (he : OfS P e r s) {B : Nat} (hB : P.bytesOf e = B) (hB0 : 0 < B) : OfS P t (sl r) (smL s) := by
  refine ⟨hc, fun H enc w base spare held fuel cs x h => ?_⟩
  rcases Deep.open_slice ht h with ⟨rfl, _⟩ | ⟨a, len, cap, m, n, D, Pl, rfl, hb, hl, hm, hmm, hxe, hx⟩
  · exact ⟨[], ⟨none, 0, rfl, Nat.le_refl _, Nat.zero_le _, fun h => absurd rfl h⟩, fun _ => ⟨Nat.zero_le _, fun y hy => by cases hy⟩⟩
  · rw [he.1] at hx
    have hlm : len ≤ m := by rw [hmm]; split <;> omega
    have hex : ∀ i, i < len → ∃ y c, w.cells? base (a.add (i * r.sz)) r.sz = some c ∧ r.R w c y ∧ ((∀ n ∈ (D i).weights P e, n ≤ reachBytes) → s y) := by
      intro i hi
      obtain ⟨c, h1, h2⟩ := hx i (by omega)
      obtain ⟨y, hy, hs⟩ := he.2 H enc w base spare held n _ _ h2
      exact ⟨y, c, h1, hy, hs⟩
    obtain ⟨f, hf⟩ : ∃ f : Fin len → α, ∀ i : Fin len, ∃ c, w.cells? base (a.add (i.val * r.sz)) r.sz = some c ∧ r.R w c (f i) ∧ ((∀ n ∈ (D i.val).weights P e, n ≤ reachBytes) → s (f i)) :=
      ⟨fun i => (hex i.val i.isLt).choose, fun i => (hex i.val i.isLt).choose_spec⟩
    refine ⟨List.ofFn f, ⟨some a, cap, by simp, by simp; exact hl, hm, fun hne => ⟨a, rfl, fun hp => ?_, fun i y hy => ?_⟩⟩, fun hw => ⟨?_, fun y hy => ?_⟩⟩
    · have hpos : 0 < len := by
        rcases Nat.eq_zero_or_pos len with h0 | h0
        · subst h0; simp at hne
        · exact h0
      obtain ⟨c, h1, h2, _⟩ := hf ⟨0, hpos⟩
      obtain ⟨_, hlen, hcell⟩ := World.cells?_some h1
      have h3 := hcell 0 (by omega)
      rw [List.getElem?_eq_getElem (by omega)] at h3
      have h4 := World.block_lt_of_cell? w _ h3
      rw [add_block, add_block] at h4
      exact h4
    · have hi : i < len := by
        have := (List.getElem?_eq_some_iff.1 hy).1; simpa using this
      have h2 := (List.getElem?_eq_some_iff.1 hy).2
      rw [List.getElem_ofFn] at h2
      obtain ⟨c, h3, h4, _⟩ := hf ⟨i, hi⟩
      rw [h2] at h4
      refine ⟨c, h4, fun j u hu => ?_⟩
      obtain ⟨_, hlen, hcell⟩ := World.cells?_some h3
      have hj : j < r.sz := by have := (List.getElem?_eq_some_iff.1 hu).1; omega
      have h5 := hcell j hj
      rw [add_add] at h5
      rw [h5]; exact hu
    · rw [List.length_ofFn]
      subst hxe
      have h1 := hw ((((List.range len).map D).length + ((List.range (m - len)).map fun j => D (len + j)).length) * P.bytesOf e) (by simp only [DataW.weights, ht]; exact List.mem_cons_self)
      rw [List.length_map, List.length_range, hB] at h1
      have h2 : len * 1 ≤ (len + ((List.range (m - len)).map fun j => D (len + j)).length) * B := Nat.mul_le_mul (Nat.le_add_right _ _) hB0
      have h3 : reachBytes ≤ 140737488351232 := by decide
      omega
    · obtain ⟨i, hi, rfl⟩ := List.getElem_of_mem hy
      rw [List.length_ofFn] at hi
      rw [List.getElem_ofFn]
      obtain ⟨c, _, _, h4⟩ := hf ⟨i, hi⟩
      refine h4 fun n hn => hw n ?_
      subst hxe
      simp only [DataW.weights, ht]
      exact List.mem_cons_of_mem _ (List.mem_append_left _ (all_mem (List.mem_map.2 ⟨i, List.mem_range.2 hi, rfl⟩) n hn))
/-- A struct's fields, one behind the other. -/
def OfFS (P : Program) (fs : List Field) (off : Nat) {α : Type} (r : Rdr α) (s : α → Prop) : Prop :=
  ∀ (H : Type) (enc : TypeId × Value → H) (w : World) (base : Nat) (spare : Nat → Bool) (held : Bool) (fuel : Nat) (cs : List Value) (xs : List (DataW H × List MemPlace)),
    cs.length = off + r.sz → (fs.mapM fun f => DataW.trod enc P w base spare held fuel f.type ((cs.drop f.offset).take (P.cellsOf f.type))) = some xs → ∃ y, r.R w (cs.drop off) y ∧ ((∀ n ∈ DataW.weightsEach P (fs.map (·.type)) (xs.map (·.1)), n ≤ reachBytes) → s y)
theorem ofFS_nil (off : Nat) : OfFS P [] off unit smT := by
  intro H enc w base spare held fuel cs xs hl _
  exact ⟨(), List.drop_eq_nil_of_le (by rw [hl]; exact Nat.le_refl _), fun _ => trivial⟩
theorem ofFS_cons {α β : Type} {r : Rdr α} {s : Rdr β} {f : Field} {fs : List Field} {off : Nat} {s1 : α → Prop} {s2 : β → Prop} (hf : f.offset = off) (hr : OfS P f.type r s1) (hs : OfFS P fs (off + r.sz) s s2) : OfFS P (f :: fs) off (pair r s) (smP s1 s2) := by
  intro H enc w base spare held fuel cs xs hl h
  have hl' : cs.length = off + (r.sz + s.sz) := hl
  simp only [List.mapM_cons, Option.bind_eq_bind, Option.bind_eq_some_iff] at h
  obtain ⟨x, h1, ys, h2, h3⟩ := h
  injection h3 with h3
  rw [hf, hr.1] at h1
  obtain ⟨a, ha, ha2⟩ := hr.2 H enc w base spare held fuel _ _ h1
  obtain ⟨b, hb, hb2⟩ := hs H enc w base spare held fuel cs ys (by omega) h2
  refine ⟨(a, b), ⟨(cs.drop off).take r.sz, cs.drop (off + r.sz), ?_, ha, hb⟩, fun hw => ⟨ha2 fun n hn => hw n ?_, hb2 fun n hn => hw n ?_⟩⟩
  · rw [← List.drop_drop, List.take_append_drop]
  · rw [← h3]
    simp only [List.map_cons, DataW.weightsEach, List.mem_append]
    exact .inl hn
  · rw [← h3]
    simp only [List.map_cons, DataW.weightsEach, List.mem_append]
    exact .inr hn
theorem ofS_st {α : Type} {r : Rdr α} {s : α → Prop} {fs : Array Field} (ht : P.underlying t = some (.struct fs)) (hc : P.cellsOf t = r.sz) (hF : OfFS P fs.toList 0 r s) : OfS P t r s := by
  refine ⟨hc, fun H enc w base spare held fuel cs x h => ?_⟩
  cases fuel with
  | zero => simp [DataW.trod] at h
  | succ n =>
    unfold DataW.trod at h
    rw [ht] at h
    simp only at h
    split at h
    · rename_i hl
      simp only [Option.map_eq_some_iff] at h
      obtain ⟨xs, hxs, hx⟩ := h
      obtain ⟨y, hy, hy2⟩ := hF H enc w base spare held n cs xs (by rw [hl, hc]; omega) hxs
      refine ⟨y, by simpa using hy, fun hw => hy2 fun k hk => hw k ?_⟩
      rw [← hx]
      simp only [DataW.weights, ht]
      exact hk
    · cases h
/-- A row's argument that is a slice. -/
theorem ofS_slice_arg {α : Type} {r : Rdr α} {s : List α → Prop} {H : Type} {enc : TypeId × Value → H} {w : World} {base : Nat} {spare : Nat → Bool} {held : Bool} {A : Option Addr} {len cap : Nat} {d : DataW H} {ps : List MemPlace} {ts : List TypeId} {ds : List (DataW H)} {j : Nat}
    (hsz : (DataW.weightsEach P ts ds).all (· ≤ reachBytes) = true) (hj : ts[j]? = some t) (hd' : ds[j]? = some d) (h : OfS P t (sl r) s) (hd : DataW.Trod enc P w base spare held t (.slice A len cap) d ps) :
    ∃ l : List α, l.length = len ∧ len ≤ cap ∧ cap ≤ maxLen ∧ Row r w A l ∧ s l := by
  obtain ⟨fuel, hf⟩ := hd
  obtain ⟨l, ⟨A', cap', e, h1, h2, h3⟩, h4⟩ := h.2 H enc w base spare held fuel _ _ hf
  simp only [Value.cells, List.cons.injEq, and_true] at e
  injection e with e1 e2 e3
  subst e1 e2 e3
  exact ⟨l, rfl, h1, h2, h3, h4 fun n hn => of_decide_eq_true (List.all_eq_true.1 hsz n (DataW.weights_mem_each hj hd' n hn))⟩
/-- A row's argument that is an array or a struct. -/
theorem ofS_agg_arg {α : Type} {r : Rdr α} {s : α → Prop} {H : Type} {enc : TypeId × Value → H} {w : World} {base : Nat} {spare : Nat → Bool} {held : Bool} {cs : Array Value} {d : DataW H} {ps : List MemPlace} {ts : List TypeId} {ds : List (DataW H)} {j : Nat}
    (hsz : (DataW.weightsEach P ts ds).all (· ≤ reachBytes) = true) (hj : ts[j]? = some t) (hd' : ds[j]? = some d) (h : OfS P t r s) (hd : DataW.Trod enc P w base spare held t (.agg cs) d ps) :
    ∃ x : α, r.R w cs.toList x ∧ s x := by
  obtain ⟨fuel, hf⟩ := hd
  obtain ⟨y, h1, h2⟩ := h.2 H enc w base spare held fuel _ _ hf
  exact ⟨y, h1, h2 fun n hn => of_decide_eq_true (List.all_eq_true.1 hsz n (DataW.weights_mem_each hj hd' n hn))⟩
end
end Rdr
end Go.Proofs.Ytmpkoacpakepfaa.Base
