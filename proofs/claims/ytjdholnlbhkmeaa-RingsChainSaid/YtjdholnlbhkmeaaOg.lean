/- The order of those who wait, plainly: when there is one, and which. -/
import Derived.Test.YtjdholnlbhkmeaaTx
namespace Go.Proofs.Ytjdholnlbhkmeaa.Sx
open Go Go.RowKit Base Own

theorem freeAt_iff {es : List (Int × Int)} {out : List Int} {x : Int} : freeAt es out x = true ↔ ∀ y, (x, y) ∈ es → y ∈ out := by
  unfold freeAt
  rw [List.all_eq_true]
  constructor
  · intro h y hy
    simpa using h y (mem_tgt.2 hy)
  · intro h y hy
    simpa using h y (mem_tgt.1 hy)
theorem bool_ext {a b : Bool} (h : a = true ↔ b = true) : a = b := by cases a <;> cases b <;> simp_all
theorem uniq_sorted {l1 l2 : List Int} (h1 : l1.Pairwise (· < ·)) (h2 : l2.Pairwise (· < ·)) (h : ∀ x, x ∈ l1 ↔ x ∈ l2) : l1 = l2 := by
  have n1 : l1.Nodup := h1.imp (fun hab e => by omega)
  have n2 : l2.Nodup := h2.imp (fun hab e => by omega)
  exact List.Perm.eq_of_pairwise (le := fun x y => x < y) (fun a b _ _ h1 h2 => by omega) h1 h2 ((List.perm_ext_iff_of_nodup n1 n2).2 h)
/-- All that wait, and for whom they wait, rising. -/
def nds (es : List (Int × Int)) : List Int := risen (keysM (wtL es))
theorem nds_mem {es : List (Int × Int)} {x : Int} : x ∈ nds es ↔ nodeOf es x := by
  unfold nds
  rw [risen_mem]
  have h1 := (lk_wtL es).1 x
  constructor
  · intro hx
    refine Classical.byContradiction fun hn => ?_
    rw [if_neg hn] at h1
    exact (lk_none.1 h1) hx
  · intro hx
    rw [if_pos hx] at h1
    refine Classical.byContradiction fun hn => ?_
    rw [lk_none.2 hn] at h1; cases h1
theorem nds_sorted (es : List (Int × Int)) : (nds es).Pairwise (· < ·) := by
  have h1 := List.pairwise_mergeSort (le := fun (x y : Int) => decide (x ≤ y)) (fun a b c h1 h2 => by simp only [decide_eq_true_eq] at *; omega) (fun a b => by simp only [Bool.or_eq_true, decide_eq_true_eq]; omega) (keysM (wtL es))
  have h2 : (nds es).Nodup := risen_nodup (lk_wtL es).2
  have h3 := h1.and h2
  exact h3.imp (fun {a b} hab => by
    have p : a ≤ b := by simpa using hab.1
    have q := hab.2
    omega)
theorem ordF_eq {es : List (Int × Int)} {W : List Int} (hs : W.Pairwise (· < ·)) (hm : ∀ x, x ∈ W ↔ nodeOf es x) : ordF es = ordGo es W.length W [] := by
  have : nds es = W := uniq_sorted (nds_sorted es) hs (fun x => by rw [nds_mem, hm])
  have hl : (keysM (wtL es)).length = W.length := by rw [← this]; exact (risen_len _).symm
  unfold ordF
  rw [hl]
  show ordGo es W.length (nds es) [] = _
  rw [this]
theorem ordF_nds (es : List (Int × Int)) : ordF es = ordGo es (nds es).length (nds es) [] := ordF_eq (nds_sorted es) fun _ => nds_mem
theorem ordGo_congr {es fs : List (Int × Int)} (h : ∀ out x, freeAt es out x = freeAt fs out x) : ∀ (n : Nat) (left out : List Int), ordGo es n left out = ordGo fs n left out := by
  intro n
  induction n with
  | zero => intro left out; rfl
  | succ n ih =>
    intro left out
    unfold ordGo
    have : freeAt es out = freeAt fs out := funext (h out)
    rw [this]
    split
    · rfl
    · split
      · rfl
      · exact ih _ _
theorem ordF_same {es fs : List (Int × Int)} (h : ∀ p, p ∈ es ↔ p ∈ fs) : ordF es = ordF fs := by
  rw [ordF_nds es, ordF_eq (W := nds es) (es := fs) (nds_sorted es) (fun x => by
    rw [nds_mem]
    unfold nodeOf
    exact ⟨fun ⟨p, hp, q⟩ => ⟨p, (h p).1 hp, q⟩, fun ⟨p, hp, q⟩ => ⟨p, (h p).2 hp, q⟩⟩)]
  refine ordGo_congr (fun out x => bool_ext ?_) _ _ _
  rw [freeAt_iff, freeAt_iff]
  exact ⟨fun q y hy => q y ((h _).2 hy), fun q y hy => q y ((h _).1 hy)⟩
/-! ### Which order it is -/
def VF (es : List (Int × Int)) : List Int → List Int → List Int → Prop
  | [], _, left => left = []
  | x :: rest, out, left => x ∈ left ∧ freeAt es out x = true ∧ (∀ z ∈ left, freeAt es out z = true → x ≤ z) ∧ VF es rest (out ++ [x]) (left.erase x)
theorem find_least {p : Int → Bool} : ∀ {l : List Int} {x : Int}, l.Pairwise (· < ·) → l.find? p = some x → ∀ z ∈ l, p z = true → x ≤ z := by
  intro l
  induction l with
  | nil => intro x _ h; cases h
  | cons y l ih =>
    intro x hs h z hz hp
    rw [List.pairwise_cons] at hs
    rw [List.find?_cons] at h
    cases hy : p y with
    | true =>
      rw [hy] at h
      injection h with h
      subst h
      rcases List.mem_cons.1 hz with rfl | hz
      · exact Int.le_refl _
      · exact Int.le_of_lt (hs.1 z hz)
    | false =>
      rw [hy] at h
      rcases List.mem_cons.1 hz with rfl | hz
      · rw [hy] at hp; cases hp
      · exact ih hs.2 h z hz hp
theorem erase_len {l : List Int} {x : Int} {n : Nat} (h : x ∈ l) (hn : l.length = n + 1) : (l.erase x).length = n := by
  rw [List.length_erase_of_mem h]; omega
theorem ordGo_iff (es : List (Int × Int)) : ∀ (n : Nat) (left out l : List Int), left.Pairwise (· < ·) → left.length = n → (ordGo es n left out = some l ↔ ∃ rest, l = out ++ rest ∧ VF es rest out left) := by
  intro n
  induction n with
  | zero =>
    intro left out l hs hn
    obtain rfl : left = [] := List.eq_nil_of_length_eq_zero hn
    unfold ordGo
    rw [if_pos rfl]
    constructor
    · intro h; injection h with h; exact ⟨[], by simp [h], rfl⟩
    · rintro ⟨rest, rfl, hv⟩
      cases rest with
      | nil => simp
      | cons x r => exact absurd hv.1 (by simp)
  | succ n ih =>
    intro left out l hs hn
    have hne : left ≠ [] := fun e => by rw [e] at hn; simp at hn
    unfold ordGo
    rw [if_neg hne]
    cases hf : left.find? (freeAt es out) with
    | none =>
      have hno := List.find?_eq_none.1 hf
      simp only
      constructor
      · intro h; cases h
      · rintro ⟨rest, rfl, hv⟩
        cases rest with
        | nil => exact absurd hv hne
        | cons x r => exact absurd hv.2.1 (hno x hv.1)
    | some x =>
      have hx := List.mem_of_find?_eq_some hf
      have hp := List.find?_some hf
      have hl := find_least hs hf
      simp only
      rw [ih (left.erase x) (out ++ [x]) l (hs.sublist List.erase_sublist) (erase_len hx hn)]
      constructor
      · rintro ⟨rest, rfl, hv⟩
        exact ⟨x :: rest, by simp, hx, hp, hl, hv⟩
      · rintro ⟨rest, rfl, hv⟩
        cases rest with
        | nil => exact absurd hv hne
        | cons y r =>
          obtain ⟨h1, h2, h3, h4⟩ := hv
          have e : x = y := Int.le_antisymm (hl y h1 h2) (h3 x hx hp)
          subst e
          exact ⟨r, by simp, h4⟩
theorem VF.perm {es : List (Int × Int)} : ∀ {rest out left : List Int}, VF es rest out left → rest.Perm left := by
  intro rest
  induction rest with
  | nil => intro out left h; rw [show left = [] from h]
  | cons x r ih =>
    intro out left ⟨h1, _, _, h4⟩
    exact (List.Perm.cons x (ih h4)).trans (List.perm_cons_erase h1).symm
theorem VF.free {es : List (Int × Int)} : ∀ {rest out left : List Int}, VF es rest out left → ∀ p x s, rest = p ++ x :: s → freeAt es (out ++ p) x = true := by
  intro rest
  induction rest with
  | nil => intro out left _ p x s h; simp at h
  | cons y r ih =>
    intro out left ⟨_, h2, _, h4⟩ p x s h
    cases p with
    | nil => simp only [List.nil_append, List.cons.injEq] at h; rw [List.append_nil, ← h.1]; exact h2
    | cons z p =>
      simp only [List.cons_append, List.cons.injEq] at h
      have := ih h4 p x s h.2
      rw [List.append_assoc, List.singleton_append, h.1] at this
      exact this
theorem VF.least {es : List (Int × Int)} : ∀ {rest out left : List Int}, VF es rest out left → ∀ p x s, rest = p ++ x :: s → ∀ z ∈ x :: s, freeAt es (out ++ p) z = true → x ≤ z := by
  intro rest
  induction rest with
  | nil => intro out left _ p x s h; simp at h
  | cons y r ih =>
    intro out left hv p x s h z hz hf
    obtain ⟨h1, _, h3, h4⟩ := hv
    cases p with
    | nil =>
      simp only [List.nil_append, List.cons.injEq] at h
      rw [List.append_nil] at hf
      rw [← h.1]
      refine h3 z ?_ hf
      rcases List.mem_cons.1 hz with rfl | hz
      · rw [← h.1]; exact h1
      · rw [← h.2] at hz
        exact List.mem_of_mem_erase (h4.perm.subset hz)
    | cons q p =>
      simp only [List.cons_append, List.cons.injEq] at h
      refine ih h4 p x s h.2 z hz ?_
      rw [List.append_assoc, List.singleton_append, h.1]
      exact hf
/-- What an order is. -/
structure Ord (es : List (Int × Int)) (l : List Int) : Prop where
  nodup : l.Nodup
  mem : ∀ x, x ∈ l ↔ nodeOf es x
  free : ∀ p x s, l = p ++ x :: s → ∀ y, (x, y) ∈ es → y ∈ p
  least : ∀ p x s, l = p ++ x :: s → ∀ z ∈ x :: s, (∀ y, (z, y) ∈ es → y ∈ p) → x ≤ z
theorem Ord.of {es : List (Int × Int)} {l : List Int} (h : ordF es = some l) : Ord es l := by
  rw [ordF_nds, ordGo_iff es _ _ _ _ (nds_sorted es) rfl] at h
  obtain ⟨rest, rfl, hv⟩ := h
  refine ⟨?_, fun x => ?_, fun p x s e => ?_, fun p x s e z hz hf => ?_⟩
  · exact (hv.perm.nodup_iff).2 ((nds_sorted es).imp (fun hab e => by omega))
  · rw [hv.perm.mem_iff, nds_mem]
  · have := hv.free p x s e
    rw [List.nil_append] at this
    exact freeAt_iff.1 this
  · refine hv.least p x s e z hz ?_
    rw [List.nil_append]
    exact freeAt_iff.2 hf
theorem VF.mk {es : List (Int × Int)} : ∀ (rest out left : List Int), rest.Perm left → rest.Nodup → (∀ p x s, rest = p ++ x :: s → freeAt es (out ++ p) x = true) → (∀ p x s, rest = p ++ x :: s → ∀ z ∈ x :: s, freeAt es (out ++ p) z = true → x ≤ z) → VF es rest out left := by
  intro rest
  induction rest with
  | nil => intro out left hp _ _ _; exact hp.symm.eq_nil
  | cons x r ih =>
    intro out left hp hn hf hl
    rw [List.nodup_cons] at hn
    refine ⟨hp.subset List.mem_cons_self, by have := hf [] x r rfl; rwa [List.append_nil] at this, fun z hz hz2 => ?_, ih (out ++ [x]) (left.erase x) ?_ hn.2 (fun p y s e => ?_) (fun p y s e z hz hz2 => ?_)⟩
    · refine hl [] x r rfl z (hp.symm.subset hz) ?_
      rw [List.append_nil]; exact hz2
    · have := hp.erase x
      rwa [List.erase_cons_head] at this
    · have := hf (x :: p) y s (by rw [e]; rfl)
      rw [List.append_assoc, List.singleton_append]; exact this
    · refine hl (x :: p) y s (by rw [e]; rfl) z hz ?_
      rw [List.append_assoc, List.singleton_append] at hz2; exact hz2
theorem Ord.is {es : List (Int × Int)} {l : List Int} (h : Ord es l) : ordF es = some l := by
  rw [ordF_nds, ordGo_iff es _ _ _ _ (nds_sorted es) rfl]
  refine ⟨l, rfl, VF.mk l [] _ ?_ h.nodup (fun p x s e => ?_) (fun p x s e z hz hf => ?_)⟩
  · exact (List.perm_ext_iff_of_nodup h.nodup ((nds_sorted es).imp (fun hab e => by omega))).2 fun x => by rw [h.mem, nds_mem]
  · rw [List.nil_append, freeAt_iff]; exact h.free p x s e
  · rw [List.nil_append, freeAt_iff] at hf; exact h.least p x s e z hz hf
/-! ### When there is one -/
def Ring (es : List (Int × Int)) : Prop := ∃ p ∈ es, Cms es p.2 p.1
theorem take_idx {l : List Int} {b : Int} : ∀ {i : Nat}, b ∈ l.take i → l.idxOf b < i := by
  induction l with
  | nil => intro i h; simp at h
  | cons x l ih =>
    intro i h
    cases i with
    | zero => simp at h
    | succ i =>
      rw [List.take_succ_cons] at h
      rw [List.idxOf_cons]
      by_cases hx : x = b
      · have : (x == b) = true := by simpa using hx
        rw [this]; simp
      · have : (x == b) = false := by simpa using hx
        rw [this]
        rcases List.mem_cons.1 h with h | h
        · exact absurd h.symm hx
        · have := ih h
          simp only [cond_false]; omega
theorem idx_split {l : List Int} {a : Int} (h : a ∈ l) : l = l.take (l.idxOf a) ++ a :: l.drop (l.idxOf a + 1) := by
  have hi := List.idxOf_lt_length_of_mem h
  conv => lhs; rw [← List.take_append_drop (l.idxOf a) l, List.drop_eq_getElem_cons hi, List.getElem_idxOf hi]
theorem Ord.edge {es : List (Int × Int)} {l : List Int} (h : Ord es l) {a b : Int} (hm : (a, b) ∈ es) : l.idxOf b < l.idxOf a :=
  take_idx (h.free _ a _ (idx_split ((h.mem a).2 ⟨_, hm, .inl rfl⟩)) b hm)
theorem Ord.comes {es : List (Int × Int)} {l : List Int} (h : Ord es l) {a b : Int} (hc : Cms es a b) : l.idxOf b ≤ l.idxOf a := by
  induction hc with
  | here => exact Nat.le_refl _
  | step _ hm ih => exact Nat.le_trans (Nat.le_of_lt (h.edge hm)) ih
theorem Ord.noRing {es : List (Int × Int)} {l : List Int} (h : Ord es l) : ¬ Ring es := by
  rintro ⟨⟨a, b⟩, hm, hc⟩
  have h1 := h.edge hm
  have h2 := h.comes hc
  simp only at h2
  omega
theorem filter_lt {p q : Int → Bool} {l : List Int} (h : ∀ z ∈ l, q z = true → p z = true) {x : Int} (hx : x ∈ l) (h1 : p x = true) (h2 : q x = false) : (l.filter q).length < (l.filter p).length := by
  have hle : ∀ l : List Int, (∀ z ∈ l, q z = true → p z = true) → (l.filter q).length ≤ (l.filter p).length := by
    intro l
    induction l with
    | nil => intro _; exact Nat.le_refl _
    | cons y l ih =>
      intro h
      have := ih fun z hz => h z (List.mem_cons_of_mem _ hz)
      rw [List.filter_cons, List.filter_cons]
      by_cases hq : q y = true
      · rw [if_pos hq, if_pos (h y List.mem_cons_self hq)]; simp only [List.length_cons]; omega
      · rw [if_neg hq]
        split
        · simp only [List.length_cons]; omega
        · exact this
  induction l with
  | nil => cases hx
  | cons y l ih =>
    have h' : ∀ z ∈ l, q z = true → p z = true := fun z hz => h z (List.mem_cons_of_mem _ hz)
    rw [List.filter_cons, List.filter_cons]
    rcases List.mem_cons.1 hx with rfl | hx
    · rw [if_neg (by rw [h2]; decide), if_pos h1]
      have := hle l h'
      simp only [List.length_cons]; omega
    · have := ih h' hx
      by_cases hq : q y = true
      · rw [if_pos hq, if_pos (h y List.mem_cons_self hq)]; simp only [List.length_cons]; omega
      · rw [if_neg hq]
        split
        · simp only [List.length_cons]; omega
        · exact this
theorem some_free {es : List (Int × Int)} {left out : List Int} (hr : ¬ Ring es) (hne : left ≠ []) (hc : ∀ x ∈ left, ∀ y, (x, y) ∈ es → y ∈ left ∨ y ∈ out) : ∃ x ∈ left, freeAt es out x = true := by
  refine Classical.byContradiction fun hno => ?_
  have hstep : ∀ x ∈ left, ∃ y ∈ left, (x, y) ∈ es := by
    intro x hx
    refine Classical.byContradiction fun hn => hno ⟨x, hx, freeAt_iff.2 fun y hy => ?_⟩
    rcases hc x hx y hy with h | h
    · exact absurd ⟨y, h, hy⟩ hn
    · exact h
  have key : ∀ n x, x ∈ left → (left.filter (comesB es x)).length = n → False := by
    intro n
    induction n using Nat.strongRecOn with
    | _ n ih =>
      intro x hx hn
      obtain ⟨y, hy, he⟩ := hstep x hx
      refine ih _ ?_ y hy rfl
      rw [← hn]
      refine filter_lt (fun z _ hz => ?_) hx ((comes_iff _ _ _).2 .here) ?_
      · rw [comes_iff] at hz ⊢; exact Cms.first he hz
      · cases hb : comesB es y x with
        | false => rfl
        | true => exact absurd ⟨(x, y), he, (comes_iff _ _ _).1 hb⟩ hr
  obtain ⟨x, hx⟩ := List.exists_mem_of_ne_nil _ hne
  exact key _ x hx rfl
theorem ordGo_some {es : List (Int × Int)} (hr : ¬ Ring es) : ∀ (n : Nat) (left out : List Int), left.length = n → left.Nodup → (∀ x ∈ left, ∀ y, (x, y) ∈ es → y ∈ left ∨ y ∈ out) → ∃ l, ordGo es n left out = some l := by
  intro n
  induction n with
  | zero =>
    intro left out hn _ _
    obtain rfl : left = [] := List.eq_nil_of_length_eq_zero hn
    exact ⟨out, rfl⟩
  | succ n ih =>
    intro left out hn hnd hc
    have hne : left ≠ [] := fun e => by rw [e] at hn; simp at hn
    obtain ⟨x0, hx0, hf0⟩ := some_free hr hne hc
    unfold ordGo
    rw [if_neg hne]
    cases hf : left.find? (freeAt es out) with
    | none => exact absurd hf0 (List.find?_eq_none.1 hf x0 hx0)
    | some x =>
      have hx := List.mem_of_find?_eq_some hf
      refine ih (left.erase x) (out ++ [x]) (erase_len hx hn) (hnd.sublist List.erase_sublist) fun z hz y hy => ?_
      rcases hc z (List.mem_of_mem_erase hz) y hy with h | h
      · by_cases hyx : y = x
        · subst hyx; exact .inr (List.mem_append_right _ (List.mem_singleton_self _))
        · exact .inl ((List.mem_erase_of_ne hyx).2 h)
      · exact .inr (List.mem_append_left _ h)
theorem ord_iff (es : List (Int × Int)) : (ordF es).isSome = true ↔ ¬ Ring es := by
  constructor
  · intro h
    obtain ⟨l, hl⟩ := Option.isSome_iff_exists.1 h
    exact (Ord.of hl).noRing
  · intro h
    obtain ⟨l, hl⟩ := ordGo_some h (nds es).length (nds es) [] rfl ((nds_sorted es).imp (fun hab e => by omega)) (fun x hx y hy => .inl (nds_mem.2 ⟨_, hy, .inr rfl⟩))
    rw [ordF_nds, hl]; rfl
theorem ordR_eq {l0 l1 : List Int} (h : l0.length = l1.length) : ordR l0 l1 = ordF (l0.zip l1) := if_pos h
end Go.Proofs.Ytjdholnlbhkmeaa.Sx
