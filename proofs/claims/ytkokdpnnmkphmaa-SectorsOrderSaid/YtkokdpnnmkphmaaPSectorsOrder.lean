/- The plain law of SectorsOrder. -/
import Derived.Test.YtkokdpnnmkphmaaDSectorsOrder
import Derived.Test.YtkokdpnnmkphmaaPh04
namespace Go.Proofs.Ytkokdpnnmkphmaa.Pl
open Go Go.RowKit Sx Base Own Disk Bytes

def inA (o : List Int) (a : Nat) : Bool := decide ((a : Int) ∈ o)
theorem order_l3 (l5 : List Bool) (o : List Int) (D35 D22 D21 : Dk) (h5 : l5.length = 16) (h : ∀ a, a < 16 → l5.getD a false = inA o a) (n1 : D35.seen.length = 16) (n2 : D22.seen.length = 16) (n3 : D21.seen.length = 16)
    (g1 : ∀ a, a < 16 → (D35.seen.getD a []).getD 0 0 = if inA o a = true then 1 + (a : Int) else 0) (g2 : ∀ a, a < 16 → (D22.seen.getD a []).getD 0 0 = if inA o a = true then 1 + (a : Int) else 0) (g3 : ∀ a, a < 16 → (D21.seen.getD a []).getD 0 0 = if inA o a = true then 1 + (a : Int) else 0) :
    ∀ (d k a : Nat), a + d = 16 → d < k → SectorsOrder.l3 k l5 D35 D22 D21 (a : Int) = some true := by
  intro d
  induction d with
  | zero =>
    intro k a ha hk
    obtain ⟨k, rfl⟩ : ∃ m, k = m + 1 := ⟨k - 1, by omega⟩
    rw [SectorsOrder.l3, iff_ (df (by omega))]
  | succ d ih =>
    intro k a ha hk
    obtain ⟨k, rfl⟩ : ∃ m, k = m + 1 := ⟨k - 1, by omega⟩
    have hj : ∀ y, y = (if inA o a = true then 1 + (a : Int) else 0) → SectorsOrder.j2 (SectorsOrder.l3 k l5 D35 D22 D21) a D35 D22 D21 y = some true := by
      intro y hy
      unfold SectorsOrder.j2
      rw [Int.toNat_natCast, if_pos (by omega), g1 a (by omega), hy, iff_ (bne_no rfl), if_pos (by omega), g2 a (by omega), iff_ (bne_no rfl), if_pos (by omega), g3 a (by omega), iff_ (bne_no rfl), w64s (by omega)]
      exact ih k (a + 1) (by omega) (by omega)
    rw [SectorsOrder.l3, ift (dt (by omega)), if_pos (by omega), Int.toNat_natCast, h a (by omega)]
    by_cases hi : inA o a = true
    · rw [ift hi, lt_is rfl]
      refine hj _ ?_
      rw [if_pos hi, w64 (by omega) (by omega), wu8]; omega
    · rw [if_neg hi]
      exact hj _ (by rw [if_neg hi])
/-- What one disk shows when the elements that p lets in are written. -/
def Shows (D : Dk) (p : Nat → Prop) : Prop := D.ok ∧ D.seen.length = 16 ∧ ∀ a, a < 16 → (p a → D.seen.getD a [] = pad [1 + (a : Int)]) ∧ (¬ p a → D.seen.getD a [] = List.replicate 64 0)
theorem Shows.write {D : Dk} {p q : Nat → Prop} (h : Shows D p) {x : Nat} (hx : x < 16) (hq : ∀ a, q a ↔ (p a ∨ a = x)) : Shows (D.write x (pad [1 + (x : Int)])) q := by
  obtain ⟨h1, h2, h3⟩ := h
  refine ⟨h1.write (by omega) (pad_pc (by simp) (by intro z hz; simp only [List.mem_cons, List.not_mem_nil, or_false] at hz; subst hz; omega)), by rw [(write_seen D x _).1, List.length_set]; exact h2, fun a ha => ?_⟩
  rw [(write_seen D x _).1, Int.toNat_natCast, getD_set _ _ _ _ _ (by omega)]
  by_cases hax : x = a
  · subst hax
    rw [if_pos rfl]
    exact ⟨fun _ => rfl, fun hn => absurd ((hq x).2 (.inr rfl)) hn⟩
  · rw [if_neg hax]
    refine ⟨fun hq' => (h3 a ha).1 (((hq a).1 hq').resolve_right (fun e => hax e.symm)), fun hn => (h3 a ha).2 fun hp => hn ((hq a).2 (.inl hp))⟩
theorem Shows.first {D : Dk} {p : Nat → Prop} {o : List Int} (h : Shows D p) (hp : ∀ a, a < 16 → (p a ↔ inA o a = true)) : ∀ a, a < 16 → (D.seen.getD a []).getD 0 0 = if inA o a = true then 1 + (a : Int) else 0 := by
  intro a ha
  by_cases hi : inA o a = true
  · rw [if_pos hi, (h.2.2 a ha).1 ((hp a ha).2 hi), pad1]
  · rw [if_neg hi, (h.2.2 a ha).2 fun h' => hi ((hp a ha).1 h'), zeros0]
theorem kept16 {i : Nat} (hi : i < 16) : kept 65535 i = true := by
  have : ∀ i : Fin 16, kept 65535 i.val = true := by decide
  exact this ⟨i, hi⟩
theorem order_l2 (o : List Int) (fr : Nat) (l5 : List Bool) (ho : ∀ x ∈ o, 0 ≤ x ∧ x < 16) (hlen : o.length ≤ 16) (hfr : fr ≤ 255) (h5 : l5.length = 16) (h : ∀ a, a < 16 → l5.getD a false = inA o a) :
    ∀ (d k n : Nat) (D21 D22 : Dk), n + d = o.length → d + 17 < k → Shows D21 (fun a => ∃ j, j < n ∧ o.getD ((j + fr) % o.length) 0 = (a : Int)) → Shows D22 (fun a => (a : Int) ∈ o.take n) → D21.waits.length = n → D22.waits.length = n → Fresh D22 → SectorsOrder.l2 k o fr l5 D21 D22 (n : Int) = some true := by
  intro d
  induction d with
  | zero =>
    intro k n D21 D22 hn hk h1 h2 w1 w2 f2
    obtain ⟨k, rfl⟩ : ∃ m, k = m + 1 := ⟨k - 1, by omega⟩
    have hfa := fail_all h2.1 f2 65535 (fun i hi => kept16 (by omega))
    rw [SectorsOrder.l2, iff_ (df (by omega)), if_pos ⟨by omega, by decide⟩, lt_is rfl, w2, iff_ (bne_no (by omega))]
    have e2 : ∀ a : Nat, a < 16 → ((a : Int) ∈ o.take n ↔ inA o a = true) := fun a _ => by rw [List.take_of_length_le (by omega)]; simp [inA]
    refine order_l3 l5 o _ D22 D21 h5 h (by rw [hfa]; exact h2.2.1) h2.2.1 h1.2.1 (by rw [hfa]; exact h2.first e2) (h2.first e2) (h1.first fun a ha => ?_) 16 k 0 (by omega) (by omega)
    constructor
    · rintro ⟨j, hj, e⟩
      have hm : (j + fr) % o.length < o.length := Nat.mod_lt _ (by omega)
      rw [List.getD_eq_getElem?_getD, List.getElem?_eq_getElem hm] at e
      have : (a : Int) ∈ o := by rw [← e]; exact List.getElem_mem hm
      simp [inA, this]
    · intro hi
      have hi : (a : Int) ∈ o := by simpa [inA] using hi
      obtain ⟨i, hil, e⟩ := List.getElem_of_mem hi
      have hpos : 0 < o.length := by omega
      refine ⟨(i + (o.length - fr % o.length)) % o.length, by have := Nat.mod_lt (i + (o.length - fr % o.length)) hpos; omega, ?_⟩
      have hfm := Nat.mod_lt fr hpos
      have e3 : ((i + (o.length - fr % o.length)) % o.length + fr) % o.length = i := by
        rw [Nat.mod_add_mod]
        have h4 := Nat.div_add_mod fr o.length
        have e4 : i + (o.length - fr % o.length) + fr = i + o.length * (fr / o.length + 1) := by
          rw [Nat.mul_add, Nat.mul_one]; omega
        rw [e4, Nat.add_mul_mod_self_left, Nat.mod_eq_of_lt hil]
      rw [e3, List.getD_eq_getElem?_getD, List.getElem?_eq_getElem hil]; exact e
  | succ d ih =>
    intro k n D21 D22 hn hk h1 h2 w1 w2 f2
    obtain ⟨k, rfl⟩ : ∃ m, k = m + 1 := ⟨k - 1, by omega⟩
    have hpos : 0 < o.length := by omega
    have hm : (n + fr) % o.length < o.length := Nat.mod_lt _ hpos
    have e1 : Int.tmod (IntKind.wrap .i64 ((n : Int) + IntKind.wrap .i64 (fr : Int))) (o.length : Int) = (((n + fr) % o.length : Nat) : Int) := by
      rw [w64 (x := (fr : Int)) (by omega) (by omega), w64 (by omega) (by omega), tm (by omega)]
      rw [show (n : Int) + (fr : Int) = ((n + fr : Nat) : Int) by omega]; exact (Int.natCast_emod _ _).symm
    have g : ∀ {i : Nat}, i < o.length → ∃ x : Nat, o.getD i 0 = (x : Int) ∧ x < 16 := fun {i} hi => by
      have hmem : o.getD i 0 ∈ o := by rw [List.getD_eq_getElem?_getD, List.getElem?_eq_getElem hi]; exact List.getElem_mem hi
      have := ho _ hmem
      exact ⟨(o.getD i 0).toNat, by omega, by omega⟩
    obtain ⟨y, hy, hy16⟩ := g hm
    obtain ⟨x, hx, hx16⟩ := g (show n < o.length by omega)
    rw [SectorsOrder.l2, ift (dt (by omega)), if_pos (by omega), e1, if_pos (by omega), Int.toNat_natCast, hy, lt_is rfl, if_pos (by omega), Int.toNat_natCast, hx, if_pos (by omega)]
    have ey : ∀ z : Nat, z < 16 → IntKind.wrap .u8 (IntKind.wrap .i64 ((1 : Int) + (z : Int))) = 1 + (z : Int) := fun z hz => by rw [w64 (by omega) (by omega), wu8]; omega
    rw [ey x hx16, ey y hy16]
    obtain ⟨a1, a2⟩ := wr_ok (D := D22) (x := x) (b := [1 + (x : Int)]) (by omega) (by rw [h2.2.1]; omega) (by simp)
    obtain ⟨b1, b2⟩ := wr_ok (D := D21) (x := y) (b := [1 + (y : Int)]) (by omega) (by rw [h1.2.1]; omega) (by simp)
    rw [if_pos ⟨by omega, by simp⟩, a1, a2, lt_is rfl, iff_ (by decide), if_pos ⟨by omega, by simp⟩, b1, b2, lt_is rfl, iff_ (by decide), w64s (by omega)]
    refine ih k (n + 1) _ _ (by omega) (by omega) (h1.write hy16 fun a => ?_) (h2.write hx16 fun a => ?_) (by rw [(write_seen D21 y _).2.1]; omega) (by rw [(write_seen D22 x _).2.1]; omega) (f2.write _ _)
    · constructor
      · rintro ⟨j, hj, e⟩
        by_cases hjn : j = n
        · subst hjn; rw [hy] at e; exact .inr (by omega)
        · exact .inl ⟨j, by omega, e⟩
      · rintro (⟨j, hj, e⟩ | rfl)
        · exact ⟨j, by omega, e⟩
        · exact ⟨n, by omega, hy⟩
    · rw [List.take_succ_eq_append_getElem (by omega)]
      have : o[n]'(by omega) = (x : Int) := by rw [← hx, List.getD_eq_getElem?_getD, List.getElem?_eq_getElem (by omega)]; rfl
      rw [List.mem_append, this, List.mem_singleton]
      constructor
      · rintro (h | h)
        · exact .inl h
        · exact .inr (by omega)
      · rintro (h | h)
        · exact .inl h
        · exact .inr (by omega)
theorem count16 (o : List Int) (ho : ∀ x ∈ o, 0 ≤ x ∧ x < 16) (hnd : o.Nodup) : o.length ≤ 16 := by
  have h1 : (o.map Int.toNat).Nodup := by
    unfold List.Nodup
    rw [List.pairwise_map]
    refine List.Pairwise.imp_of_mem (fun {x y} hx hy hne e => hne ?_) hnd
    have := ho x hx
    have := ho y hy
    omega
  have h2 : (o.map Int.toNat) ⊆ List.range 16 := fun x hx => by
    obtain ⟨y, hy, rfl⟩ := List.mem_map.1 hx
    have := ho y hy
    rw [List.mem_range]; omega
  have := List.Nodup.length_le_of_subset h1 h2
  simpa using this
theorem order_l1 (l0 : List Int) (fr : Nat) (hl : l0.length ≤ 100) (hfr : fr ≤ 255) (v0 : ∀ n ∈ l0, (Lit.int .u8 n).wf = true) :
    ∀ (d k n : Nat) (o : List Int) (l5 : List Bool), n + d = l0.length → d + 40 < k → (∀ x ∈ o, 0 ≤ x ∧ x < 16) → o.Nodup → l5.length = 16 → (∀ a, a < 16 → l5.getD a false = inA o a) → SectorsOrder.l1 k l0 fr o l5 (n : Int) = some true := by
  intro d
  induction d with
  | zero =>
    intro k n o l5 hn hk ho hnd h5 h
    obtain ⟨k, rfl⟩ : ∃ m, k = m + 1 := ⟨k - 1, by omega⟩
    have hc := count16 o ho hnd
    rw [SectorsOrder.l1, iff_ (df (by omega))]
    have hb : ∀ p : Nat → Prop, (∀ a, ¬ p a) → Shows (Disk.blank (Int.toNat 16)) p := fun p hp => ⟨blank_ok 16 (by decide) (by decide), (blank_len 16).1, fun a ha => ⟨fun h' => absurd h' (hp a), fun _ => blank_at ha⟩⟩
    exact order_l2 o fr l5 ho hc hfr h5 h o.length k 0 _ _ (by omega) (by omega) (hb _ fun a => by rintro ⟨j, hj, _⟩; omega) (hb _ fun a => by simp) rfl rfl (Fresh.blank 16)
  | succ d ih =>
    intro k n o l5 hn hk ho hnd h5 h
    obtain ⟨k, rfl⟩ : ∃ m, k = m + 1 := ⟨k - 1, by omega⟩
    have hy := wf8 v0 (i := n) (by omega)
    have hc := count16 o ho hnd
    rw [SectorsOrder.l1, ift (dt (by omega)), if_pos (by omega), Int.toNat_natCast, tm (by omega)]
    obtain ⟨x, hx⟩ : ∃ x : Nat, l0.getD n 0 % 16 = (x : Int) := ⟨(l0.getD n 0 % 16).toNat, by omega⟩
    have hx16 : x < 16 := by omega
    rw [hx, if_pos (by omega), Int.toNat_natCast, h x hx16]
    have hj : ∀ o', (∀ x ∈ o', 0 ≤ x ∧ x < 16) → o'.Nodup → (∀ a, a < 16 → (l5.set x true).getD a false = inA o' a) → SectorsOrder.j1 (SectorsOrder.l1 k l0 fr) n l0 l5 o' = some true := by
      intro o' g1 g2 g3
      unfold SectorsOrder.j1
      rw [if_pos (by omega), Int.toNat_natCast, tm (by omega), hx, if_pos (by omega), Int.toNat_natCast, w64s (by omega)]
      exact ih k (n + 1) o' _ (by omega) (by omega) g1 g2 (by rw [List.length_set]; exact h5) g3
    by_cases hi : inA o x = true
    · rw [iff_ (by rw [hi]; rfl)]
      refine hj o ho hnd fun a ha => ?_
      rw [getD_set _ _ _ _ _ (by omega)]
      by_cases e : x = a
      · subst e; rw [if_pos rfl, hi]
      · rw [if_neg e]; exact h a ha
    · have hi' : inA o x = false := by simpa using hi
      have hni : ¬ (x : Int) ∈ o := by simpa [inA] using hi
      rw [ift (by rw [hi']; rfl), if_pos (by omega), w64 (by omega) (by omega)]
      have hl1 : ([(x : Int)] : List Int).length = 1 := rfl
      rw [hl1, if_pos (by omega)]
      refine hj _ (fun z hz => ?_) ?_ fun a ha => ?_
      · rcases List.mem_append.1 hz with hz | hz
        · exact ho z hz
        · rw [List.mem_singleton] at hz; omega
      · rw [List.nodup_append]
        refine ⟨hnd, by simp, fun a ha b hb => ?_⟩
        rw [List.mem_singleton] at hb
        subst hb
        intro e; subst e; exact hni ha
      · rw [getD_set _ _ _ _ _ (by omega)]
        by_cases e : x = a
        · subst e; rw [if_pos rfl]; simp [inA]
        · rw [if_neg e, h a ha]
          unfold inA
          have : ((a : Int) ∈ o ++ [(x : Int)]) ↔ (a : Int) ∈ o := by
            rw [List.mem_append, List.mem_singleton]
            exact ⟨fun h => h.resolve_right (by omega), .inl⟩
          simp only [this]
theorem SectorsOrder_pure (l0 : List Int) (a1 : Int) (hy0 : l0.length ≤ 140737488351232) (v0 : ∀ n ∈ l0, (Lit.int .u8 n).wf = true) (v1 : (Lit.int .u8 a1).wf = true) : ∃ k, SectorsOrder.f k l0 a1 = some true := by
  refine ⟨300, ?_⟩
  unfold SectorsOrder.f
  have h1 := wfu8 v1
  by_cases hl : l0.length > 100
  · rw [ift (dt (by omega))]
  rw [iff_ (df (by omega))]
  obtain ⟨fr, rfl⟩ : ∃ fr : Nat, a1 = fr := ⟨a1.toNat, by omega⟩
  exact order_l1 l0 fr (by omega) (by omega) v0 l0.length 300 0 [] _ (by omega) (by omega) (fun x hx => by cases hx) List.nodup_nil (by simp) (fun a ha => by
    simp only [inA, List.getD_eq_getElem?_getD, List.getElem?_replicate, ha, if_true, Option.getD_some]; simp)
end Go.Proofs.Ytkokdpnnmkphmaa.Pl
