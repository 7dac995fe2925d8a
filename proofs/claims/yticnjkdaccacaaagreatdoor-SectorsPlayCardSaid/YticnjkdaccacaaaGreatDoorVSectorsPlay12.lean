/- Texts of this work, one behind the other. -/
import Derived.Test.YticnjkdaccacaaaGreatDoorVSectorsPlay11
import Derived.IntWalk
import Derived.Test.YticnjkdaccacaaaGreatDoorRows
import Derived.Test.YticnjkdaccacaaaGreatDoorCards
import Derived.Test.YticnjkdaccacaaaGreatDoorTie
import Derived.WalkKit
import Derived.ProofKit
import Derived.OpenShut
import Derived.ShutString
import Derived.ChangeOld
import Derived.Below
import Derived.SizedLaws
import Derived.KernelRfl
import Derived.LaidMore
import Derived.Stop.Joined
import Derived.SevenTiedAt
section
/- The plain law of SectorsPlay: a disk and the document's one. -/
namespace Go.Proofs.YticnjkdaccacaaaGreatDoor.Pl
open Go Go.RowKit Sx Base Own Disk Bytes

/-! ### What is seen -/
theorem set_len {W : List (Int × List Int)} : ∀ {S : List (List Int)}, (W.foldl (fun s p => s.set p.1.toNat p.2) S).length = S.length := by
  induction W with
  | nil => intro S; rfl
  | cons p W ih => intro S; rw [List.foldl_cons, ih, List.length_set]
theorem seen_snoc (S : List (List Int)) (W : List (Int × List Int)) (p : Int × List Int) (i : Nat) : seenM (S, W ++ [p]) i = if p.1 = (i : Int) then p.2 else seenM (S, W) i := by
  unfold seenM
  simp only [List.reverse_append, List.reverse_cons, List.reverse_nil, List.nil_append, List.singleton_append, List.find?_cons]
  by_cases h : p.1 = (i : Int)
  · simp [h]
  · have : (p.1 == (i : Int)) = false := by simp [h]
    rw [this, if_neg h]
theorem rev_ind {α : Type} {P : List α → Prop} (h0 : P []) (h1 : ∀ l x, P l → P (l ++ [x])) (l : List α) : P l := by
  have key : ∀ r : List α, P r.reverse := fun r => by
    induction r with
    | nil => exact h0
    | cons x r ih => rw [List.reverse_cons]; exact h1 _ _ ih
  have := key l.reverse
  rwa [List.reverse_reverse] at this
theorem seen_all (S : List (List Int)) (W : List (Int × List Int)) (hw : ∀ p ∈ W, 0 ≤ p.1 ∧ p.1 < (S.length : Int)) (i : Nat) (hi : i < S.length) : (W.foldl (fun s p => s.set p.1.toNat p.2) S).getD i [] = seenM (S, W) i := by
  induction W using rev_ind with
  | h0 => rfl
  | h1 W p ih =>
    have ih := ih fun q hq => hw q (List.mem_append_left _ hq)
    have hp := hw p (List.mem_append_right _ (List.mem_singleton.2 rfl))
    rw [seen_snoc, List.foldl_append, ← ih]
    simp only [List.foldl_cons, List.foldl_nil]
    have hl : (W.foldl (fun s p => s.set p.1.toNat p.2) S).length = S.length := set_len
    rw [List.getD_eq_getElem?_getD, List.getElem?_set, List.getD_eq_getElem?_getD]
    by_cases h : p.1 = (i : Int)
    · rw [if_pos (by omega), if_pos (by omega), if_pos h]; rfl
    · rw [if_neg (by omega), if_neg h]
/-! ### Both together -/
structure Both (L : Nat) (D : Dk) (E : DM) : Prop where
  ok : D.ok
  s : E.1 = D.sure
  w : E.2 = D.waits
  ap : D.seen = D.waits.foldl (fun s p => s.set p.1.toNat p.2) D.sure
  len : D.waits.length ≤ L
section
variable {L : Nat} {D : Dk} {E : DM}
theorem Both.more {L' : Nat} (B : Both L D E) (h : L ≤ L') : Both L' D E := ⟨B.ok, B.s, B.w, B.ap, Nat.le_trans B.len h⟩
theorem Both.n (B : Both L D E) : E.1.length = D.seen.length := by rw [B.s]; exact B.ok.same
theorem Both.seen (B : Both L D E) {i : Nat} (hi : i < D.seen.length) : D.seen.getD i [] = seenM E i := by
  have h : E = (D.sure, D.waits) := by rw [← B.s, ← B.w]
  rw [h, ← seen_all D.sure D.waits (fun p hp => by have := B.ok.waits p hp; rw [B.ok.same]; exact this.2) i (by rw [B.ok.same]; exact hi), ← B.ap]
theorem Both.like (B : Both L D E) : likeOk D E = true := decide_eq_true ⟨B.n.symm, by rw [B.w], fun _ hi => B.seen hi⟩
theorem Both.p64 (B : Both L D E) {i : Nat} (hi : i < D.seen.length) : (seenM E i).length = 64 := by
  rw [← B.seen hi, List.getD_eq_getElem?_getD, List.getElem?_eq_getElem hi]
  exact (B.ok.seen _ (List.getElem_mem hi)).1
theorem Both.inr (B : Both L D E) : ∀ p ∈ E.2, 0 ≤ p.1 ∧ p.1 < (E.1.length : Int) := fun p hp => by
  rw [B.w] at hp
  rw [B.n]
  exact (B.ok.waits p hp).2
theorem code_is (x : Int) (b : List Int) (n : Nat) : writeCode n x b = wrE n x b := by
  unfold writeCode wrE mayOk
  by_cases h : x < 0 ∨ x ≥ (n : Int) ∨ 64 < b.length
  · rw [if_pos h]
    by_cases h2 : 0 ≤ x ∧ x < (n : Int)
    · rw [if_pos h2, if_pos (.inr (by omega))]
    · rw [if_neg h2, if_pos (.inl rfl)]
  · have h2 : 0 ≤ x ∧ x < (n : Int) := by omega
    rw [if_neg h, if_pos h2, if_neg (by omega)]
theorem both_write (B : Both L D E) (x : Int) (b : List Int) (hb : Bts b) : Both (L + 1) (D.writeR x b) (wrM E x b) := by
  unfold Dk.writeR wrM
  rw [code_is]
  unfold wrE
  rw [B.n]
  by_cases h : x < 0 ∨ x ≥ (D.seen.length : Int) ∨ 64 < b.length
  · rw [if_pos h, if_pos h, if_neg (by decide)]
    exact B.more (Nat.le_succ _)
  · rw [if_neg h, if_neg h, if_pos rfl]
    refine ⟨B.ok.write ⟨by omega, by omega⟩ (pad_pc (by omega) hb), B.s, ?_, ?_, ?_⟩
    · show E.2 ++ [(x, padL b)] = D.waits ++ [(x, pad b)]
      rw [B.w]; rfl
    · show D.seen.set x.toNat (pad b) = (D.waits ++ [(x, pad b)]).foldl _ D.sure
      rw [List.foldl_append, ← B.ap]
      rfl
    · show (D.waits ++ [(x, pad b)]).length ≤ L + 1
      rw [List.length_append]
      have := B.len
      simp only [List.length_singleton]
      omega
theorem both_sync (B : Both L D E) : Both L D.sync (syncM E) := by
  refine ⟨B.ok.sync, ?_, rfl, rfl, Nat.zero_le _⟩
  show E.2.foldl (fun s p => s.set p.1.toNat p.2) E.1 = D.seen
  rw [B.s, B.w, ← B.ap]
/-! ### What is left -/
theorem kept_no {keep : Int} (h : 0 ≤ keep ∧ keep ≤ 18446744073709551615) {i : Nat} (hi : 64 ≤ i) : kept keep i = false := by
  unfold kept
  rw [Nat.min_eq_right hi]
  have : keep / (2 : Int) ^ 64 = 0 := Int.ediv_eq_zero_of_lt h.1 (by have : (2 : Int) ^ 64 = 18446744073709551616 := by decide
                                                                     omega)
  rw [this]
  decide
theorem failK_stop {keep torn : Int} (h : 0 ≤ keep ∧ keep ≤ 18446744073709551615) (s : List (List Int)) (W : List (Int × List Int)) {i : Nat} (hi : 64 ≤ i) : ∀ d, failK keep torn s W (i + d) = failK keep torn s W i := by
  intro d
  induction d with
  | zero => rfl
  | succ d ih =>
    show failK keep torn s W ((i + d) + 1) = _
    conv => lhs; unfold failK
    cases W[i + d]? with
    | none => exact ih
    | some x =>
      show Disk.step keep torn (failK keep torn s W (i + d)) (i + d) x = _
      unfold Disk.step
      rw [kept_no h (by omega)]
      exact ih
theorem div_two {keep : Int} (h : 0 ≤ keep ∧ keep ≤ 18446744073709551615) (i : Nat) : IntKind.wrap .u64 (Int.tdiv (keep / (2 : Int) ^ i) 2) = keep / (2 : Int) ^ (i + 1) := by
  have hpos : (0 : Int) < 2 ^ i := Int.pow_pos (by decide)
  have h0 : 0 ≤ keep / (2 : Int) ^ i := Int.ediv_nonneg h.1 (by omega)
  have h1 : keep / (2 : Int) ^ i ≤ keep := Int.ediv_le_self _ h.1
  rw [Int.tdiv_eq_ediv_of_nonneg h0, Int.pow_succ, ← Int.ediv_ediv_of_nonneg (by omega)]
  rw [IntKind.wrap_u64]
  omega
theorem fail_is {keep torn : Int} (h : 0 ≤ keep ∧ keep ≤ 18446744073709551615) (s : List (List Int)) (W : List (Int × List Int)) : ∀ (d i : Nat), i + d = W.length → failQ torn i (keep / (2 : Int) ^ i) (failK keep torn s W i) (W.drop i) = failK keep torn s W W.length := by
  intro d
  induction d with
  | zero =>
    intro i hi
    have : i = W.length := by omega
    subst this
    rw [List.drop_of_length_le (Nat.le_refl _)]
    rfl
  | succ d ih =>
    intro i hi
    by_cases h64 : i < 64
    · have hlt : i < W.length := by omega
      rw [List.drop_eq_getElem_cons hlt]
      unfold failQ
      rw [if_pos h64, div_two h]
      have e : stepQ (keep / (2 : Int) ^ i) torn (failK keep torn s W i) i W[i] = failK keep torn s W (i + 1) := by
        conv => rhs; unfold failK
        rw [List.getElem?_eq_getElem hlt]
        show _ = Disk.step keep torn (failK keep torn s W i) i W[i]
        unfold stepQ Disk.step kept
        have hpos : (0 : Int) < 2 ^ i := Int.pow_pos (by decide)
        have h0 : 0 ≤ keep / (2 : Int) ^ i := Int.ediv_nonneg h.1 (by omega)
        rw [tm h0, Nat.min_eq_left (by omega)]
        by_cases hk : keep / (2 : Int) ^ i % 2 = 1
        · rw [if_pos hk, if_pos (decide_eq_true hk)]; rfl
        · rw [if_neg hk, if_neg (by simpa using hk)]
      rw [e]
      exact ih (i + 1) (by omega)
    · rw [failQ_end _ _ _ _ (.inr h64)]
      have := failK_stop (torn := torn) h s W (i := i) (by omega) (W.length - i)
      rw [show i + (W.length - i) = W.length by omega] at this
      exact this.symm
theorem both_fail (B : Both L D E) {keep torn : Int} (h : 0 ≤ keep ∧ keep ≤ 18446744073709551615) : Both L (D.fail keep torn) (failQ torn 0 keep E.1 E.2, []) := by
  refine ⟨B.ok.fail keep torn, ?_, rfl, rfl, Nat.zero_le _⟩
  have := fail_is (torn := torn) h D.sure D.waits D.waits.length 0 (by omega)
  rw [List.drop_zero] at this
  show failQ torn 0 keep E.1 E.2 = failK keep torn D.sure D.waits D.waits.length
  rw [B.s, B.w, ← this]
  simp [failK]
end
abbrev Ac := Int × Int × List Int × Int × Int × Unit
theorem great_l1 (l : List Ac) (hb : ∀ y ∈ l, y.2.2.1.length ≤ 140737488351232) : ∀ (d k i : Nat) (x : Int), i + d = l.length → d < k → i ≤ 30000 → 0 ≤ x ∧ (i : Int) ≤ x ∧ x ≤ 20000 → (∀ j (hj : j < l.length), j < i → l[j].2.2.1.length ≤ 20000) → ∃ r, great.l1 k l x i = some r ∧ (r = false → l.length ≤ 200 ∧ ∀ j (hj : j < l.length), l[j].2.2.1.length ≤ 20000) := by
  intro d
  induction d with
  | zero =>
    intro k i x hi hk hib hx ha
    obtain ⟨k, rfl⟩ : ∃ q, k = q + 1 := ⟨k - 1, by omega⟩
    rw [great.l1, iff_ (df (by omega)), lt_is rfl]
    refine ⟨_, rfl, fun hr => ⟨?_, fun j hj => ha j hj (by omega)⟩⟩
    have := of_decide_eq_false hr
    omega
  | succ d ih =>
    intro k i x hi hk hib hx ha
    obtain ⟨k, rfl⟩ : ∃ q, k = q + 1 := ⟨k - 1, by omega⟩
    have hlt : i < l.length := by omega
    have hg : l.getD (Int.toNat (i : Int)) default = l[i] := by rw [Int.toNat_natCast, List.getD_eq_getElem?_getD, List.getElem?_eq_getElem hlt]; rfl
    have hbi := hb l[i] (List.getElem_mem hlt)
    rw [great.l1, ift (dt (by omega)), if_pos ⟨by omega, by omega⟩, hg, lt_is rfl, w64 (x := x + 1) (by omega) (by omega), w64 (by omega) (by omega), lt_is rfl]
    by_cases h : x + 1 + (l[i].2.2.1.length : Int) > 20000
    · rw [ift (dt h)]
      exact ⟨true, rfl, fun e => by cases e⟩
    · rw [iff_ (df h), w64s (by omega)]
      refine ih k (i + 1) _ (by omega) (by omega) (by omega) ⟨by omega, by omega, by omega⟩ fun j hj hji => ?_
      by_cases hj2 : j = i
      · subst hj2; omega
      · exact ha j hj (by omega)
theorem play_j1 {kl1 : Int → List (List Int) × List (Int × List Int) → Dk → Int → Option Bool} {y : Ac} {i : Nat} {D : Dk} {E : DM} {b : Int} {L : Nat} (B : Both L D E) (hy : y.2.2.1.length ≤ 20000) (hb : b < 1000000) (hi : i ≤ 1000) :
    SectorsPlay.j1 kl1 y i E D b = kl1 (b + 1) E D ((i + 1 : Nat) : Int) := by
  unfold SectorsPlay.j1
  rw [lt_is rfl, iff_ (bne_no (by rw [B.w])), if_pos (by omega), if_pos ⟨by omega, by omega⟩, w64s (by omega)]
theorem play_l1 (l : List Ac) (hl : l.length ≤ 200) (hsm : ∀ j (hj : j < l.length), l[j].2.2.1.length ≤ 20000 ∧ Bts l[j].2.2.1 ∧ 0 ≤ l[j].2.2.2.1 ∧ l[j].2.2.2.1 ≤ 18446744073709551615) : ∀ (d k i : Nat) (b : Int) (D : Dk) (E : DM), i + d = l.length → d < k → 0 ≤ b ∧ b ≤ 2 * i → Both i D E → SectorsPlay.l1 k l b E D i = some true := by
  intro d
  induction d with
  | zero =>
    intro k i b D E hi hk hb B
    obtain ⟨k, rfl⟩ : ∃ q, k = q + 1 := ⟨k - 1, by omega⟩
    have := B.len
    rw [SectorsPlay.l1, iff_ (df (by omega)), if_pos ⟨B.like, by rw [B.w]; omega⟩]
  | succ d ih =>
    intro k i b D E hi hk hb B
    obtain ⟨k, rfl⟩ : ∃ q, k = q + 1 := ⟨k - 1, by omega⟩
    have hlt : i < l.length := by omega
    have hg : l.getD (Int.toNat (i : Int)) default = l[i] := by rw [Int.toNat_natCast, List.getD_eq_getElem?_getD, List.getElem?_eq_getElem hlt]; rfl
    obtain ⟨s1, s2, s3⟩ := hsm i hlt
    rw [SectorsPlay.l1, ift (dt (by omega)), if_pos ⟨by omega, by omega⟩, hg]
    generalize l[i] = y at s1 s2 s3
    have hlen := B.len
    have hmost := B.ok.most
    have hn := B.n
    have hE2 : E.2.length ≤ 1000000 := by rw [B.w]; omega
    have next : ∀ {D' : Dk} {E' : DM} (b' : Int), 0 ≤ b' ∧ b' ≤ 2 * i + 1 → Both (i + 1) D' E' → SectorsPlay.j1 (SectorsPlay.l1 k l) y i E' D' b' = some true := fun b' hb' B' => by
      rw [play_j1 B' s1 (by omega) (by omega)]
      exact ih k (i + 1) _ _ _ (by omega) (by omega) (by omega) B'
    have B1 := B.more (Nat.le_succ i)
    have gw : (if (List.length D.waits ≤ 1000000000 ∧ List.length y.2.2.1 ≤ 1000000000) then (lt (Dk.writeR D y.2.1 y.2.2.1) fun D31 => (if List.length E.2 ≤ 1000000 then (lt (wrE (List.length E.1) y.2.1 y.2.2.1) fun y32 => (lt (wrM E y.2.1 y.2.2.1) fun D33 => (if ((writeCode (List.length D.seen) y.2.1 y.2.2.1) != y32) = true then none else (SectorsPlay.j1 (SectorsPlay.l1 k l) y i D33 D31 b)))) else none)) else none) = some true := by
      rw [if_pos ⟨by omega, by omega⟩, lt_is rfl, if_pos hE2, lt_is rfl, lt_is rfl, iff_ (bne_no (by rw [code_is, hn]))]
      exact next b (by omega) (both_write B _ _ s2)
    have gs : (if (∀ p ∈ E.2, 0 ≤ p.1 ∧ p.1 < (List.length E.1 : Int)) ∧ List.length E.2 ≤ 1000000 ∧ List.length E.1 ≤ 1000000 then (lt (syncM E) fun D34 => (SectorsPlay.j1 (SectorsPlay.l1 k l) y i D34 (Dk.sync D) b)) else none) = some true := by
      rw [if_pos ⟨B.inr, hE2, by omega⟩, lt_is rfl]
      exact next b (by omega) ((both_sync B).more (Nat.le_succ _))
    have gr : (if (0 ≤ y.2.1 ∧ y.2.1 < (List.length D.seen : Int)) then (lt (List.getD D.seen (Int.toNat y.2.1) []) fun l35 => (if (0 ≤ y.2.1 ∧ y.2.1 < (List.length E.1 : Int)) then (if List.length E.2 ≤ 1000000 ∧ List.length E.1 ≤ 1000000 ∧ List.length (seenM E (Int.toNat y.2.1)) ≤ 1000000 then (lt (seenM E (Int.toNat y.2.1)) fun l38 => (if List.length l35 ≤ 1000000000 ∧ List.length l38 ≤ 1000000000 then (lt (decide (l35 = l38)) fun y41 => (if (!y41) = true then none else (if List.length l35 ≤ 100000000000 ∧ b < (1000000000 : Int) then (SectorsPlay.j1 (SectorsPlay.l1 k l) y i E D (b + 1)) else none))) else none)) else none) else none)) else (if (0 ≤ y.2.1 ∧ y.2.1 < (List.length E.1 : Int)) then none else (if List.length ([] : List Int) ≤ 1000000000 ∧ List.length ([] : List Int) ≤ 1000000000 then (lt (decide (([] : List Int) = ([] : List Int))) fun y45 => (if (!y45) = true then none else (if List.length ([] : List Int) ≤ 100000000000 ∧ b < (1000000000 : Int) then (SectorsPlay.j1 (SectorsPlay.l1 k l) y i E D (b + 1)) else none))) else none))) = some true := by
      by_cases h : 0 ≤ y.2.1 ∧ y.2.1 < (D.seen.length : Int)
      · have hsi : (Int.toNat y.2.1) < D.seen.length := by omega
        have h64 := B.p64 hsi
        rw [if_pos h, lt_is rfl, if_pos ⟨h.1, by omega⟩, if_pos ⟨hE2, by omega, by omega⟩, lt_is rfl, B.seen hsi, if_pos ⟨by omega, by omega⟩, lt_is rfl, iff_ (by simp), if_pos ⟨by omega, by omega⟩]
        exact next _ (by omega) B1
      · rw [if_neg h, if_neg (fun q => h ⟨q.1, by omega⟩), if_pos ⟨by simp, by simp⟩, lt_is rfl, iff_ (by simp), if_pos ⟨by simp, by omega⟩]
        exact next _ (by omega) B1
    have gf : (if ((-1 : Int) ≤ y.2.2.2.2.1) then (if List.length D.waits ≤ 1000000 then (lt (Dk.fail D y.2.2.2.1 y.2.2.2.2.1) fun D46 => (if ((-1 : Int) ≤ y.2.2.2.2.1) then (if (∀ p ∈ E.2, (0 ≤ p.1 ∧ p.1 < (List.length E.1 : Int)) ∧ List.length p.2 = 64) ∧ (∀ p ∈ E.1, List.length p = 64) ∧ List.length E.2 ≤ 1000000 ∧ List.length E.1 ≤ 1000000 then (lt ((failQ y.2.2.2.2.1 0 y.2.2.2.1 E.1 E.2, []) : List (List Int) × List (Int × List Int)) fun D48 => (if likeOk D46 D48 = true ∧ List.length D48.2 ≤ 1000000 then (if ((Int.tmod y.1 (6 : Int)) == (4 : Int)) = true then (SectorsPlay.j1 (SectorsPlay.l1 k l) y i D48 D46 b) else (SectorsPlay.j1 (SectorsPlay.l1 k l) y i E D b)) else none)) else none) else none)) else none) else (if ((-1 : Int) ≤ y.2.2.2.2.1) then none else (SectorsPlay.j1 (SectorsPlay.l1 k l) y i E D b))) = some true := by
      by_cases h : (-1 : Int) ≤ y.2.2.2.2.1
      · have Bf := both_fail B (torn := y.2.2.2.2.1) s3
        rw [if_pos h, if_pos (by omega), lt_is rfl, if_pos h, if_pos ⟨fun p hp => ⟨B.inr p hp, by rw [B.w] at hp; exact (B.ok.waits p hp).1.1⟩, fun p hp => by rw [B.s] at hp; exact (B.ok.sure p hp).1, hE2, by omega⟩, lt_is rfl, if_pos ⟨Bf.like, by simp⟩]
        rw [next b (by omega) (Bf.more (Nat.le_succ _)), next b (by omega) B1]
        simp only [ite_self]
      · rw [if_neg h, if_neg h]
        exact next b (by omega) B1
    rw [lt_is rfl, if_pos (by omega), gw, gs, gr, gf]
    simp only [ite_self]
theorem act_facts {y : Ac} (h : ∃ w cs, (Rdr.pair (Rdr.int .u8) (Rdr.pair (Rdr.int .i64) (Rdr.pair (Rdr.sl (Rdr.int .u8)) (Rdr.pair (Rdr.int .u64) (Rdr.pair (Rdr.int .i64) Rdr.unit))))).R w cs y) : Bts y.2.2.1 ∧ 0 ≤ y.2.2.2.1 ∧ y.2.2.2.1 ≤ 18446744073709551615 := by
  obtain ⟨w, cs, c1, d1, rfl, -, c2, d2, rfl, -, c3, d3, rfl, h3, c4, d4, rfl, h4, -⟩ := h
  obtain ⟨A, c, -, -, -, hr⟩ := h3
  obtain ⟨-, hv⟩ := h4
  exact ⟨(rk_of_row hr).bytes, wfu64 hv⟩
theorem SectorsPlay_pure (a0 : Int) (l1 : List (Int × Int × List (Int) × Int × Int × Unit)) (_v0 : (Lit.int .i64 a0).wf = true) (z1 : (Rdr.smL (Rdr.smP Rdr.smT (Rdr.smP Rdr.smT (Rdr.smP (Rdr.smL Rdr.smT) (Rdr.smP Rdr.smT (Rdr.smP Rdr.smT Rdr.smT)))))) l1) (v1 : ∀ x ∈ l1, ∃ w cs, (Rdr.pair (Rdr.int .u8) (Rdr.pair (Rdr.int .i64) (Rdr.pair (Rdr.sl (Rdr.int .u8)) (Rdr.pair (Rdr.int .u64) (Rdr.pair (Rdr.int .i64) Rdr.unit))))).R w cs x) : ∃ k, SectorsPlay.f k a0 l1 = some true := by
  refine ⟨l1.length + 1, ?_⟩
  obtain ⟨r, h1, h2⟩ : ∃ r, great.f (l1.length + 1) l1 = some r ∧ (r = false → l1.length ≤ 200 ∧ ∀ j (hj : j < l1.length), l1[j].2.2.1.length ≤ 20000) :=
    great_l1 l1 (fun y hy => (z1.2 y hy).2.2.1.1) l1.length (l1.length + 1) 0 0 (by omega) (by omega) (by omega) ⟨by omega, by omega, by omega⟩ fun j hj h => by omega
  unfold SectorsPlay.f
  rw [h1, Option.bind_some]
  cases r with
  | true => rw [if_pos rfl]
  | false =>
    obtain ⟨h3, h4⟩ := h2 rfl
    rw [if_neg (by decide)]
    by_cases ha : 1 ≤ a0 ∧ a0 ≤ 4096
    · rw [if_pos ha, if_pos ha, lt_is rfl]
      exact play_l1 l1 h3 (fun j hj => ⟨h4 j hj, act_facts (v1 _ (List.getElem_mem hj))⟩) l1.length (l1.length + 1) 0 0 _ _ (by omega) (by omega) (by omega) ⟨blank_ok _ (by omega) (by omega), rfl, rfl, rfl, Nat.zero_le _⟩
    · rw [if_neg ha, if_neg ha]
end Go.Proofs.YticnjkdaccacaaaGreatDoor.Pl
end
section
/- SectorsPlay walked: over its walk and its plain law. -/
namespace Go.Proofs.YticnjkdaccacaaaGreatDoor.Pl
open Go Go.RowKit Sx Base Own Disk Bytes

theorem SectorsPlay_law (a0 : Int) (A1 : Option Addr) (c1 : Nat) (l1 : List (Int × Int × List (Int) × Int × Int × Unit)) (W : World) (v0 : (Lit.int .i64 a0).wf = true) (hc1 : l1.length ≤ c1) (hm1 : c1 ≤ maxLen) (hr1 : Rdr.Row (Rdr.pair (Rdr.int .u8) (Rdr.pair (Rdr.int .i64) (Rdr.pair (Rdr.sl (Rdr.int .u8)) (Rdr.pair (Rdr.int .u64) (Rdr.pair (Rdr.int .i64) Rdr.unit))))) W A1 l1) (z1 : (Rdr.smL (Rdr.smP Rdr.smT (Rdr.smP Rdr.smT (Rdr.smP (Rdr.smL Rdr.smT) (Rdr.smP Rdr.smT (Rdr.smP Rdr.smT Rdr.smT)))))) l1) : Calls Tryz.prog 3 #[(.int .i64 a0), (.slice A1 l1.length c1)] W fun e w' => e = .returned (.bool true) ∧ Below W.heap.size W w' := by
  obtain ⟨k, hk⟩ := SectorsPlay_pure a0 l1 v0 z1 (fun x hx => ⟨W, rs_facts hr1 x hx⟩)
  exact (SectorsPlay.walk k a0 A1 c1 l1 v0 hr1 ⟨hc1, hm1⟩ (Sat.start W) hk).mono fun e w' ⟨h1, _, h3⟩ => ⟨h1, h3.below⟩
end Go.Proofs.YticnjkdaccacaaaGreatDoor.Pl
end
section
/- The row of SectorsPlay, over its walk. -/
namespace Go.Proofs.YticnjkdaccacaaaGreatDoor.sectorsPlay
open Go.ChangeShapes Go.WideShapes Go.ChangeAt Go.RowKit Base
open Go.ChangeMaps (open_string shut_string)
theorem own : ownKnob Tryz.prog.godebug = none := by kernel_rfl
theorem laidOut : laidOutB Tryz.prog = true := by kernel_rfl
def laidL : List (String × DataW Unit) := [("math/bits.deBruijn32tab", Rows.laid_math_bits_deBruijn32tab), ("math/bits.deBruijn64tab", Rows.laid_math_bits_deBruijn64tab), ("internal/strconv.uint64pow10", Rows.laid_internal_strconv_uint64pow10)]
set_option maxRecDepth 100000 in
theorem door_met (os : Os) (args : Array Value) : laidMetH Tryz.prog laidL ((World.doorLaid Tryz.prog 400 os).forCall (fun _ _ => 0) ⟨#[], args, []⟩).memory :=
  laidMetH_of_parts3 (fuel := 8) (laidMet_of_run' 8 (by kernel_rfl) (by kernel_rfl)) (by kernel_rfl) (by kernel_rfl)
set_option maxRecDepth 100000 in
theorem lifted (os : Os) (started : os.Started) (H : Type) (enc : TypeId × Value → H) :
    ReturnsInHanded {} Tryz.checked os 3 .any (fun w args => (Rows.sectorsPlaySpec.pre enc Tryz.prog Tryz.f3 [] false w args ∧ laidMetH Tryz.prog laidL w) ∧ sizedMet enc Tryz.prog Tryz.f3 (OpenSpec.ofChange Rows.sectorsPlaySpec) false w args) (Rows.sectorsPlaySpec.post enc Tryz.prog Tryz.f3 false true false false) := by
  refine returnsInHanded_of_change_and (C := Tryz.checked) (X := fun w _ => laidMetH Tryz.prog laidL w) (fun _ _ _ hh h => h.of_heap hh) own started (by kernel_rfl) Tryz.func3
    (ChangeSpec.witness_shaped (enc := enc) (C := Tryz.checked) (os := os) (X := fun w _ => laidMetH Tryz.prog laidL w) false (World.doorLaid Tryz.prog 400 os) #[.int .i64 0, .slice none 0 0] 8 rfl (World.shaped_of_RefB (by kernel_rfl) (by kernel_rfl)) (by kernel_rfl) (by kernel_rfl) (by kernel_rfl) (door_met os _)) ?_
  intro W base args ds gs before hval0 hW hcnd hsz0 _ _
  have hsz : (DataW.weightsEach Tryz.prog (Tryz.f3.params.toList ++ Rows.sectorsPlaySpec.plain.varTypes Tryz.prog) (ds ++ gs)).all (· ≤ reachBytes) = true := hsz0
  have hval : ∀ (j : Nat) t v, Tryz.f3.params[j]? = some t → args[j]? = some v → Value.okWide Tryz.prog W .any base t v := hval0
  have hW' := hW
  obtain ⟨p, q, hA0, hV, rfl, hfz, hnd⟩ := hW
  have hA : DataW.TrodAll enc Tryz.prog W 0 (fun _ => true) true Tryz.f3.params.toList args.toList ds p := hA0
  rw [Tryz.params3] at hA hval hsz
  obtain ⟨v0, vs0, d0, ds0, p0, q0, hargs, rfl, rfl, h0, r0⟩ := trodAll_cons hA
  obtain ⟨v1, vs1, d1, ds1, p1, q1, rfl, rfl, rfl, h1, r1⟩ := trodAll_cons r0
  obtain ⟨rfl, rfl, rfl⟩ := trodAll_nil r1
  obtain rfl : args = #[v0, v1] := by cases args; simp_all
  obtain ⟨rfl, rfl⟩ := trodVars_none hV
  obtain ⟨a0, rfl, rfl, rfl, w0⟩ := open_int Tryz.underlying3 (hval 0 3 v0 rfl rfl) h0
  obtain ⟨a1, len1, cap1, rfl⟩ := okWide_slice Tryz.underlying22 (hval 1 22 v1 rfl rfl)
  have k1 := h1
  have lt1 : ∀ x ∈ p1, x.block < W.heap.size := by obtain ⟨m, hm⟩ := k1; exact DataW.trod_lt m _ _ _ hm
  obtain ⟨l1, rfl, c1, m1, g1, z1⟩ := Rdr.ofS_slice_arg (r := (Rdr.pair (Rdr.int .u8) (Rdr.pair (Rdr.int .i64) (Rdr.pair (Rdr.sl (Rdr.int .u8)) (Rdr.pair (Rdr.int .u64) (Rdr.pair (Rdr.int .i64) Rdr.unit)))))) hsz (j := 1) (t := 22) rfl rfl (Rdr.ofS_sl Tryz.underlying22 (by kernel_rfl) (Rdr.ofS_st Tryz.underlying48 (by kernel_rfl) (Rdr.ofFS_cons rfl (Rdr.ofS (Rdr.of_int Tryz.underlying5 (by kernel_rfl))) (Rdr.ofFS_cons rfl (Rdr.ofS (Rdr.of_int Tryz.underlying3 (by kernel_rfl))) (Rdr.ofFS_cons rfl (Rdr.ofS_sl Tryz.underlying45 (by kernel_rfl) (Rdr.ofS (Rdr.of_int Tryz.underlying5 (by kernel_rfl))) (B := 1) (by kernel_rfl) (by decide)) (Rdr.ofFS_cons rfl (Rdr.ofS (Rdr.of_int Tryz.underlying46 (by kernel_rfl))) (Rdr.ofFS_cons rfl (Rdr.ofS (Rdr.of_int Tryz.underlying3 (by kernel_rfl))) (Rdr.ofFS_nil _))))))) (B := 56) (by kernel_rfl) (by decide)) h1
  clear hA0 hval0 hsz0 hsz
  refine (Pl.SectorsPlay_law a0 a1 cap1 l1 W w0 c1 m1 g1 z1).mono fun e W' ⟨he, bel⟩ => ?_
  subst he
  exact ⟨_, rfl, _, _, _, [], _, [], hW', trodAll_mk1 (shut_bool Tryz.underlying4 _), (trodAll_cons_mk (shut_int Tryz.underlying3 w0) (trodAll_cons_mk (Below.trod laidOut (by kernel_rfl) (of_decide_eq_true (by kernel_rfl)) k1 bel lt1) trodAll_mk0)), rfl, bel.frame _, fun h => by cases h⟩
theorem over : Rows.sectorsPlayRow.holds Tryz.pinned (OpenSpec.ofChange Rows.sectorsPlaySpec) :=
  OpenClaim.holds_of_wide 3 Tryz.f3 rfl rfl rfl rfl rfl rfl rfl ⟨rfl, rfl, rfl, rfl, rfl⟩ rfl rfl rfl rfl rfl (by kernel_rfl) Tryz.func3 (by kernel_rfl)
    (of_decide_eq_true (by kernel_rfl)) (by unfold Func.isWrapper; first | (rw [if_pos (by decide +kernel)]; kernel_rfl) | (rw [if_neg (by decide +kernel)]; exact ⟨rfl, rfl⟩))
    (fun os started H enc _ => lifted os started H enc)
theorem proved : Rows.SectorsPlaySaid := over
set_option maxRecDepth 100000 in
theorem card : Rows.SectorsPlayCardSaid :=
  Claim7.holds_tied_plain_at .later [] [.data, .data, .data] true (true, "8e1b67c097ab7e9fdbceefeba192b3f8650cecfb9c5951a071061954cdfc76dd") false
    over (fun _ h => by cases h) (by kernel_rfl) (fun _ h => by cases h) sectorsPlay_row_tie rfl ⟨rfl, rfl⟩ (by kernel_rfl) rfl
    (fun f fn hf hfn => by
      obtain rfl : f = 3 := Option.some.inj ((show Tryz.prog.funcNamed "concordat/concordatlaw04.SectorsPlay" = some 3 by kernel_rfl).symm.trans hf) |>.symm
      obtain rfl : fn = Tryz.f3 := (Option.some.inj (Tryz.func3.symm.trans hfn)).symm
      exact ⟨by kernel_rfl, fun j t ht => by
        rw [Tryz.params3] at ht
        have hm : t ∈ [3, 22] := by simpa using Array.mem_of_getElem? ht
        have hall : ([3, 22].all fun u => !Tryz.prog.wantsStandIn u) = true := by kernel_rfl
        exact (show Tryz.prog.wantsStandIn t = false by simpa using List.all_eq_true.1 hall t hm)⟩)
    (by kernel_rfl)
end Go.Proofs.YticnjkdaccacaaaGreatDoor.sectorsPlay
namespace Go.Proofs.YticnjkdaccacaaaGreatDoor
/-- The tied card, under a short name, for the claim. -/
theorem sectorsPlay_holds : Rows.SectorsPlayCardSaid := sectorsPlay.card
#print axioms sectorsPlay_holds
end Go.Proofs.YticnjkdaccacaaaGreatDoor
end
