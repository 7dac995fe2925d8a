/- The plain law of WallsOn. -/
import Derived.Test.YtmpkoacpakepfaaDWallsOn
import Derived.Test.YtmpkoacpakepfaaWq
import Derived.IntWalk
namespace Go.Proofs.Ytmpkoacpakepfaa.Pl
open Go Go.RowKit Sx Base Own Disk Bytes

theorem start_is (n : Nat) : recsD (Disk.blank n) = [] ∧ ((atD (Disk.blank n) : Nat) : Int) = ((lenS [] : Nat) : Int) ∧ Lg (openD (Disk.blank n)) n [] ∧ (openD (Disk.blank n)).waits = [] ∧ (openD (Disk.blank n)).sure = (openD (Disk.blank n)).seen := by
  have h := Lg.start n
  exact ⟨h.told, congrArg (fun k : Nat => (k : Int)) h.at, h.open_⟩
theorem add_wl {D : Dk} {x : Nat} {l : List Int} {D' : Dk} (h : D'.waits = D.waits ++ wl x (fsec l)) : D'.waits.length = D.waits.length + Frames.nsec l.length := by
  rw [h, List.length_append, wl_len, fsec_len]
theorem failK_0 (t : Int) (s : List (List Int)) (ws : List (Int × List Int)) : ∀ k, failK 0 t s ws k = s := by
  intro k
  induction k with
  | zero => rfl
  | succ k ih =>
    unfold failK
    split
    · exact ih
    · unfold Disk.step kept
      rw [Int.zero_ediv, if_neg (by decide)]; exact ih
theorem fail_0 (D : Dk) (t : Int) : (Dk.fail D 0 t).seen = D.sure ∧ (Dk.fail D 0 t).waits = [] := ⟨failK_0 _ _ _ _, rfl⟩
theorem alive_is : alive.f = some true := by
  obtain ⟨a1, a2, a3, a4, a5⟩ := start_is 4
  unfold alive.f
  simp only [show Int.toNat (4 : Int) = 4 from rfl, show Int.toNat (100 : Int) = 100 from rfl, show Int.toNat (57 : Int) = 57 from rfl, show Int.toNat (16385 : Int) = 16385 from rfl, show Int.toNat (0 : Int) = 0 from rfl, show Int.toNat (1 : Int) = 1 from rfl, show Int.toNat (2 : Int) = 2 from rfl]
  obtain ⟨D4, h4⟩ : ∃ D, openD (Disk.blank 4) = D := ⟨_, rfl⟩
  rw [h4] at a3 a4 a5
  rw [if_pos (by decide), lt_is a1, lt_is a2, lt_is h4, iff_ (by rfl), if_pos ⟨⟨by omega, by decide⟩, by rw [a4]; decide, by decide⟩]
  obtain ⟨b1, b2, b3, b4, b5⟩ := a3.addI (l := [97]) (by decide) (by decide)
  obtain ⟨D13, h13⟩ : ∃ D, addDI D4 (lenS [] : Nat) [97] = D := ⟨_, rfl⟩
  rw [h13] at b3 b4 b5
  have b6 := add_wl b5
  rw [lt_is b1, lt_is b2, lt_is h13, iff_ (by rfl), if_pos (by decide), if_pos ⟨⟨by omega, by decide⟩, by rw [b6, a4]; decide, by rw [List.length_replicate]; decide⟩]
  obtain ⟨c1, c2, c3, c4, c5⟩ := b3.addI (l := List.replicate 100 0) (by rw [List.length_replicate]; decide) (by rw [List.length_replicate]; decide)
  obtain ⟨D18, h18⟩ : ∃ D, addDI D13 (lenS ([] ++ [[97]]) : Nat) (List.replicate 100 0) = D := ⟨_, rfl⟩
  rw [h18] at c3 c4 c5
  have c6 := add_wl c5
  obtain ⟨L2, hL2⟩ : ∃ L2, L2 = ([] ++ [[97]] ++ [List.replicate 100 (0 : Int)] : List (List Int)) := ⟨_, rfl⟩
  have n2 : lenS L2 = 3 := by rw [hL2]; decide
  rw [← hL2] at c2 c3
  have w18 : D18.waits.length ≤ 100 := by rw [c6, b6, a4, List.length_replicate]; decide
  have r56 : roomF D18 (lenS L2 : Nat) 56 = true := by rw [c3.room, n2]; decide
  have r57 : roomF D18 (lenS L2 : Nat) 57 = false := by rw [c3.room, n2]; decide
  rw [lt_is c1, lt_is c2, lt_is h18, iff_ (by rfl), if_pos ⟨by omega, by omega⟩, lt_is r56, iff_ (by rfl), if_pos ⟨by omega, by omega⟩, lt_is r57, iff_ (by rfl), if_pos (by decide), if_pos ⟨⟨by omega, by omega⟩, by omega, by rw [List.length_replicate]; decide⟩]
  obtain ⟨d1, d2, d3⟩ := c3.fullI (l := List.replicate 57 0) (by rw [List.length_replicate]; decide) (by rw [List.length_replicate, n2]; decide)
  rw [lt_is d1, lt_is d2, lt_is d3, iff_ (by rfl), if_pos (by decide), if_pos ⟨⟨by omega, by omega⟩, by omega, by rw [List.length_replicate]; decide⟩]
  obtain ⟨e1, e2, e3⟩ := bigI D18 (lenS L2) (l := List.replicate 16385 0) (by rw [List.length_replicate]; decide)
  rw [lt_is e1, lt_is e2, lt_is e3, iff_ (by rfl)]
  obtain ⟨D31, h31⟩ : ∃ D, Dk.sync D18 = D := ⟨_, rfl⟩
  have f3 : Lg D31 4 L2 := by rw [← h31]; exact c3.sync
  have f4 : D31.waits.length = 0 := by rw [← h31]; rfl
  have f5 : D31.sure = D18.seen := by rw [← h31]; rfl
  rw [lt_is h31, if_pos ⟨⟨by omega, by omega⟩, by omega, by decide⟩]
  obtain ⟨g1, g2, g3, g4, g5⟩ := f3.addI (l := [98]) (by decide) (by rw [n2]; decide)
  obtain ⟨D37, h37⟩ : ∃ D, addDI D31 (lenS L2 : Nat) [98] = D := ⟨_, rfl⟩
  rw [h37] at g3 g4 g5
  have g6 := add_wl g5
  have g7 : Frames.nsec ([98] : List Int).length = 1 := rfl
  obtain ⟨q1, q2⟩ := fail_0 D37 (-1)
  obtain ⟨D39, h39⟩ : ∃ D, Dk.fail D37 0 (-1) = D := ⟨_, rfl⟩
  rw [h39] at q1 q2
  have k3 : Lg D39 4 L2 := c3.ofSeen (by rw [q1, g4, f5])
  rw [lt_is g1, lt_is g2, lt_is h37, iff_ (by rfl), if_pos ⟨by omega, by decide⟩, lt_is h39, if_pos (by rw [q2]; decide), lt_is k3.told, lt_is rfl, lt_is rfl, if_pos (by omega), lt_is g3.told, lt_is rfl, lt_is rfl]
  have s1 : (ByteArray.toList (strOfNums [97]) == ByteArray.toList str0) = true := by rw [ByteArray.toList_eq, ByteArray.toList_eq]; rfl
  have s2 : (ByteArray.toList (strOfNums [98]) == ByteArray.toList str1) = true := by rw [ByteArray.toList_eq, ByteArray.toList_eq]; rfl
  subst hL2
  have z0 : ([] ++ [[97]] ++ [List.replicate 100 (0 : Int)] : List (List Int)).getD 0 [] = [97] := rfl
  have z1 : ([] ++ [[97]] ++ [List.replicate 100 (0 : Int)] : List (List Int)).getD 1 [] = List.replicate 100 0 := rfl
  have z2 : ([] ++ [[97]] ++ [List.replicate 100 (0 : Int)] ++ [[98]] : List (List Int)).getD 2 [] = [98] := rfl
  have l2 : ([] ++ [[97]] ++ [List.replicate 100 (0 : Int)] : List (List Int)).length = 2 := rfl
  have l3 : ([] ++ [[97]] ++ [List.replicate 100 (0 : Int)] ++ [[98]] : List (List Int)).length = 3 := rfl
  rw [z0, z1, z2, l2, l3, s1, s2, List.length_replicate]
  rfl
theorem fail_nil {D : Dk} (h : D.waits = []) (a t : Int) : Dk.fail D a t = ⟨D.sure, D.sure, []⟩ := by
  unfold Dk.fail
  rw [h]; rfl
theorem at_i {ls : List (List Int)} {i : Nat} (h : i < ls.length) : ls.getD (Int.toNat (i : Int)) [] = ls[i] := by
  rw [Int.toNat_natCast, List.getD_eq_getElem?_getD, List.getElem?_eq_getElem h]; rfl
theorem need_i {n : Nat} (h : n ≤ 1000000000) : IntKind.wrap .i64 (Int.tdiv (IntKind.wrap .i64 (IntKind.wrap .i64 ((n : Int) + 8) + 63)) 64) = (Frames.nsec n : Nat) := by
  rw [w64 (x := (n : Int) + 8) (by omega) (by omega), w64 (x := (n : Int) + 8 + 63) (by omega) (by omega), Int.tdiv_eq_ediv_of_nonneg (by omega), w64 (by omega) (by omega)]
  unfold Frames.nsec
  omega
/-- A log to which a record is added that fits. -/
theorem take_add {ls : List (List Int)} {i : Nat} (h : i < ls.length) : ls.take i ++ [ls[i]] = ls.take (i + 1) := (List.take_succ_eq_append_getElem h).symm

theorem on_j1 (l0 : List (List Int)) (kl : Int → Dk → Int → Option Bool) (hs : l0.length + sumL l0 ≤ 10000) (hb : l0.length ≤ 30) {i : Nat} (hlt : i < l0.length) {D : Dk} (hg : Lg D 600 (l0.take i)) (hw : D.waits.length ≤ lenS (l0.take i))
    (h : ∀ D' : Dk, Lg D' 600 (l0.take (i + 1)) → D'.waits.length ≤ lenS (l0.take (i + 1)) → kl (lenS (l0.take (i + 1)) : Nat) D' ((i + 1 : Nat) : Int) = some true) : WallsOn.j1 kl i l0 (lenS (l0.take i) : Nat) D = some true := by
  have hL := lenS_le l0
  have hx := sum_mem (List.getElem_mem hlt)
  have ht := lenS_take l0 (i + 1)
  have ht0 := lenS_take l0 i
  have hta := take_add hlt
  have hln : lenS (l0.take i) + Frames.nsec (l0[i]).length = lenS (l0.take (i + 1)) := by rw [← hta, lenS_snoc]
  obtain ⟨b1, b2, b3, b4, b5⟩ := hg.addI (l := l0[i]) (by omega) (by omega)
  have b6 := add_wl b5
  rw [hta] at b2 b3
  unfold WallsOn.j1
  rw [at_i hlt, if_pos ⟨by omega, by omega⟩, if_pos ⟨⟨by omega, by omega⟩, by omega, by omega⟩, lt_is b1, lt_is b2, lt_is rfl, iff_ (by rfl), w64s (by omega)]
  exact h _ b3 (by omega)
theorem on_l1 (l0 : List (List Int)) (l1 : List Bool) (hs : l0.length + sumL l0 ≤ 10000) (hb : l0.length ≤ 30) :
    ∀ (d k i : Nat) (D : Dk), i + d = l0.length → d < k → Lg D 600 (l0.take i) → D.waits.length ≤ lenS (l0.take i) → WallsOn.l1 k l0 l1 (lenS (l0.take i) : Nat) D i = some true := by
  have hL := lenS_le l0
  have hsh : shortL l0 = true := short_of (n := 10000) (fun x hx => by have := sum_mem hx; omega) (by decide)
  intro d
  induction d with
  | zero =>
    intro k i D hi hk hg hw
    obtain ⟨k, rfl⟩ : ∃ q, k = q + 1 := ⟨k - 1, by omega⟩
    rw [List.take_of_length_le (by omega)] at hg hw ⊢
    unfold WallsOn.l1
    rw [iff_ (df (by omega)), if_pos (by omega), lt_is hg.told, lt_is rfl, lt_is rfl, if_pos ⟨by omega, hsh, hsh⟩, lt_is (dt rfl)]
  | succ d ih =>
    intro k i D hi hk hg hw
    obtain ⟨k, rfl⟩ : ∃ q, k = q + 1 := ⟨k - 1, by omega⟩
    have hlt : i < l0.length := by omega
    have ht0 := lenS_take l0 i
    have hst : shortL (l0.take i) = true := short_of (n := 10000) (fun x hx => by have := sum_mem (List.mem_of_mem_take hx); omega) (by decide)
    have hll : (l0.take i).length ≤ 1000000 := by rw [List.length_take]; omega
    have hj : ∀ D : Dk, Lg D 600 (l0.take i) → D.waits.length ≤ lenS (l0.take i) → WallsOn.j1 (WallsOn.l1 k l0 l1) i l0 (lenS (l0.take i) : Nat) D = some true := fun D hg hw =>
      on_j1 l0 _ hs hb hlt hg hw fun D' hg' hw' => ih k (i + 1) D' (by omega) (by omega) hg' hw'
    unfold WallsOn.l1
    rw [ift (dt (by omega))]
    by_cases h1 : i < l1.length
    · rw [ift (dt (by omega)), if_pos ⟨by omega, by omega⟩]
      cases ho : l1.getD (Int.toNat (i : Int)) false with
      | false => rw [iff_ rfl]; exact hj D hg hw
      | true =>
        obtain ⟨g1, g2, _⟩ := hg.open_
        rw [ift rfl, if_pos (by omega), lt_is hg.told, hg.at, lt_is rfl, lt_is rfl, if_pos ⟨by omega, by omega⟩, Int.toNat_natCast, if_pos ⟨hll, hst, hst⟩, lt_is (dt rfl), iff_ (by rfl)]
        exact hj _ g1 (by rw [g2]; exact Nat.zero_le _)
    · rw [iff_ (df (by omega))]
      exact hj D hg hw
theorem WallsOn_pure (l0 : List (List Int)) (l1 : List Bool) (hs0 : ∀ x ∈ l0, x.length ≤ 140737488351232) (v0 : ∀ x ∈ l0, ∀ z ∈ x, (Lit.int .u8 z).wf = true) (hc1 : l1.length ≤ maxLen) : ∃ k, WallsOn.f k l0 l1 = some true := by
  refine ⟨100, ?_⟩
  obtain ⟨s1, s2, s3, s4, s5⟩ := start_is 600
  unfold WallsOn.f
  simp only [show Int.toNat (600 : Int) = 600 from rfl]
  rw [alive_is, Option.bind_some, iff_ (by rfl)]
  by_cases hb : l0.length ≤ 30
  · rw [iff_ (df (by omega)), lt_is rfl]
    by_cases hr : recSize l0 > 10000
    · rw [ift (dt hr), Option.bind_some]
    · have hsz := recSize_le (by decide) hr
      rw [iff_ (df hr)]
      by_cases h1 : l1.length ≤ 100
      · rw [iff_ (df (by omega)), if_pos (by decide), lt_is s1, lt_is s2, lt_is rfl]
        exact on_l1 l0 l1 (by omega) hb l0.length 100 0 (openD (Disk.blank 600)) (by omega) (by omega) s3 (by rw [s4]; exact Nat.zero_le _)
      · rw [ift (dt (by omega)), Option.bind_some]
  · rw [ift (dt (by omega)), Option.bind_some]
end Go.Proofs.Ytmpkoacpakepfaa.Pl
