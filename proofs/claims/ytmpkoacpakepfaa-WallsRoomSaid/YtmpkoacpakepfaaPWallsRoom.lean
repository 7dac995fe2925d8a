/- The plain law of WallsRoom. -/
import Derived.Test.YtmpkoacpakepfaaDWallsRoom
import Derived.Test.YtmpkoacpakepfaaWq
import Derived.IntWalk
namespace Go.Proofs.Ytmpkoacpakepfaa.Pl
open Go Go.RowKit Sx Base Own Disk Bytes

theorem start_is (n : Nat) : recsD (Disk.blank n) = [] ∧ ((atD (Disk.blank n) : Nat) : Int) = ((lenS [] : Nat) : Int) ∧ Lg (openD (Disk.blank n)) n [] ∧ (openD (Disk.blank n)).waits = [] ∧ (openD (Disk.blank n)).sure = (openD (Disk.blank n)).seen := by
  have h := Lg.start n
  exact ⟨h.told, congrArg (fun k : Nat => (k : Int)) h.at, h.open_⟩
theorem add_wl {D : Dk} {x : Nat} {l : List Int} {D' : Dk} (h : D'.waits = D.waits ++ wl x (fsec l)) : D'.waits.length = D.waits.length + Frames.nsec l.length := by
  rw [h, List.length_append, wl_len, fsec_len]
theorem failK_0 (t : Int) (s : List (List Int)) (ws : List (Int × List Int)) : ∀ k, failK 0 t s ws k = s := by
  intro k
  induction k with
  | zero => rfl
  | succ k ih =>
    unfold failK
    split
    · exact ih
    · unfold Disk.step kept
      rw [Int.zero_ediv, if_neg (by decide)]; exact ih
theorem fail_0 (D : Dk) (t : Int) : (Dk.fail D 0 t).seen = D.sure ∧ (Dk.fail D 0 t).waits = [] := ⟨failK_0 _ _ _ _, rfl⟩
theorem alive_is : alive.f = some true := by
  obtain ⟨a1, a2, a3, a4, a5⟩ := start_is 4
  unfold alive.f
  simp only [show Int.toNat (4 : Int) = 4 from rfl, show Int.toNat (100 : Int) = 100 from rfl, show Int.toNat (57 : Int) = 57 from rfl, show Int.toNat (16385 : Int) = 16385 from rfl, show Int.toNat (0 : Int) = 0 from rfl, show Int.toNat (1 : Int) = 1 from rfl, show Int.toNat (2 : Int) = 2 from rfl]
  obtain ⟨D4, h4⟩ : ∃ D, openD (Disk.blank 4) = D := ⟨_, rfl⟩
  rw [h4] at a3 a4 a5
  rw [if_pos (by decide), lt_is a1, lt_is a2, lt_is h4, iff_ (by rfl), if_pos ⟨⟨by omega, by decide⟩, by rw [a4]; decide, by decide⟩]
  obtain ⟨b1, b2, b3, b4, b5⟩ := a3.addI (l := [97]) (by decide) (by decide)
  obtain ⟨D13, h13⟩ : ∃ D, addDI D4 (lenS [] : Nat) [97] = D := ⟨_, rfl⟩
  rw [h13] at b3 b4 b5
  have b6 := add_wl b5
  rw [lt_is b1, lt_is b2, lt_is h13, iff_ (by rfl), if_pos (by decide), if_pos ⟨⟨by omega, by decide⟩, by rw [b6, a4]; decide, by rw [List.length_replicate]; decide⟩]
  obtain ⟨c1, c2, c3, c4, c5⟩ := b3.addI (l := List.replicate 100 0) (by rw [List.length_replicate]; decide) (by rw [List.length_replicate]; decide)
  obtain ⟨D18, h18⟩ : ∃ D, addDI D13 (lenS ([] ++ [[97]]) : Nat) (List.replicate 100 0) = D := ⟨_, rfl⟩
  rw [h18] at c3 c4 c5
  have c6 := add_wl c5
  obtain ⟨L2, hL2⟩ : ∃ L2, L2 = ([] ++ [[97]] ++ [List.replicate 100 (0 : Int)] : List (List Int)) := ⟨_, rfl⟩
  have n2 : lenS L2 = 3 := by rw [hL2]; decide
  rw [← hL2] at c2 c3
  have w18 : D18.waits.length ≤ 100 := by rw [c6, b6, a4, List.length_replicate]; decide
  have r56 : roomF D18 (lenS L2 : Nat) 56 = true := by rw [c3.room, n2]; decide
  have r57 : roomF D18 (lenS L2 : Nat) 57 = false := by rw [c3.room, n2]; decide
  rw [lt_is c1, lt_is c2, lt_is h18, iff_ (by rfl), if_pos ⟨by omega, by omega⟩, lt_is r56, iff_ (by rfl), if_pos ⟨by omega, by omega⟩, lt_is r57, iff_ (by rfl), if_pos (by decide), if_pos ⟨⟨by omega, by omega⟩, by omega, by rw [List.length_replicate]; decide⟩]
  obtain ⟨d1, d2, d3⟩ := c3.fullI (l := List.replicate 57 0) (by rw [List.length_replicate]; decide) (by rw [List.length_replicate, n2]; decide)
  rw [lt_is d1, lt_is d2, lt_is d3, iff_ (by rfl), if_pos (by decide), if_pos ⟨⟨by omega, by omega⟩, by omega, by rw [List.length_replicate]; decide⟩]
  obtain ⟨e1, e2, e3⟩ := bigI D18 (lenS L2) (l := List.replicate 16385 0) (by rw [List.length_replicate]; decide)
  rw [lt_is e1, lt_is e2, lt_is e3, iff_ (by rfl)]
  obtain ⟨D31, h31⟩ : ∃ D, Dk.sync D18 = D := ⟨_, rfl⟩
  have f3 : Lg D31 4 L2 := by rw [← h31]; exact c3.sync
  have f4 : D31.waits.length = 0 := by rw [← h31]; rfl
  have f5 : D31.sure = D18.seen := by rw [← h31]; rfl
  rw [lt_is h31, if_pos ⟨⟨by omega, by omega⟩, by omega, by decide⟩]
  obtain ⟨g1, g2, g3, g4, g5⟩ := f3.addI (l := [98]) (by decide) (by rw [n2]; decide)
  obtain ⟨D37, h37⟩ : ∃ D, addDI D31 (lenS L2 : Nat) [98] = D := ⟨_, rfl⟩
  rw [h37] at g3 g4 g5
  have g6 := add_wl g5
  have g7 : Frames.nsec ([98] : List Int).length = 1 := rfl
  obtain ⟨q1, q2⟩ := fail_0 D37 (-1)
  obtain ⟨D39, h39⟩ : ∃ D, Dk.fail D37 0 (-1) = D := ⟨_, rfl⟩
  rw [h39] at q1 q2
  have k3 : Lg D39 4 L2 := c3.ofSeen (by rw [q1, g4, f5])
  rw [lt_is g1, lt_is g2, lt_is h37, iff_ (by rfl), if_pos ⟨by omega, by decide⟩, lt_is h39, if_pos (by rw [q2]; decide), lt_is k3.told, lt_is rfl, lt_is rfl, if_pos (by omega), lt_is g3.told, lt_is rfl, lt_is rfl]
  have s1 : (ByteArray.toList (strOfNums [97]) == ByteArray.toList str0) = true := by rw [ByteArray.toList_eq, ByteArray.toList_eq]; rfl
  have s2 : (ByteArray.toList (strOfNums [98]) == ByteArray.toList str1) = true := by rw [ByteArray.toList_eq, ByteArray.toList_eq]; rfl
  subst hL2
  have z0 : ([] ++ [[97]] ++ [List.replicate 100 (0 : Int)] : List (List Int)).getD 0 [] = [97] := rfl
  have z1 : ([] ++ [[97]] ++ [List.replicate 100 (0 : Int)] : List (List Int)).getD 1 [] = List.replicate 100 0 := rfl
  have z2 : ([] ++ [[97]] ++ [List.replicate 100 (0 : Int)] ++ [[98]] : List (List Int)).getD 2 [] = [98] := rfl
  have l2 : ([] ++ [[97]] ++ [List.replicate 100 (0 : Int)] : List (List Int)).length = 2 := rfl
  have l3 : ([] ++ [[97]] ++ [List.replicate 100 (0 : Int)] ++ [[98]] : List (List Int)).length = 3 := rfl
  rw [z0, z1, z2, l2, l3, s1, s2, List.length_replicate]
  rfl
theorem fail_nil {D : Dk} (h : D.waits = []) (a t : Int) : Dk.fail D a t = ⟨D.sure, D.sure, []⟩ := by
  unfold Dk.fail
  rw [h]; rfl
theorem at_i {ls : List (List Int)} {i : Nat} (h : i < ls.length) : ls.getD (Int.toNat (i : Int)) [] = ls[i] := by
  rw [Int.toNat_natCast, List.getD_eq_getElem?_getD, List.getElem?_eq_getElem h]; rfl
theorem need_i {n : Nat} (h : n ≤ 1000000000) : IntKind.wrap .i64 (Int.tdiv (IntKind.wrap .i64 (IntKind.wrap .i64 ((n : Int) + 8) + 63)) 64) = (Frames.nsec n : Nat) := by
  rw [w64 (x := (n : Int) + 8) (by omega) (by omega), w64 (x := (n : Int) + 8 + 63) (by omega) (by omega), Int.tdiv_eq_ediv_of_nonneg (by omega), w64 (by omega) (by omega)]
  unfold Frames.nsec
  omega
/-- A log to which a record is added that fits. -/
theorem take_add {ls : List (List Int)} {i : Nat} (h : i < ls.length) : ls.take i ++ [ls[i]] = ls.take (i + 1) := (List.take_succ_eq_append_getElem h).symm

theorem room_l1 (n : Nat) (hn : n ≤ 100) (l1 : List Int) (hb : l1.length ≤ 60) (hv : ∀ i, i < l1.length → 0 ≤ l1.getD i 0 ∧ l1.getD i 0 ≤ 65535) :
    ∀ (d k i left : Nat) (D : Dk) (ls : List (List Int)), i + d = l1.length → d < k → Lg D n ls → D.waits.length ≤ lenS ls → left + lenS ls = n → WallsRoom.l1 k l1 (lenS ls : Nat) D left i = some true := by
  intro d
  induction d with
  | zero =>
    intro k i left D ls hi hk hg hw hl
    obtain ⟨k, rfl⟩ : ∃ q, k = q + 1 := ⟨k - 1, by omega⟩
    have x1 : IntKind.wrap .i64 ((left : Int) * 64) = (left : Int) * 64 := w64 (by omega) (by omega)
    have x2 : IntKind.wrap .i64 ((left : Int) * 64 - 8) = (left : Int) * 64 - 8 := w64 (by omega) (by omega)
    have x3 : IntKind.wrap .i64 ((left : Int) * 64 - 7) = (left : Int) * 64 - 7 := w64 (by omega) (by omega)
    have r0 : roomF D (lenS ls : Nat) 0 = decide ((left : Int) > 0) := by
      rw [hg.room]
      refine decide_eq_decide.2 ?_
      have : Frames.nsec (Int.toNat 0) = 1 := rfl
      omega
    have r1 : roomF D (lenS ls : Nat) (-1) = false := by rw [hg.room]; exact df (by omega)
    have r2 : roomF D (lenS ls : Nat) 16385 = false := by rw [hg.room]; exact df (by omega)
    have r3 : roomF D (lenS ls : Nat) ((left : Int) * 64 - 8) = decide ((left : Int) > 0) := by
      rw [hg.room]
      refine decide_eq_decide.2 ?_
      unfold Frames.nsec
      omega
    have r4 : roomF D (lenS ls : Nat) ((left : Int) * 64 - 7) = false := by
      rw [hg.room]
      refine df ?_
      unfold Frames.nsec
      omega
    unfold WallsRoom.l1
    rw [iff_ (df (by omega)), if_pos ⟨by omega, by omega⟩, lt_is r0, ift (by simp), if_pos ⟨by omega, by omega⟩, lt_is r1, ift (by rfl), if_pos ⟨by omega, by omega⟩, lt_is r2, ift (by rfl), x1, x2, x3, if_pos ⟨by omega, by omega⟩, lt_is r3, ift (by simp), if_pos ⟨by omega, by omega⟩, lt_is r4]
    rfl
  | succ d ih =>
    intro k i left D ls hi hk hg hw hl
    obtain ⟨k, rfl⟩ : ∃ q, k = q + 1 := ⟨k - 1, by omega⟩
    have hx := hv i (by omega)
    obtain ⟨q, hq, hq2⟩ : ∃ q : Nat, (l1.getD i 0) % 700 = q ∧ q < 700 := ⟨((l1.getD i 0) % 700).toNat, by omega, by omega⟩
    have e1 : Int.tmod (IntKind.wrap .i64 (l1.getD (Int.toNat (i : Int)) 0)) 700 = (q : Int) := by rw [Int.toNat_natCast, w64 (by omega) (by omega), tm (by omega)]; exact hq
    have hrl : (List.replicate q (0 : Int)).length = q := List.length_replicate
    unfold WallsRoom.l1
    rw [ift (dt (by omega)), if_pos ⟨by omega, by omega⟩, lt_is e1, lt_is (need_i (by omega)), if_pos ⟨by omega, by omega⟩]
    by_cases hf : lenS ls + Frames.nsec q ≤ n
    · have r : roomF D (lenS ls : Nat) (q : Int) = true := by rw [hg.room]; exact dt ⟨by omega, by omega, by rw [Int.toNat_natCast]; exact hf⟩
      obtain ⟨b1, b2, b3, b4, b5⟩ := hg.addI (l := List.replicate q 0) (by omega) (by rw [hrl]; exact hf)
      have b6 := add_wl b5
      have hln := lenS_snoc ls (List.replicate q 0)
      rw [hrl] at hln b6
      have hw1 : IntKind.wrap .i64 ((left : Int) - ((Frames.nsec q : Nat) : Int)) = ((left - Frames.nsec q : Nat) : Int) := by rw [w64 (by omega) (by omega)]; omega
      rw [lt_is r, if_pos ⟨by omega, by omega⟩, Int.toNat_natCast, if_pos ⟨⟨by omega, by omega⟩, by omega, by omega⟩, lt_is b1, lt_is b2, lt_is rfl, iff_ (by rw [dt (by omega)]; rfl), iff_ (by rfl), iff_ (by rfl)]
      unfold WallsRoom.j2
      rw [ift rfl, lt_is hw1]
      unfold WallsRoom.j1
      rw [w64s (by omega)]
      exact ih k (i + 1) _ _ _ (by omega) (by omega) b3 (by omega) (by omega)
    · have r : roomF D (lenS ls : Nat) (q : Int) = false := by rw [hg.room]; exact df (by rintro ⟨_, _, h⟩; rw [Int.toNat_natCast] at h; omega)
      obtain ⟨b1, b2, b3⟩ := hg.fullI (l := List.replicate q 0) (by omega) (by rw [hrl]; omega)
      rw [lt_is r, if_pos ⟨by omega, by omega⟩, Int.toNat_natCast, if_pos ⟨⟨by omega, by omega⟩, by omega, by omega⟩, lt_is b1, lt_is b2, lt_is b3, iff_ (by rw [df (by omega)]; rfl), iff_ (by rfl), ift (by rfl), iff_ (by rfl)]
      unfold WallsRoom.j2
      rw [iff_ rfl]
      unfold WallsRoom.j1
      rw [w64s (by omega)]
      exact ih k (i + 1) _ _ _ (by omega) (by omega) hg hw hl
theorem WallsRoom_pure (a0 : Int) (l1 : List Int) (v0 : (Lit.int .u8 a0).wf = true) (hy1 : l1.length ≤ 140737488351232) (v1 : ∀ n ∈ l1, (Lit.int .u16 n).wf = true) : ∃ k, WallsRoom.f k a0 l1 = some true := by
  refine ⟨100, ?_⟩
  have b0 := wfu8 v0
  unfold WallsRoom.f
  rw [alive_is, Option.bind_some, iff_ (by rfl)]
  by_cases hb : l1.length ≤ 60
  · obtain ⟨n, hn, hn2⟩ : ∃ n : Nat, 1 + a0 % 100 = n ∧ n ≤ 100 := ⟨(1 + a0 % 100).toNat, by omega, by omega⟩
    have e : IntKind.wrap .i64 (1 + Int.tmod (IntKind.wrap .i64 a0) 100) = (n : Int) := by rw [w64 (x := a0) (by omega) (by omega), tm (by omega), w64 (by omega) (by omega)]; exact hn
    obtain ⟨s1, s2, s3, s4, s5⟩ := start_is n
    rw [iff_ (df (by omega)), lt_is e, if_pos ⟨by omega, by omega⟩, Int.toNat_natCast, lt_is rfl, if_pos (by exact Nat.zero_le _), lt_is s1, lt_is s2, lt_is rfl]
    have h0 : lenS [] = 0 := rfl
    exact room_l1 n hn2 l1 hb (fun i hi => wf16 v1 hi) l1.length 100 0 n (openD (Disk.blank n)) [] (by omega) (by omega) s3 (by rw [s4]; exact Nat.zero_le _) (by omega)
  · rw [ift (dt (by omega)), Option.bind_some]
end Go.Proofs.Ytmpkoacpakepfaa.Pl
