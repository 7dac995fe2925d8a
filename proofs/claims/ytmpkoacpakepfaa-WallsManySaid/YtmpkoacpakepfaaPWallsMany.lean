/- The plain law of WallsMany. -/
import Derived.Test.YtmpkoacpakepfaaDWallsMany
import Derived.Test.YtmpkoacpakepfaaWq
import Derived.IntWalk
namespace Go.Proofs.Ytmpkoacpakepfaa.Pl
open Go Go.RowKit Sx Base Own Disk Bytes

theorem start_is (n : Nat) : recsD (Disk.blank n) = [] ∧ ((atD (Disk.blank n) : Nat) : Int) = ((lenS [] : Nat) : Int) ∧ Lg (openD (Disk.blank n)) n [] ∧ (openD (Disk.blank n)).waits = [] ∧ (openD (Disk.blank n)).sure = (openD (Disk.blank n)).seen := by
  have h := Lg.start n
  exact ⟨h.told, congrArg (fun k : Nat => (k : Int)) h.at, h.open_⟩
theorem add_wl {D : Dk} {x : Nat} {l : List Int} {D' : Dk} (h : D'.waits = D.waits ++ wl x (fsec l)) : D'.waits.length = D.waits.length + Frames.nsec l.length := by
  rw [h, List.length_append, wl_len, fsec_len]
theorem failK_0 (t : Int) (s : List (List Int)) (ws : List (Int × List Int)) : ∀ k, failK 0 t s ws k = s := by
  intro k
  induction k with
  | zero => rfl
  | succ k ih =>
    unfold failK
    split
    · exact ih
    · unfold Disk.step kept
      rw [Int.zero_ediv, if_neg (by decide)]; exact ih
theorem fail_0 (D : Dk) (t : Int) : (Dk.fail D 0 t).seen = D.sure ∧ (Dk.fail D 0 t).waits = [] := ⟨failK_0 _ _ _ _, rfl⟩
theorem alive_is : alive.f = some true := by
  obtain ⟨a1, a2, a3, a4, a5⟩ := start_is 4
  unfold alive.f
  simp only [show Int.toNat (4 : Int) = 4 from rfl, show Int.toNat (100 : Int) = 100 from rfl, show Int.toNat (57 : Int) = 57 from rfl, show Int.toNat (16385 : Int) = 16385 from rfl, show Int.toNat (0 : Int) = 0 from rfl, show Int.toNat (1 : Int) = 1 from rfl, show Int.toNat (2 : Int) = 2 from rfl]
  obtain ⟨D4, h4⟩ : ∃ D, openD (Disk.blank 4) = D := ⟨_, rfl⟩
  rw [h4] at a3 a4 a5
  rw [if_pos (by decide), lt_is a1, lt_is a2, lt_is h4, iff_ (by rfl), if_pos ⟨⟨by omega, by decide⟩, by rw [a4]; decide, by decide⟩]
  obtain ⟨b1, b2, b3, b4, b5⟩ := a3.addI (l := [97]) (by decide) (by decide)
  obtain ⟨D13, h13⟩ : ∃ D, addDI D4 (lenS [] : Nat) [97] = D := ⟨_, rfl⟩
  rw [h13] at b3 b4 b5
  have b6 := add_wl b5
  rw [lt_is b1, lt_is b2, lt_is h13, iff_ (by rfl), if_pos (by decide), if_pos ⟨⟨by omega, by decide⟩, by rw [b6, a4]; decide, by rw [List.length_replicate]; decide⟩]
  obtain ⟨c1, c2, c3, c4, c5⟩ := b3.addI (l := List.replicate 100 0) (by rw [List.length_replicate]; decide) (by rw [List.length_replicate]; decide)
  obtain ⟨D18, h18⟩ : ∃ D, addDI D13 (lenS ([] ++ [[97]]) : Nat) (List.replicate 100 0) = D := ⟨_, rfl⟩
  rw [h18] at c3 c4 c5
  have c6 := add_wl c5
  obtain ⟨L2, hL2⟩ : ∃ L2, L2 = ([] ++ [[97]] ++ [List.replicate 100 (0 : Int)] : List (List Int)) := ⟨_, rfl⟩
  have n2 : lenS L2 = 3 := by rw [hL2]; decide
  rw [← hL2] at c2 c3
  have w18 : D18.waits.length ≤ 100 := by rw [c6, b6, a4, List.length_replicate]; decide
  have r56 : roomF D18 (lenS L2 : Nat) 56 = true := by rw [c3.room, n2]; decide
  have r57 : roomF D18 (lenS L2 : Nat) 57 = false := by rw [c3.room, n2]; decide
  rw [lt_is c1, lt_is c2, lt_is h18, iff_ (by rfl), if_pos ⟨by omega, by omega⟩, lt_is r56, iff_ (by rfl), if_pos ⟨by omega, by omega⟩, lt_is r57, iff_ (by rfl), if_pos (by decide), if_pos ⟨⟨by omega, by omega⟩, by omega, by rw [List.length_replicate]; decide⟩]
  obtain ⟨d1, d2, d3⟩ := c3.fullI (l := List.replicate 57 0) (by rw [List.length_replicate]; decide) (by rw [List.length_replicate, n2]; decide)
  rw [lt_is d1, lt_is d2, lt_is d3, iff_ (by rfl), if_pos (by decide), if_pos ⟨⟨by omega, by omega⟩, by omega, by rw [List.length_replicate]; decide⟩]
  obtain ⟨e1, e2, e3⟩ := bigI D18 (lenS L2) (l := List.replicate 16385 0) (by rw [List.length_replicate]; decide)
  rw [lt_is e1, lt_is e2, lt_is e3, iff_ (by rfl)]
  obtain ⟨D31, h31⟩ : ∃ D, Dk.sync D18 = D := ⟨_, rfl⟩
  have f3 : Lg D31 4 L2 := by rw [← h31]; exact c3.sync
  have f4 : D31.waits.length = 0 := by rw [← h31]; rfl
  have f5 : D31.sure = D18.seen := by rw [← h31]; rfl
  rw [lt_is h31, if_pos ⟨⟨by omega, by omega⟩, by omega, by decide⟩]
  obtain ⟨g1, g2, g3, g4, g5⟩ := f3.addI (l := [98]) (by decide) (by rw [n2]; decide)
  obtain ⟨D37, h37⟩ : ∃ D, addDI D31 (lenS L2 : Nat) [98] = D := ⟨_, rfl⟩
  rw [h37] at g3 g4 g5
  have g6 := add_wl g5
  have g7 : Frames.nsec ([98] : List Int).length = 1 := rfl
  obtain ⟨q1, q2⟩ := fail_0 D37 (-1)
  obtain ⟨D39, h39⟩ : ∃ D, Dk.fail D37 0 (-1) = D := ⟨_, rfl⟩
  rw [h39] at q1 q2
  have k3 : Lg D39 4 L2 := c3.ofSeen (by rw [q1, g4, f5])
  rw [lt_is g1, lt_is g2, lt_is h37, iff_ (by rfl), if_pos ⟨by omega, by decide⟩, lt_is h39, if_pos (by rw [q2]; decide), lt_is k3.told, lt_is rfl, lt_is rfl, if_pos (by omega), lt_is g3.told, lt_is rfl, lt_is rfl]
  have s1 : (ByteArray.toList (strOfNums [97]) == ByteArray.toList str0) = true := by rw [ByteArray.toList_eq, ByteArray.toList_eq]; rfl
  have s2 : (ByteArray.toList (strOfNums [98]) == ByteArray.toList str1) = true := by rw [ByteArray.toList_eq, ByteArray.toList_eq]; rfl
  subst hL2
  have z0 : ([] ++ [[97]] ++ [List.replicate 100 (0 : Int)] : List (List Int)).getD 0 [] = [97] := rfl
  have z1 : ([] ++ [[97]] ++ [List.replicate 100 (0 : Int)] : List (List Int)).getD 1 [] = List.replicate 100 0 := rfl
  have z2 : ([] ++ [[97]] ++ [List.replicate 100 (0 : Int)] ++ [[98]] : List (List Int)).getD 2 [] = [98] := rfl
  have l2 : ([] ++ [[97]] ++ [List.replicate 100 (0 : Int)] : List (List Int)).length = 2 := rfl
  have l3 : ([] ++ [[97]] ++ [List.replicate 100 (0 : Int)] ++ [[98]] : List (List Int)).length = 3 := rfl
  rw [z0, z1, z2, l2, l3, s1, s2, List.length_replicate]
  rfl
theorem fail_nil {D : Dk} (h : D.waits = []) (a t : Int) : Dk.fail D a t = ⟨D.sure, D.sure, []⟩ := by
  unfold Dk.fail
  rw [h]; rfl
theorem at_i {ls : List (List Int)} {i : Nat} (h : i < ls.length) : ls.getD (Int.toNat (i : Int)) [] = ls[i] := by
  rw [Int.toNat_natCast, List.getD_eq_getElem?_getD, List.getElem?_eq_getElem h]; rfl
theorem need_i {n : Nat} (h : n ≤ 1000000000) : IntKind.wrap .i64 (Int.tdiv (IntKind.wrap .i64 (IntKind.wrap .i64 ((n : Int) + 8) + 63)) 64) = (Frames.nsec n : Nat) := by
  rw [w64 (x := (n : Int) + 8) (by omega) (by omega), w64 (x := (n : Int) + 8 + 63) (by omega) (by omega), Int.tdiv_eq_ediv_of_nonneg (by omega), w64 (by omega) (by omega)]
  unfold Frames.nsec
  omega
/-- A log to which a record is added that fits. -/
theorem take_add {ls : List (List Int)} {i : Nat} (h : i < ls.length) : ls.take i ++ [ls[i]] = ls.take (i + 1) := (List.take_succ_eq_append_getElem h).symm

def nils (i : Nat) : List (List Int) := List.replicate i []
theorem nils_len (i : Nat) : lenS (nils i) = i := by
  unfold lenS nils
  rw [List.map_replicate]
  show (List.replicate i 1).sum = i
  induction i with
  | zero => rfl
  | succ i ih => rw [List.replicate_succ, List.sum_cons, ih]; omega
theorem nils_succ (i : Nat) : nils i ++ [[]] = nils (i + 1) := by unfold nils; rw [List.replicate_succ']
theorem many_j1 (n : Nat) (hn : n ≤ 300) (kl : Int → Dk → Int → Option Bool) {i : Nat} (hlt : i < n) {D : Dk} (hg : Lg D n (nils i)) (hw : D.waits.length ≤ i)
    (h : ∀ D' : Dk, Lg D' n (nils (i + 1)) → D'.waits.length ≤ i + 1 → kl ((i + 1 : Nat) : Int) D' ((i + 1 : Nat) : Int) = some true) : WallsMany.j1 kl i (i : Nat) D = some true := by
  have hl := nils_len i
  have hl1 := nils_len (i + 1)
  have h0 : Frames.nsec ([] : List Int).length = 1 := rfl
  obtain ⟨b1, b2, b3, b4, b5⟩ := hg.addI (l := []) (by decide) (by omega)
  have b6 := add_wl b5
  rw [nils_succ] at b2 b3
  rw [hl] at b1 b2 b3 b6
  rw [hl1] at b2
  have hr := hg.room 0
  rw [hl] at hr
  have hrt : roomF D (i : Nat) 0 = true := by
    rw [hr]
    exact dt ⟨by decide, by decide, by show i + Frames.nsec 0 ≤ n; show i + 1 ≤ n; omega⟩
  unfold WallsMany.j1
  rw [if_pos ⟨by omega, by omega⟩, lt_is hrt, iff_ (by rfl), if_pos ⟨⟨by omega, by omega⟩, by omega, by decide⟩, lt_is b1, lt_is b2, lt_is rfl, iff_ (by rfl), w64s (by omega)]
  exact h _ b3 (by omega)
theorem many_l1 (n : Nat) (hn : n ≤ 300) (a1 : Int) :
    ∀ (d k i : Nat) (D : Dk), i + d = n → d < k → Lg D n (nils i) → D.waits.length ≤ i → WallsMany.l1 k n a1 (i : Nat) D i = some true := by
  have h0 : Frames.nsec ([] : List Int).length = 1 := rfl
  intro d
  induction d with
  | zero =>
    intro k i D hi hk hg hw
    obtain ⟨k, rfl⟩ : ∃ q, k = q + 1 := ⟨k - 1, by omega⟩
    obtain rfl : i = n := by omega
    have hl := nils_len i
    have hr := hg.room 0
    rw [hl] at hr
    have hrf : roomF D (i : Nat) 0 = false := by
      rw [hr]
      exact df (by rintro ⟨_, _, h⟩; have : i + 1 ≤ i := h; omega)
    obtain ⟨d1, d2, d3⟩ := hg.fullI (l := []) (by decide) (by omega)
    rw [hl] at d1 d2 d3
    have g3 := hg.sync
    have hnl : (nils i).length = i := List.length_replicate
    unfold WallsMany.l1
    rw [iff_ (df (by omega)), if_pos ⟨by omega, by omega⟩, lt_is hrf, iff_ rfl, if_pos ⟨⟨by omega, by omega⟩, by omega, by decide⟩, lt_is d1, lt_is d2, lt_is d3, iff_ (by rfl), lt_is rfl, if_pos (show D.sync.waits.length ≤ 100000000 from Nat.zero_le _), lt_is g3.told, lt_is rfl, lt_is rfl, alive_is, Option.bind_some, ift rfl, hnl, lt_is (beq_yes rfl)]
  | succ d ih =>
    intro k i D hi hk hg hw
    obtain ⟨k, rfl⟩ : ∃ q, k = q + 1 := ⟨k - 1, by omega⟩
    have hlt : i < n := by omega
    have hl := nils_len i
    have hnl : (nils i).length = i := List.length_replicate
    have hj : ∀ D : Dk, Lg D n (nils i) → D.waits.length ≤ i → WallsMany.j1 (WallsMany.l1 k n a1) i (i : Nat) D = some true := fun D hg hw =>
      many_j1 n hn _ hlt hg hw fun D' hg' hw' => ih k (i + 1) D' (by omega) (by omega) hg' hw'
    unfold WallsMany.l1
    rw [ift (dt (by omega))]
    cases ho : ((i : Int) == IntKind.wrap .i64 a1) with
    | false => rw [iff_ rfl]; exact hj D hg hw
    | true =>
      obtain ⟨g1, g2, _⟩ := hg.open_
      rw [ift rfl, if_pos (by omega), lt_is hg.told, hg.at, hl, lt_is rfl, lt_is rfl, hnl, iff_ (bne_no rfl)]
      exact hj _ g1 (by rw [g2]; exact Nat.zero_le _)
theorem WallsMany_pure (a0 : Int) (a1 : Int) (v0 : (Lit.int .u8 a0).wf = true) (v1 : (Lit.int .u8 a1).wf = true) : ∃ k, WallsMany.f k a0 a1 = some true := by
  refine ⟨500, ?_⟩
  have b0 := wfu8 v0
  obtain ⟨n, hn⟩ : ∃ n : Nat, a0 + 1 = n := ⟨(a0 + 1).toNat, by omega⟩
  have e : IntKind.wrap .i64 (1 + IntKind.wrap .i64 a0) = (n : Int) := by rw [w64 (x := a0) (by omega) (by omega), w64 (by omega) (by omega)]; omega
  obtain ⟨s1, s2, s3, s4, s5⟩ := start_is n
  unfold WallsMany.f
  rw [lt_is e, if_pos ⟨by omega, by omega⟩, Int.toNat_natCast, lt_is rfl, if_pos (by exact Nat.zero_le _), lt_is s1, lt_is s2, lt_is rfl]
  exact many_l1 n (by omega) a1 n 500 0 (openD (Disk.blank n)) (by omega) (by omega) s3 (by rw [s4]; exact Nat.zero_le _)
end Go.Proofs.Ytmpkoacpakepfaa.Pl
