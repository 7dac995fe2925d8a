/- The plain law of WallsClean. -/
import Derived.Test.YtmpkoacpakepfaaDWallsClean
import Derived.Test.YtmpkoacpakepfaaWq
import Derived.IntWalk
namespace Go.Proofs.Ytmpkoacpakepfaa.Pl
open Go Go.RowKit Sx Base Own Disk Bytes

theorem start_is (n : Nat) : recsD (Disk.blank n) = [] ∧ ((atD (Disk.blank n) : Nat) : Int) = ((lenS [] : Nat) : Int) ∧ Lg (openD (Disk.blank n)) n [] ∧ (openD (Disk.blank n)).waits = [] ∧ (openD (Disk.blank n)).sure = (openD (Disk.blank n)).seen := by
  have h := Lg.start n
  exact ⟨h.told, congrArg (fun k : Nat => (k : Int)) h.at, h.open_⟩
theorem add_wl {D : Dk} {x : Nat} {l : List Int} {D' : Dk} (h : D'.waits = D.waits ++ wl x (fsec l)) : D'.waits.length = D.waits.length + Frames.nsec l.length := by
  rw [h, List.length_append, wl_len, fsec_len]
theorem failK_0 (t : Int) (s : List (List Int)) (ws : List (Int × List Int)) : ∀ k, failK 0 t s ws k = s := by
  intro k
  induction k with
  | zero => rfl
  | succ k ih =>
    unfold failK
    split
    · exact ih
    · unfold Disk.step kept
      rw [Int.zero_ediv, if_neg (by decide)]; exact ih
theorem fail_0 (D : Dk) (t : Int) : (Dk.fail D 0 t).seen = D.sure ∧ (Dk.fail D 0 t).waits = [] := ⟨failK_0 _ _ _ _, rfl⟩
theorem alive_is : alive.f = some true := by
  obtain ⟨a1, a2, a3, a4, a5⟩ := start_is 4
  unfold alive.f
  simp only [show Int.toNat (4 : Int) = 4 from rfl, show Int.toNat (100 : Int) = 100 from rfl, show Int.toNat (57 : Int) = 57 from rfl, show Int.toNat (16385 : Int) = 16385 from rfl, show Int.toNat (0 : Int) = 0 from rfl, show Int.toNat (1 : Int) = 1 from rfl, show Int.toNat (2 : Int) = 2 from rfl]
  obtain ⟨D4, h4⟩ : ∃ D, openD (Disk.blank 4) = D := ⟨_, rfl⟩
  rw [h4] at a3 a4 a5
  rw [if_pos (by decide), lt_is a1, lt_is a2, lt_is h4, iff_ (by rfl), if_pos ⟨⟨by omega, by decide⟩, by rw [a4]; decide, by decide⟩]
  obtain ⟨b1, b2, b3, b4, b5⟩ := a3.addI (l := [97]) (by decide) (by decide)
  obtain ⟨D13, h13⟩ : ∃ D, addDI D4 (lenS [] : Nat) [97] = D := ⟨_, rfl⟩
  rw [h13] at b3 b4 b5
  have b6 := add_wl b5
  rw [lt_is b1, lt_is b2, lt_is h13, iff_ (by rfl), if_pos (by decide), if_pos ⟨⟨by omega, by decide⟩, by rw [b6, a4]; decide, by rw [List.length_replicate]; decide⟩]
  obtain ⟨c1, c2, c3, c4, c5⟩ := b3.addI (l := List.replicate 100 0) (by rw [List.length_replicate]; decide) (by rw [List.length_replicate]; decide)
  obtain ⟨D18, h18⟩ : ∃ D, addDI D13 (lenS ([] ++ [[97]]) : Nat) (List.replicate 100 0) = D := ⟨_, rfl⟩
  rw [h18] at c3 c4 c5
  have c6 := add_wl c5
  obtain ⟨L2, hL2⟩ : ∃ L2, L2 = ([] ++ [[97]] ++ [List.replicate 100 (0 : Int)] : List (List Int)) := ⟨_, rfl⟩
  have n2 : lenS L2 = 3 := by rw [hL2]; decide
  rw [← hL2] at c2 c3
  have w18 : D18.waits.length ≤ 100 := by rw [c6, b6, a4, List.length_replicate]; decide
  have r56 : roomF D18 (lenS L2 : Nat) 56 = true := by rw [c3.room, n2]; decide
  have r57 : roomF D18 (lenS L2 : Nat) 57 = false := by rw [c3.room, n2]; decide
  rw [lt_is c1, lt_is c2, lt_is h18, iff_ (by rfl), if_pos ⟨by omega, by omega⟩, lt_is r56, iff_ (by rfl), if_pos ⟨by omega, by omega⟩, lt_is r57, iff_ (by rfl), if_pos (by decide), if_pos ⟨⟨by omega, by omega⟩, by omega, by rw [List.length_replicate]; decide⟩]
  obtain ⟨d1, d2, d3⟩ := c3.fullI (l := List.replicate 57 0) (by rw [List.length_replicate]; decide) (by rw [List.length_replicate, n2]; decide)
  rw [lt_is d1, lt_is d2, lt_is d3, iff_ (by rfl), if_pos (by decide), if_pos ⟨⟨by omega, by omega⟩, by omega, by rw [List.length_replicate]; decide⟩]
  obtain ⟨e1, e2, e3⟩ := bigI D18 (lenS L2) (l := List.replicate 16385 0) (by rw [List.length_replicate]; decide)
  rw [lt_is e1, lt_is e2, lt_is e3, iff_ (by rfl)]
  obtain ⟨D31, h31⟩ : ∃ D, Dk.sync D18 = D := ⟨_, rfl⟩
  have f3 : Lg D31 4 L2 := by rw [← h31]; exact c3.sync
  have f4 : D31.waits.length = 0 := by rw [← h31]; rfl
  have f5 : D31.sure = D18.seen := by rw [← h31]; rfl
  rw [lt_is h31, if_pos ⟨⟨by omega, by omega⟩, by omega, by decide⟩]
  obtain ⟨g1, g2, g3, g4, g5⟩ := f3.addI (l := [98]) (by decide) (by rw [n2]; decide)
  obtain ⟨D37, h37⟩ : ∃ D, addDI D31 (lenS L2 : Nat) [98] = D := ⟨_, rfl⟩
  rw [h37] at g3 g4 g5
  have g6 := add_wl g5
  have g7 : Frames.nsec ([98] : List Int).length = 1 := rfl
  obtain ⟨q1, q2⟩ := fail_0 D37 (-1)
  obtain ⟨D39, h39⟩ : ∃ D, Dk.fail D37 0 (-1) = D := ⟨_, rfl⟩
  rw [h39] at q1 q2
  have k3 : Lg D39 4 L2 := c3.ofSeen (by rw [q1, g4, f5])
  rw [lt_is g1, lt_is g2, lt_is h37, iff_ (by rfl), if_pos ⟨by omega, by decide⟩, lt_is h39, if_pos (by rw [q2]; decide), lt_is k3.told, lt_is rfl, lt_is rfl, if_pos (by omega), lt_is g3.told, lt_is rfl, lt_is rfl]
  have s1 : (ByteArray.toList (strOfNums [97]) == ByteArray.toList str0) = true := by rw [ByteArray.toList_eq, ByteArray.toList_eq]; rfl
  have s2 : (ByteArray.toList (strOfNums [98]) == ByteArray.toList str1) = true := by rw [ByteArray.toList_eq, ByteArray.toList_eq]; rfl
  subst hL2
  have z0 : ([] ++ [[97]] ++ [List.replicate 100 (0 : Int)] : List (List Int)).getD 0 [] = [97] := rfl
  have z1 : ([] ++ [[97]] ++ [List.replicate 100 (0 : Int)] : List (List Int)).getD 1 [] = List.replicate 100 0 := rfl
  have z2 : ([] ++ [[97]] ++ [List.replicate 100 (0 : Int)] ++ [[98]] : List (List Int)).getD 2 [] = [98] := rfl
  have l2 : ([] ++ [[97]] ++ [List.replicate 100 (0 : Int)] : List (List Int)).length = 2 := rfl
  have l3 : ([] ++ [[97]] ++ [List.replicate 100 (0 : Int)] ++ [[98]] : List (List Int)).length = 3 := rfl
  rw [z0, z1, z2, l2, l3, s1, s2, List.length_replicate]
  rfl
theorem fail_nil {D : Dk} (h : D.waits = []) (a t : Int) : Dk.fail D a t = ⟨D.sure, D.sure, []⟩ := by
  unfold Dk.fail
  rw [h]; rfl
theorem at_i {ls : List (List Int)} {i : Nat} (h : i < ls.length) : ls.getD (Int.toNat (i : Int)) [] = ls[i] := by
  rw [Int.toNat_natCast, List.getD_eq_getElem?_getD, List.getElem?_eq_getElem h]; rfl
theorem need_i {n : Nat} (h : n ≤ 1000000000) : IntKind.wrap .i64 (Int.tdiv (IntKind.wrap .i64 (IntKind.wrap .i64 ((n : Int) + 8) + 63)) 64) = (Frames.nsec n : Nat) := by
  rw [w64 (x := (n : Int) + 8) (by omega) (by omega), w64 (x := (n : Int) + 8 + 63) (by omega) (by omega), Int.tdiv_eq_ediv_of_nonneg (by omega), w64 (by omega) (by omega)]
  unfold Frames.nsec
  omega
/-- A log to which a record is added that fits. -/
theorem take_add {ls : List (List Int)} {i : Nat} (h : i < ls.length) : ls.take i ++ [ls[i]] = ls.take (i + 1) := (List.take_succ_eq_append_getElem h).symm

theorem get_zero64 {b : List Int} (hb : b.take 64 = List.replicate 64 0) : Frames.get b = none := by
  have hv : ∀ k, k ≤ 64 → Frames.val b k = 0 := by
    intro k
    induction k with
    | zero => intro _; rfl
    | succ k ih =>
      intro hk
      rw [Frames.val, ih (by omega)]
      have : b.getD k 0 = (b.take 64).getD k 0 := by
        rw [List.getD_eq_getElem?_getD, List.getD_eq_getElem?_getD, List.getElem?_take, if_pos (by omega)]
      rw [this, hb, List.getD_eq_getElem?_getD, List.getElem?_replicate, if_pos (by omega)]
      rfl
  unfold Frames.get
  rw [hv 4 (by decide)]
  split
  · rfl
  · rw [if_neg (by decide)]
    have h0 : Frames.nsec (Int.toNat 0) * 64 = 64 := rfl
    rw [h0]
    split
    · rfl
    · have e : Int.toNat 0 = 0 := rfl
      rw [if_neg]
      rw [e, List.take_zero, hb]
      exact put_nil
theorem flat_len64 : ∀ l : List (List Int), (∀ p ∈ l, p.length = 64) → l.flatten.length = l.length * 64 := by
  intro l
  induction l with
  | nil => intro _; rfl
  | cons p l ih => intro hp; rw [List.flatten_cons, List.length_append, ih (fun q hq => hp q (List.mem_cons_of_mem _ hq)), hp p List.mem_cons_self, List.length_cons]; omega
/-- Behind the records there is a sector of noughts. -/
theorem hole {D : Dk} {ls r : List (List Int)} (hD : D.seen = fsecs ls ++ (List.replicate 64 0 :: r)) (hr : ∀ x ∈ ls, x.length ≤ 16384) : recsD D = ls ∧ atD D = lenS ls := by
  have h1 := lenS_ge ls
  have e : D.seen.flatten = (fsecs ls).flatten ++ (List.replicate 64 0 ++ r.flatten) := by rw [hD, List.flatten_append, List.flatten_cons]
  have hl : ls.length ≤ D.seen.flatten.length := by
    have h2 := flat_len64 (fsecs ls) (fsecs_64 ls)
    rw [fsecs_len] at h2
    rw [e, List.length_append]; omega
  have hf : found D = ls.map fun r => (r, Frames.nsec r.length) := by
    unfold Sx.found
    rw [show parse (D.seen.flatten.length + 1) D.seen.flatten = parse (D.seen.flatten.length + 1) ((fsecs ls).flatten ++ (List.replicate 64 0 ++ r.flatten)) by rw [← e]]
    refine parse_recs ls _ _ hr (get_zero64 ?_) (by omega)
    rw [List.take_append_of_le_length (by rw [List.length_replicate]; exact Nat.le_refl _), List.take_of_length_le (by rw [List.length_replicate]; exact Nat.le_refl _)]
  refine ⟨?_, ?_⟩
  · unfold recsD
    rw [hf, List.map_map]
    show ls.map (fun r => r) = ls
    exact List.map_id' ls
  · unfold atD secs
    rw [hf, List.map_map]
    rfl
theorem clean_l3 (kl : Int → Option Bool) (x : Nat) (hx : x ≤ 1000) (h : kl ((x + 1 : Nat) : Int) = some true) : ∀ (d k i : Nat), i + d = 64 → d < k → WallsClean.l3 k kl (List.replicate 64 0) x i = some true := by
  intro d
  induction d with
  | zero =>
    intro k i hi hk
    obtain ⟨k, rfl⟩ : ∃ q, k = q + 1 := ⟨k - 1, by omega⟩
    unfold WallsClean.l3
    rw [List.length_replicate, iff_ (df (by omega)), w64s (by omega)]
    exact h
  | succ d ih =>
    intro k i hi hk
    obtain ⟨k, rfl⟩ : ∃ q, k = q + 1 := ⟨k - 1, by omega⟩
    have hz : (List.replicate 64 (0 : Int)).getD (Int.toNat (i : Int)) 0 = 0 := by
      rw [Int.toNat_natCast, List.getD_eq_getElem?_getD, List.getElem?_replicate]
      split <;> rfl
    unfold WallsClean.l3
    rw [hz, List.length_replicate, ift (dt (by omega)), if_pos ⟨by omega, by omega⟩, iff_ (bne_no rfl), w64s (by omega)]
    exact ih k (i + 1) (by omega) (by omega)
theorem clean_l2 (D : Dk) (u : Nat) (hl : D.seen.length = 200) (hz : ∀ i, u ≤ i → i < 200 → D.seen.getD i [] = List.replicate 64 0) : ∀ (d k i : Nat), u ≤ i → i + d = 200 → d + 100 < k → WallsClean.l2 k D i = some true := by
  intro d
  induction d with
  | zero =>
    intro k i hu hi hk
    obtain ⟨k, rfl⟩ : ∃ q, k = q + 1 := ⟨k - 1, by omega⟩
    unfold WallsClean.l2
    rw [iff_ (df (by omega))]
  | succ d ih =>
    intro k i hu hi hk
    obtain ⟨k, rfl⟩ : ∃ q, k = q + 1 := ⟨k - 1, by omega⟩
    unfold WallsClean.l2
    rw [ift (dt (by omega)), if_pos ⟨by omega, by omega⟩, Int.toNat_natCast, lt_is (hz i hu (by omega))]
    exact clean_l3 _ i (by omega) (ih k (i + 1) (by omega) (by omega) (by omega)) 64 k 0 (by omega) (by omega)
theorem clean_l1 (l0 : List (List Int)) (l1 : List Int) (n1 : l1.length = 64) (a2 : Int) (h2 : 0 ≤ a2 ∧ a2 ≤ 255) (hb : l0.length ≤ 10) (hs : l0.length + sumL l0 ≤ 5000) :
    ∀ (d k i : Nat) (D : Dk), i + d = l0.length → d + 400 < k → Lg D 200 (l0.take i) → D.waits.length ≤ lenS (l0.take i) → WallsClean.l1 k l0 l1 a2 (lenS (l0.take i) : Nat) D (lenS (l0.take i) : Nat) i = some true := by
  have hL := lenS_le l0
  have hsh : shortL l0 = true := short_of (n := 5000) (fun x hx => by have := sum_mem hx; omega) (by decide)
  intro d
  induction d with
  | zero =>
    intro k i D hi hk hg hw
    obtain ⟨k, rfl⟩ : ∃ q, k = q + 1 := ⟨k - 1, by omega⟩
    rw [List.take_of_length_le (by omega)] at hg hw ⊢
    have hsz := hg.size
    obtain ⟨t, ht, ht2⟩ : ∃ t : Nat, a2 % 90 = t ∧ t < 90 := ⟨(a2 % 90).toNat, by omega, by omega⟩
    have hp : IntKind.wrap .i64 (IntKind.wrap .i64 (((lenS l0 : Nat) : Int) + 1) + IntKind.wrap .i64 (Int.tmod a2 90)) = ((lenS l0 + 1 + t : Nat) : Int) := by
      rw [tm (by omega), ht, w64 (x := ((lenS l0 : Nat) : Int) + 1) (by omega) (by omega), w64 (x := (t : Int)) (by omega) (by omega), w64 (by omega) (by omega)]; omega
    have hwr := writeR_in (D := D) (x := lenS l0 + 1 + t) (b := l1) (by omega) n1
    have hwc : writeCode D.seen.length ((lenS l0 + 1 + t : Nat) : Int) l1 = 0 := by
      have hm : mayOk D.seen.length ((lenS l0 + 1 + t : Nat) : Int) = 0 := by unfold mayOk; rw [if_pos (by omega)]
      unfold writeCode
      rw [hm, if_neg (by omega)]
    obtain ⟨D3, h3⟩ : ∃ D3, Dk.writeR D ((lenS l0 + 1 + t : Nat) : Int) l1 = D3 := ⟨_, rfl⟩
    have hseen : D3.seen = fsecs l0 ++ (List.replicate 64 0 :: (zs (200 - lenS l0 - 1)).set t l1) := by
      rw [← h3, hwr]
      show D.seen.set _ _ = _
      rw [hg.seen, List.set_append_right _ _ (by rw [fsecs_len]; omega), fsecs_len, show lenS l0 + 1 + t - lenS l0 = t + 1 by omega, show 200 - lenS l0 = (200 - lenS l0 - 1) + 1 by omega]
      rfl
    have hw3 : D3.waits.length = D.waits.length + 1 := by rw [← h3, hwr]; simp
    have h64 : ∀ p ∈ D3.seen, p.length = 64 := by
      intro p hp
      rw [hseen] at hp
      rcases List.mem_append.1 hp with hp | hp
      · exact fsecs_64 l0 p hp
      · rcases List.mem_cons.1 hp with rfl | hp
        · exact List.length_replicate
        · rcases List.mem_or_eq_of_mem_set hp with hp | rfl
          · rw [List.eq_of_mem_replicate hp]; exact List.length_replicate
          · exact n1
    obtain ⟨q1, q2⟩ := hole hseen hg.recs
    obtain ⟨_, _, o3, o4, _, o6⟩ := opened_lg h64
    have hl3 : D3.seen.length = 200 := by rw [← h3, writeR_len, hsz]
    have hzz : ∀ i, lenS l0 ≤ i → i < 200 → (openD D3).seen.getD i [] = List.replicate 64 0 := by
      intro i h1 h2
      rw [o6, q2, hl3]
      have hlt : (D3.seen.take (lenS l0)).length = lenS l0 := by rw [List.length_take]; omega
      rw [List.getD_eq_getElem?_getD, List.getElem?_append_right (by omega), hlt, zs, List.getElem?_replicate, if_pos (by omega)]
      rfl
    have hlo : (openD D3).seen.length = 200 := by rw [o3.size, hl3]
    unfold WallsClean.l1
    rw [iff_ (df (by omega)), if_pos ⟨by omega, by omega⟩, hp, lt_is h3, hwc, iff_ (bne_no rfl), if_pos (by omega), lt_is q1, lt_is rfl, lt_is rfl, if_pos ⟨by omega, hsh, hsh⟩, lt_is (dt rfl), iff_ (by rfl), iff_ (bne_no (by rw [o4]; rfl))]
    exact clean_l2 _ (lenS l0) hlo hzz (200 - lenS l0) k (lenS l0) (Nat.le_refl _) (by omega) (by omega)
  | succ d ih =>
    intro k i D hi hk hg hw
    obtain ⟨k, rfl⟩ : ∃ q, k = q + 1 := ⟨k - 1, by omega⟩
    have hlt : i < l0.length := by omega
    have hx := sum_mem (List.getElem_mem hlt)
    have ht := lenS_take l0 (i + 1)
    have hta := take_add hlt
    have hln : lenS (l0.take i) + Frames.nsec (l0[i]).length = lenS (l0.take (i + 1)) := by rw [← hta, lenS_snoc]
    obtain ⟨b1, b2, b3, b4, b5⟩ := hg.addI (l := l0[i]) (by omega) (by omega)
    have b6 := add_wl b5
    rw [hta] at b2 b3
    have hw1 : IntKind.wrap .i64 (((lenS (l0.take i) : Nat) : Int) + ((Frames.nsec (l0[i]).length : Nat) : Int)) = ((lenS (l0.take (i + 1)) : Nat) : Int) := by rw [w64 (by omega) (by omega)]; omega
    unfold WallsClean.l1
    rw [at_i hlt, ift (dt (by omega)), if_pos ⟨by omega, by omega⟩, if_pos ⟨⟨by omega, by omega⟩, by omega, by omega⟩, lt_is b1, lt_is b2, lt_is rfl, iff_ (by rfl), if_pos ⟨by omega, by omega⟩, need_i (by omega), lt_is hw1, w64s (by omega)]
    exact ih k (i + 1) _ (by omega) (by omega) b3 (by omega)
theorem WallsClean_pure (l0 : List (List Int)) (l1 : List Int) (a2 : Int) (hs0 : ∀ x ∈ l0, x.length ≤ 140737488351232) (v0 : ∀ x ∈ l0, ∀ z ∈ x, (Lit.int .u8 z).wf = true) (n1 : l1.length = 64) (v1 : ∀ n ∈ l1, (Lit.int .u8 n).wf = true) (v2 : (Lit.int .u8 a2).wf = true) : ∃ k, WallsClean.f k l0 l1 a2 = some true := by
  refine ⟨1000, ?_⟩
  obtain ⟨s1, s2, s3, s4, s5⟩ := start_is 200
  unfold WallsClean.f
  simp only [show Int.toNat (200 : Int) = 200 from rfl]
  rw [alive_is, Option.bind_some, iff_ (by rfl)]
  by_cases hb : l0.length ≤ 10
  · rw [iff_ (df (by omega)), lt_is rfl]
    by_cases hr : recSize l0 > 5000
    · rw [ift (dt hr), Option.bind_some]
    · have hsz := recSize_le (by decide) hr
      rw [iff_ (df hr), if_pos (by exact Nat.zero_le _), lt_is s1, lt_is s2, lt_is rfl]
      exact clean_l1 l0 l1 n1 a2 (wfu8 v2) hb (by omega) l0.length 1000 0 (openD (Disk.blank 200)) (by omega) (by omega) s3 (by rw [s4]; exact Nat.zero_le _)
  · rw [ift (dt (by omega)), Option.bind_some]
end Go.Proofs.Ytmpkoacpakepfaa.Pl
