/- The plain law of WallsSure. -/
import Derived.Test.YtmpkoacpakepfaaDWallsSure
import Derived.Test.YtmpkoacpakepfaaWr
import Derived.IntWalk
namespace Go.Proofs.Ytmpkoacpakepfaa.Pl
open Go Go.RowKit Sx Base Own Disk Bytes

theorem start_is (n : Nat) : recsD (Disk.blank n) = [] ∧ ((atD (Disk.blank n) : Nat) : Int) = ((lenS [] : Nat) : Int) ∧ Lg (openD (Disk.blank n)) n [] ∧ (openD (Disk.blank n)).waits = [] ∧ (openD (Disk.blank n)).sure = (openD (Disk.blank n)).seen := by
  have h := Lg.start n
  exact ⟨h.told, congrArg (fun k : Nat => (k : Int)) h.at, h.open_⟩
theorem add_wl {D : Dk} {x : Nat} {l : List Int} {D' : Dk} (h : D'.waits = D.waits ++ wl x (fsec l)) : D'.waits.length = D.waits.length + Frames.nsec l.length := by
  rw [h, List.length_append, wl_len, fsec_len]
theorem failK_0 (t : Int) (s : List (List Int)) (ws : List (Int × List Int)) : ∀ k, failK 0 t s ws k = s := by
  intro k
  induction k with
  | zero => rfl
  | succ k ih =>
    unfold failK
    split
    · exact ih
    · unfold Disk.step kept
      rw [Int.zero_ediv, if_neg (by decide)]; exact ih
theorem fail_0 (D : Dk) (t : Int) : (Dk.fail D 0 t).seen = D.sure ∧ (Dk.fail D 0 t).waits = [] := ⟨failK_0 _ _ _ _, rfl⟩
theorem alive_is : alive.f = some true := by
  obtain ⟨a1, a2, a3, a4, a5⟩ := start_is 4
  unfold alive.f
  simp only [show Int.toNat (4 : Int) = 4 from rfl, show Int.toNat (100 : Int) = 100 from rfl, show Int.toNat (57 : Int) = 57 from rfl, show Int.toNat (16385 : Int) = 16385 from rfl, show Int.toNat (0 : Int) = 0 from rfl, show Int.toNat (1 : Int) = 1 from rfl, show Int.toNat (2 : Int) = 2 from rfl]
  obtain ⟨D4, h4⟩ : ∃ D, openD (Disk.blank 4) = D := ⟨_, rfl⟩
  rw [h4] at a3 a4 a5
  rw [if_pos (by decide), lt_is a1, lt_is a2, lt_is h4, iff_ (by rfl), if_pos ⟨⟨by omega, by decide⟩, by rw [a4]; decide, by decide⟩]
  obtain ⟨b1, b2, b3, b4, b5⟩ := a3.addI (l := [97]) (by decide) (by decide)
  obtain ⟨D13, h13⟩ : ∃ D, addDI D4 (lenS [] : Nat) [97] = D := ⟨_, rfl⟩
  rw [h13] at b3 b4 b5
  have b6 := add_wl b5
  rw [lt_is b1, lt_is b2, lt_is h13, iff_ (by rfl), if_pos (by decide), if_pos ⟨⟨by omega, by decide⟩, by rw [b6, a4]; decide, by rw [List.length_replicate]; decide⟩]
  obtain ⟨c1, c2, c3, c4, c5⟩ := b3.addI (l := List.replicate 100 0) (by rw [List.length_replicate]; decide) (by rw [List.length_replicate]; decide)
  obtain ⟨D18, h18⟩ : ∃ D, addDI D13 (lenS ([] ++ [[97]]) : Nat) (List.replicate 100 0) = D := ⟨_, rfl⟩
  rw [h18] at c3 c4 c5
  have c6 := add_wl c5
  obtain ⟨L2, hL2⟩ : ∃ L2, L2 = ([] ++ [[97]] ++ [List.replicate 100 (0 : Int)] : List (List Int)) := ⟨_, rfl⟩
  have n2 : lenS L2 = 3 := by rw [hL2]; decide
  rw [← hL2] at c2 c3
  have w18 : D18.waits.length ≤ 100 := by rw [c6, b6, a4, List.length_replicate]; decide
  have r56 : roomF D18 (lenS L2 : Nat) 56 = true := by rw [c3.room, n2]; decide
  have r57 : roomF D18 (lenS L2 : Nat) 57 = false := by rw [c3.room, n2]; decide
  rw [lt_is c1, lt_is c2, lt_is h18, iff_ (by rfl), if_pos ⟨by omega, by omega⟩, lt_is r56, iff_ (by rfl), if_pos ⟨by omega, by omega⟩, lt_is r57, iff_ (by rfl), if_pos (by decide), if_pos ⟨⟨by omega, by omega⟩, by omega, by rw [List.length_replicate]; decide⟩]
  obtain ⟨d1, d2, d3⟩ := c3.fullI (l := List.replicate 57 0) (by rw [List.length_replicate]; decide) (by rw [List.length_replicate, n2]; decide)
  rw [lt_is d1, lt_is d2, lt_is d3, iff_ (by rfl), if_pos (by decide), if_pos ⟨⟨by omega, by omega⟩, by omega, by rw [List.length_replicate]; decide⟩]
  obtain ⟨e1, e2, e3⟩ := bigI D18 (lenS L2) (l := List.replicate 16385 0) (by rw [List.length_replicate]; decide)
  rw [lt_is e1, lt_is e2, lt_is e3, iff_ (by rfl)]
  obtain ⟨D31, h31⟩ : ∃ D, Dk.sync D18 = D := ⟨_, rfl⟩
  have f3 : Lg D31 4 L2 := by rw [← h31]; exact c3.sync
  have f4 : D31.waits.length = 0 := by rw [← h31]; rfl
  have f5 : D31.sure = D18.seen := by rw [← h31]; rfl
  rw [lt_is h31, if_pos ⟨⟨by omega, by omega⟩, by omega, by decide⟩]
  obtain ⟨g1, g2, g3, g4, g5⟩ := f3.addI (l := [98]) (by decide) (by rw [n2]; decide)
  obtain ⟨D37, h37⟩ : ∃ D, addDI D31 (lenS L2 : Nat) [98] = D := ⟨_, rfl⟩
  rw [h37] at g3 g4 g5
  have g6 := add_wl g5
  have g7 : Frames.nsec ([98] : List Int).length = 1 := rfl
  obtain ⟨q1, q2⟩ := fail_0 D37 (-1)
  obtain ⟨D39, h39⟩ : ∃ D, Dk.fail D37 0 (-1) = D := ⟨_, rfl⟩
  rw [h39] at q1 q2
  have k3 : Lg D39 4 L2 := c3.ofSeen (by rw [q1, g4, f5])
  rw [lt_is g1, lt_is g2, lt_is h37, iff_ (by rfl), if_pos ⟨by omega, by decide⟩, lt_is h39, if_pos (by rw [q2]; decide), lt_is k3.told, lt_is rfl, lt_is rfl, if_pos (by omega), lt_is g3.told, lt_is rfl, lt_is rfl]
  have s1 : (ByteArray.toList (strOfNums [97]) == ByteArray.toList str0) = true := by rw [ByteArray.toList_eq, ByteArray.toList_eq]; rfl
  have s2 : (ByteArray.toList (strOfNums [98]) == ByteArray.toList str1) = true := by rw [ByteArray.toList_eq, ByteArray.toList_eq]; rfl
  subst hL2
  have z0 : ([] ++ [[97]] ++ [List.replicate 100 (0 : Int)] : List (List Int)).getD 0 [] = [97] := rfl
  have z1 : ([] ++ [[97]] ++ [List.replicate 100 (0 : Int)] : List (List Int)).getD 1 [] = List.replicate 100 0 := rfl
  have z2 : ([] ++ [[97]] ++ [List.replicate 100 (0 : Int)] ++ [[98]] : List (List Int)).getD 2 [] = [98] := rfl
  have l2 : ([] ++ [[97]] ++ [List.replicate 100 (0 : Int)] : List (List Int)).length = 2 := rfl
  have l3 : ([] ++ [[97]] ++ [List.replicate 100 (0 : Int)] ++ [[98]] : List (List Int)).length = 3 := rfl
  rw [z0, z1, z2, l2, l3, s1, s2, List.length_replicate]
  rfl
theorem fail_nil {D : Dk} (h : D.waits = []) (a t : Int) : Dk.fail D a t = ⟨D.sure, D.sure, []⟩ := by
  unfold Dk.fail
  rw [h]; rfl
theorem at_i {ls : List (List Int)} {i : Nat} (h : i < ls.length) : ls.getD (Int.toNat (i : Int)) [] = ls[i] := by
  rw [Int.toNat_natCast, List.getD_eq_getElem?_getD, List.getElem?_eq_getElem h]; rfl
theorem need_i {n : Nat} (h : n ≤ 1000000000) : IntKind.wrap .i64 (Int.tdiv (IntKind.wrap .i64 (IntKind.wrap .i64 ((n : Int) + 8) + 63)) 64) = (Frames.nsec n : Nat) := by
  rw [w64 (x := (n : Int) + 8) (by omega) (by omega), w64 (x := (n : Int) + 8 + 63) (by omega) (by omega), Int.tdiv_eq_ediv_of_nonneg (by omega), w64 (by omega) (by omega)]
  unfold Frames.nsec
  omega
/-- A log to which a record is added that fits. -/
theorem take_add {ls : List (List Int)} {i : Nat} (h : i < ls.length) : ls.take i ++ [ls[i]] = ls.take (i + 1) := (List.take_succ_eq_append_getElem h).symm

/-- Behind the first i records; the first k are forced. -/
structure StS (k : Nat) (L : List (List Int)) (i : Nat) (D : Dk) : Prop where
  lg : Lg D 1200 (L.take i)
  waits : D.waits.length ≤ lenS (L.take i)
  sure : k < i → D.sure = fsecs (L.take k) ++ zs (1200 - lenS (L.take k)) ∧ D.waits = wl (lenS (L.take k)) (fsecs ((L.take i).drop k))
theorem sure_end (L : List (List Int)) (l1 : List Int) (hl1 : l1.length ≤ 1000) (hb : L.length ≤ 40) (hs : L.length + sumL L ≤ 20000) (k : Nat) (hk : k ≤ L.length) (keep torn : Int) (n q : Nat) {D : Dk} (hg : Lg D 1200 L) (hsu : D.sure = fsecs (L.take k) ++ zs (1200 - lenS (L.take k)) ∧ D.waits = wl (lenS (L.take k)) (fsecs (L.drop k))) :
    ∃ p : List (List Int), recsD (Dk.fail D keep torn) = p ∧ k ≤ p.length ∧ p.length ≤ L.length ∧ p.take k = L.take k ∧ Lg (openD (Dk.fail D keep torn)) 1200 p ∧ (openD (Dk.fail D keep torn)).waits = [] ∧ atD (Dk.fail D keep torn) = lenS p ∧ lenS p ≤ 400 := by
  have hL := lenS_le L
  have hA : ∀ r ∈ L.take k, r.length ≤ 16384 := fun r hr => hg.recs r (List.mem_of_mem_take hr)
  have hB : ∀ r ∈ L.drop k, r.length ≤ 16384 := fun r hr => hg.recs r (List.mem_of_mem_drop hr)
  have hsum : lenS (L.take k) + lenS (L.drop k) = lenS L := by
    conv => rhs; rw [← List.take_append_drop k L]
    unfold lenS
    rw [List.map_append, List.sum_append]
  obtain ⟨c1, c2, ⟨P, c3, c4⟩, c5⟩ := crash keep torn hA hB (by omega) hsu.1 hsu.2
  obtain ⟨o1, o2, o3, o4, o5, o6⟩ := opened_lg c1
  rw [c2] at o3
  have lA : (L.take k).length = k := by rw [List.length_take]; omega
  rw [List.length_drop] at c4
  refine ⟨L.take k ++ P, c3, ?_, ?_, ?_, ?_, o4, ?_, ?_⟩
  · rw [List.length_append]; omega
  · rw [List.length_append]; omega
  · rw [List.take_append_of_le_length (by omega), List.take_of_length_le (by omega)]
  · rw [← c3]; exact o3
  · rw [← c3]; exact o1.symm
  · rw [← c3, o1]; omega
theorem sure_l1 (L : List (List Int)) (l1 : List Int) (hl1 : l1.length ≤ 1000) (hb : L.length ≤ 40) (hs : L.length + sumL L ≤ 20000) (q : Nat) (hq : q ≤ L.length) (x2003 x2002 : Int) (h3 : 0 ≤ x2003 ∧ x2003 ≤ 255) :
    ∀ (d k i : Nat) (D : Dk), i + d = L.length + 1 → d < k → StS q L i D → WallsSure.l1 k L q x2003 x2002 l1 (lenS (L.take i) : Nat) D i = some true := by
  have hL := lenS_le L
  have hsh : ∀ m, shortL (L.take m) = true := fun m => short_of (n := 20000) (fun x hx => by have := sum_mem (List.mem_of_mem_take hx); omega) (by decide)
  intro d
  induction d with
  | zero =>
    intro k i D hi hk hg
    obtain ⟨k, rfl⟩ : ∃ q, k = q + 1 := ⟨k - 1, by omega⟩
    have hlg := hg.lg
    have hsu := hg.sure (by omega)
    rw [List.take_of_length_le (show L.length ≤ i by omega)] at hlg hsu
    have hwt := hg.waits
    have ht0 := lenS_take L i
    obtain ⟨t, ht, ht2⟩ : ∃ t : Nat, x2003 % 80 = t ∧ t < 80 := ⟨(x2003 % 80).toNat, by omega, by omega⟩
    have htv : IntKind.wrap .i64 (IntKind.wrap .i64 (Int.tmod x2003 80) - 1) = (t : Int) - 1 := by rw [tm (by omega), ht, w64 (x := (t : Int)) (by omega) (by omega), w64 (by omega) (by omega)]
    obtain ⟨p, p1, p2, p3, p4, p5, p6, p7, p8⟩ := sure_end L l1 hl1 hb hs q hq x2002 ((t : Int) - 1) 0 0 hlg hsu
    obtain ⟨D3, hD3⟩ : ∃ D3, Dk.fail D x2002 ((t : Int) - 1) = D3 := ⟨_, rfl⟩
    rw [hD3] at p1 p5 p6 p7
    have hw3 : D3.waits = [] := by rw [← hD3]; rfl
    have hns : Frames.nsec l1.length ≤ 20 := by unfold Frames.nsec; omega
    obtain ⟨b1, b2, b3, b4, b5⟩ := p5.addI (l := l1) (by omega) (by omega)
    have b6 := add_wl b5
    rw [p6] at b6
    have hp16 := p5.recs
    have hpsh : shortL p = true := short_of (n := 16384) hp16 (by decide)
    have hlt : (p ++ [l1]).length = p.length + 1 := by simp
    have htk : (p ++ [l1]).take p.length = p := List.take_left
    have hgd : (p ++ [l1]).getD p.length [] = l1 := by rw [List.getD_eq_getElem?_getD, List.getElem?_append_right (Nat.le_refl _), Nat.sub_self]; rfl
    have hb0 : List.length ([] : List (Int × List Int)) = 0 := rfl
    unfold WallsSure.l1
    rw [iff_ (df (by omega)), htv, if_pos ⟨by omega, by omega⟩, lt_is hD3, if_pos (by rw [hw3]; exact Nat.zero_le _), lt_is p1, p7, lt_is rfl, lt_is rfl, iff_ (df (by omega)), iff_ (df (by omega)), if_pos ⟨by omega, by omega⟩, if_pos ⟨by omega, by omega⟩]
    simp only [Int.toNat_natCast]
    rw [if_pos ⟨by rw [List.length_take]; omega, by rw [p4]; exact hsh q, hsh q⟩, lt_is (dt p4), iff_ (by rfl), if_pos ⟨⟨by omega, by omega⟩, by rw [p6]; exact Nat.zero_le _, by omega⟩, lt_is b1, lt_is b2, lt_is rfl, iff_ (by rfl), if_pos (by rw [b6, hb0]; omega), lt_is b3.told, lt_is rfl, lt_is rfl, hlt, w64s (by omega), ift (beq_yes rfl), if_pos ⟨by omega, by omega⟩, if_pos ⟨by rw [htk]; omega, by rw [htk]; exact hpsh, hpsh⟩, lt_is (dt htk), ift rfl, if_pos ⟨by omega, by omega⟩, if_pos ⟨by rw [hgd]; omega, by omega⟩, lt_is (dt hgd)]
  | succ d ih =>
    intro k i D hi hk hg
    obtain ⟨k, rfl⟩ : ∃ q, k = q + 1 := ⟨k - 1, by omega⟩
    have hil : i ≤ L.length := by omega
    have ht0 := lenS_take L i
    -- behind the force, if there is one here
    have hj : ∀ D : Dk, Lg D 1200 (L.take i) → D.waits.length ≤ lenS (L.take i) → (q ≤ i → D.sure = fsecs (L.take q) ++ zs (1200 - lenS (L.take q)) ∧ D.waits = wl (lenS (L.take q)) (fsecs ((L.take i).drop q))) →
        WallsSure.j3 (WallsSure.l1 k L q x2003 x2002 l1) i L (lenS (L.take i) : Nat) D = some true := by
      intro D hlg hw hsu
      unfold WallsSure.j3
      by_cases hlt : i < L.length
      · have hx := sum_mem (List.getElem_mem hlt)
        have ht := lenS_take L (i + 1)
        have hta := take_add hlt
        have hln : lenS (L.take i) + Frames.nsec (L[i]).length = lenS (L.take (i + 1)) := by rw [← hta, lenS_snoc]
        rw [at_i hlt, ift (dt (by omega)), if_pos ⟨by omega, by omega⟩, if_pos ⟨⟨by omega, by omega⟩, by omega, by omega⟩]
        by_cases hbig : 16384 < (L[i]).length
        · obtain ⟨e1, e2, e3⟩ := bigI D (lenS (L.take i)) hbig
          rw [lt_is e1, lt_is e2, lt_is e3, ift (by rfl), if_pos ⟨by omega, by omega⟩, lt_is (dt (by omega))]
        · obtain ⟨b1, b2, b3, b4, b5⟩ := hlg.addI (l := L[i]) (by omega) (by omega)
          have b6 := add_wl b5
          rw [hta] at b2 b3
          rw [lt_is b1, lt_is b2, lt_is rfl, iff_ (by rfl)]
          unfold WallsSure.j2
          rw [w64s (by omega)]
          refine ih k (i + 1) _ (by omega) (by omega) ⟨b3, by omega, fun hqi => ?_⟩
          obtain ⟨u1, u2⟩ := hsu (by omega)
          rw [b4, b5, u1, u2]
          refine ⟨rfl, ?_⟩
          have hli : (L.take i).length = i := by rw [List.length_take]; omega
          rw [← hta, List.drop_append_of_le_length (by omega), fsecs_snoc, wlq_app, fsecs_len]
          congr 2
          have : lenS (L.take q) + lenS ((L.take i).drop q) = lenS (L.take i) := by
            conv => rhs; rw [← List.take_append_drop q (L.take i)]
            rw [List.take_take, Nat.min_eq_left (by omega)]
            unfold lenS
            rw [List.map_append, List.sum_append]
          exact this.symm
      · rw [iff_ (df (by omega))]
        unfold WallsSure.j2
        have hieq : i = L.length := by omega
        have e : L.take (i + 1) = L.take i := by rw [List.take_of_length_le (by omega), List.take_of_length_le (by omega)]
        rw [w64s (by omega), ← e]
        refine ih k (i + 1) D (by omega) (by omega) ⟨by rw [e]; exact hlg, by rw [e]; exact hw, fun _ => ?_⟩
        rw [e]
        exact hsu (by omega)
    unfold WallsSure.l1
    rw [ift (dt (by omega))]
    by_cases hqi : i = q
    · rw [ift (beq_yes (by omega)), lt_is rfl]
      refine hj D.sync hg.lg.sync (Nat.zero_le _) fun _ => ?_
      subst hqi
      have hd : (L.take i).drop i = [] := List.drop_eq_nil_of_le (by rw [List.length_take]; omega)
      rw [hd]
      exact ⟨hg.lg.seen, rfl⟩
    · rw [iff_ (beq_no (by omega))]
      exact hj D hg.lg hg.waits fun h => hg.sure (by omega)
theorem WallsSure_pure (l2000 : List (List Int)) (x2001 : Int) (x2002 : Int) (x2003 : Int) (l1 : List Int) (hs2000 : ∀ x ∈ l2000, x.length ≤ 140737488351232) (v2000 : ∀ x ∈ l2000, ∀ z ∈ x, (Lit.int .u8 z).wf = true) (v2001 : (Lit.int .u8 x2001).wf = true) (v2002 : (Lit.int .u64 x2002).wf = true) (v2003 : (Lit.int .u8 x2003).wf = true) (hy1 : l1.length ≤ 140737488351232) (v1 : ∀ n ∈ l1, (Lit.int .u8 n).wf = true) : ∃ k, WallsSure.f k l2000 x2001 x2002 x2003 l1 = some true := by
  refine ⟨200, ?_⟩
  obtain ⟨s1, s2, s3, s4, s5⟩ := start_is 1200
  have h1 := wfu8 v2001
  have h3 := wfu8 v2003
  unfold WallsSure.f
  simp only [show Int.toNat (1200 : Int) = 1200 from rfl]
  rw [alive_is, Option.bind_some, iff_ (by rfl)]
  by_cases hb : l2000.length ≤ 40
  · rw [iff_ (df (by omega)), lt_is rfl]
    by_cases hr : recSize l2000 > 20000
    · rw [ift (dt hr), Option.bind_some]
    · have hsz := recSize_le (by decide) hr
      rw [iff_ (df hr)]
      by_cases hl : l1.length ≤ 1000
      · rw [iff_ (df (by omega)), if_pos (by exact Nat.zero_le _), lt_is s1, lt_is s2, lt_is rfl]
        have hj : ∀ q : Nat, q ≤ l2000.length → WallsSure.j1 200 l2000 x2003 x2002 l1 ((lenS [] : Nat) : Int) (openD (Disk.blank 1200)) q = some true := fun q hq => by
          unfold WallsSure.j1
          exact sure_l1 l2000 l1 hl hb (by omega) q hq x2003 x2002 h3 (l2000.length + 1) 200 0 _ (by omega) (by omega) ⟨s3, by rw [s4]; exact Nat.zero_le _, fun h => by omega⟩
        by_cases hz : l2000.length = 0
        · rw [iff_ (df (by omega))]
          exact hj 0 (Nat.zero_le _)
        · have hwv : IntKind.wrap .i64 ((l2000.length : Int) + 1) = ((l2000.length + 1 : Nat) : Int) := w64s (by omega)
          obtain ⟨q, hq, hq2⟩ : ∃ q : Nat, x2001 % ((l2000.length + 1 : Nat) : Int) = q ∧ q ≤ l2000.length := ⟨(x2001 % ((l2000.length + 1 : Nat) : Int)).toNat, by have := Int.emod_nonneg x2001 (show ((l2000.length + 1 : Nat) : Int) ≠ 0 by omega); omega, by have := Int.emod_nonneg x2001 (show ((l2000.length + 1 : Nat) : Int) ≠ 0 by omega); have := Int.emod_lt_of_pos x2001 (show (0 : Int) < ((l2000.length + 1 : Nat) : Int) by omega); omega⟩
          have hm : Int.tmod (IntKind.wrap .i64 x2001) ((l2000.length + 1 : Nat) : Int) = (q : Int) := by rw [w64 (by omega) (by omega), tm (by omega)]; exact hq
          rw [ift (dt (by omega)), hwv, if_pos (by omega), lt_is hm]
          exact hj q hq2
      · rw [ift (dt (by omega)), Option.bind_some]
  · rw [ift (dt (by omega)), Option.bind_some]
end Go.Proofs.Ytmpkoacpakepfaa.Pl
