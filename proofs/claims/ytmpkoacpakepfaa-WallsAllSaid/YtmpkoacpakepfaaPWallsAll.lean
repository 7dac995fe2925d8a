/- The plain law of WallsAll. -/
import Derived.Test.YtmpkoacpakepfaaDWallsAll
import Derived.Test.YtmpkoacpakepfaaWq
import Derived.IntWalk
namespace Go.Proofs.Ytmpkoacpakepfaa.Pl
open Go Go.RowKit Sx Base Own Disk Bytes

theorem start_is (n : Nat) : recsD (Disk.blank n) = [] ∧ ((atD (Disk.blank n) : Nat) : Int) = ((lenS [] : Nat) : Int) ∧ Lg (openD (Disk.blank n)) n [] ∧ (openD (Disk.blank n)).waits = [] ∧ (openD (Disk.blank n)).sure = (openD (Disk.blank n)).seen := by
  have h := Lg.start n
  exact ⟨h.told, congrArg (fun k : Nat => (k : Int)) h.at, h.open_⟩
theorem add_wl {D : Dk} {x : Nat} {l : List Int} {D' : Dk} (h : D'.waits = D.waits ++ wl x (fsec l)) : D'.waits.length = D.waits.length + Frames.nsec l.length := by
  rw [h, List.length_append, wl_len, fsec_len]
theorem failK_0 (t : Int) (s : List (List Int)) (ws : List (Int × List Int)) : ∀ k, failK 0 t s ws k = s := by
  intro k
  induction k with
  | zero => rfl
  | succ k ih =>
    unfold failK
    split
    · exact ih
    · unfold Disk.step kept
      rw [Int.zero_ediv, if_neg (by decide)]; exact ih
theorem fail_0 (D : Dk) (t : Int) : (Dk.fail D 0 t).seen = D.sure ∧ (Dk.fail D 0 t).waits = [] := ⟨failK_0 _ _ _ _, rfl⟩
theorem alive_is : alive.f = some true := by
  obtain ⟨a1, a2, a3, a4, a5⟩ := start_is 4
  unfold alive.f
  simp only [show Int.toNat (4 : Int) = 4 from rfl, show Int.toNat (100 : Int) = 100 from rfl, show Int.toNat (57 : Int) = 57 from rfl, show Int.toNat (16385 : Int) = 16385 from rfl, show Int.toNat (0 : Int) = 0 from rfl, show Int.toNat (1 : Int) = 1 from rfl, show Int.toNat (2 : Int) = 2 from rfl]
  obtain ⟨D4, h4⟩ : ∃ D, openD (Disk.blank 4) = D := ⟨_, rfl⟩
  rw [h4] at a3 a4 a5
  rw [if_pos (by decide), lt_is a1, lt_is a2, lt_is h4, iff_ (by rfl), if_pos ⟨⟨by omega, by decide⟩, by rw [a4]; decide, by decide⟩]
  obtain ⟨b1, b2, b3, b4, b5⟩ := a3.addI (l := [97]) (by decide) (by decide)
  obtain ⟨D13, h13⟩ : ∃ D, addDI D4 (lenS [] : Nat) [97] = D := ⟨_, rfl⟩
  rw [h13] at b3 b4 b5
  have b6 := add_wl b5
  rw [lt_is b1, lt_is b2, lt_is h13, iff_ (by rfl), if_pos (by decide), if_pos ⟨⟨by omega, by decide⟩, by rw [b6, a4]; decide, by rw [List.length_replicate]; decide⟩]
  obtain ⟨c1, c2, c3, c4, c5⟩ := b3.addI (l := List.replicate 100 0) (by rw [List.length_replicate]; decide) (by rw [List.length_replicate]; decide)
  obtain ⟨D18, h18⟩ : ∃ D, addDI D13 (lenS ([] ++ [[97]]) : Nat) (List.replicate 100 0) = D := ⟨_, rfl⟩
  rw [h18] at c3 c4 c5
  have c6 := add_wl c5
  obtain ⟨L2, hL2⟩ : ∃ L2, L2 = ([] ++ [[97]] ++ [List.replicate 100 (0 : Int)] : List (List Int)) := ⟨_, rfl⟩
  have n2 : lenS L2 = 3 := by rw [hL2]; decide
  rw [← hL2] at c2 c3
  have w18 : D18.waits.length ≤ 100 := by rw [c6, b6, a4, List.length_replicate]; decide
  have r56 : roomF D18 (lenS L2 : Nat) 56 = true := by rw [c3.room, n2]; decide
  have r57 : roomF D18 (lenS L2 : Nat) 57 = false := by rw [c3.room, n2]; decide
  rw [lt_is c1, lt_is c2, lt_is h18, iff_ (by rfl), if_pos ⟨by omega, by omega⟩, lt_is r56, iff_ (by rfl), if_pos ⟨by omega, by omega⟩, lt_is r57, iff_ (by rfl), if_pos (by decide), if_pos ⟨⟨by omega, by omega⟩, by omega, by rw [List.length_replicate]; decide⟩]
  obtain ⟨d1, d2, d3⟩ := c3.fullI (l := List.replicate 57 0) (by rw [List.length_replicate]; decide) (by rw [List.length_replicate, n2]; decide)
  rw [lt_is d1, lt_is d2, lt_is d3, iff_ (by rfl), if_pos (by decide), if_pos ⟨⟨by omega, by omega⟩, by omega, by rw [List.length_replicate]; decide⟩]
  obtain ⟨e1, e2, e3⟩ := bigI D18 (lenS L2) (l := List.replicate 16385 0) (by rw [List.length_replicate]; decide)
  rw [lt_is e1, lt_is e2, lt_is e3, iff_ (by rfl)]
  obtain ⟨D31, h31⟩ : ∃ D, Dk.sync D18 = D := ⟨_, rfl⟩
  have f3 : Lg D31 4 L2 := by rw [← h31]; exact c3.sync
  have f4 : D31.waits.length = 0 := by rw [← h31]; rfl
  have f5 : D31.sure = D18.seen := by rw [← h31]; rfl
  rw [lt_is h31, if_pos ⟨⟨by omega, by omega⟩, by omega, by decide⟩]
  obtain ⟨g1, g2, g3, g4, g5⟩ := f3.addI (l := [98]) (by decide) (by rw [n2]; decide)
  obtain ⟨D37, h37⟩ : ∃ D, addDI D31 (lenS L2 : Nat) [98] = D := ⟨_, rfl⟩
  rw [h37] at g3 g4 g5
  have g6 := add_wl g5
  have g7 : Frames.nsec ([98] : List Int).length = 1 := rfl
  obtain ⟨q1, q2⟩ := fail_0 D37 (-1)
  obtain ⟨D39, h39⟩ : ∃ D, Dk.fail D37 0 (-1) = D := ⟨_, rfl⟩
  rw [h39] at q1 q2
  have k3 : Lg D39 4 L2 := c3.ofSeen (by rw [q1, g4, f5])
  rw [lt_is g1, lt_is g2, lt_is h37, iff_ (by rfl), if_pos ⟨by omega, by decide⟩, lt_is h39, if_pos (by rw [q2]; decide), lt_is k3.told, lt_is rfl, lt_is rfl, if_pos (by omega), lt_is g3.told, lt_is rfl, lt_is rfl]
  have s1 : (ByteArray.toList (strOfNums [97]) == ByteArray.toList str0) = true := by rw [ByteArray.toList_eq, ByteArray.toList_eq]; rfl
  have s2 : (ByteArray.toList (strOfNums [98]) == ByteArray.toList str1) = true := by rw [ByteArray.toList_eq, ByteArray.toList_eq]; rfl
  subst hL2
  have z0 : ([] ++ [[97]] ++ [List.replicate 100 (0 : Int)] : List (List Int)).getD 0 [] = [97] := rfl
  have z1 : ([] ++ [[97]] ++ [List.replicate 100 (0 : Int)] : List (List Int)).getD 1 [] = List.replicate 100 0 := rfl
  have z2 : ([] ++ [[97]] ++ [List.replicate 100 (0 : Int)] ++ [[98]] : List (List Int)).getD 2 [] = [98] := rfl
  have l2 : ([] ++ [[97]] ++ [List.replicate 100 (0 : Int)] : List (List Int)).length = 2 := rfl
  have l3 : ([] ++ [[97]] ++ [List.replicate 100 (0 : Int)] ++ [[98]] : List (List Int)).length = 3 := rfl
  rw [z0, z1, z2, l2, l3, s1, s2, List.length_replicate]
  rfl
theorem fail_nil {D : Dk} (h : D.waits = []) (a t : Int) : Dk.fail D a t = ⟨D.sure, D.sure, []⟩ := by
  unfold Dk.fail
  rw [h]; rfl
theorem at_i {ls : List (List Int)} {i : Nat} (h : i < ls.length) : ls.getD (Int.toNat (i : Int)) [] = ls[i] := by
  rw [Int.toNat_natCast, List.getD_eq_getElem?_getD, List.getElem?_eq_getElem h]; rfl
theorem need_i {n : Nat} (h : n ≤ 1000000000) : IntKind.wrap .i64 (Int.tdiv (IntKind.wrap .i64 (IntKind.wrap .i64 ((n : Int) + 8) + 63)) 64) = (Frames.nsec n : Nat) := by
  rw [w64 (x := (n : Int) + 8) (by omega) (by omega), w64 (x := (n : Int) + 8 + 63) (by omega) (by omega), Int.tdiv_eq_ediv_of_nonneg (by omega), w64 (by omega) (by omega)]
  unfold Frames.nsec
  omega
/-- A log to which a record is added that fits. -/
theorem take_add {ls : List (List Int)} {i : Nat} (h : i < ls.length) : ls.take i ++ [ls[i]] = ls.take (i + 1) := (List.take_succ_eq_append_getElem h).symm

def allOnes : Int := 18446744073709551615
theorem kept_all {i : Nat} (hi : i < 64) : Disk.kept allOnes i = true := by
  have : ∀ i : Fin 64, Disk.kept allOnes i.val = true := by decide
  exact this ⟨i, hi⟩
theorem part_none (i : Nat) : Disk.part (-1) i = 64 := by unfold Disk.part; rw [if_neg (by omega)]
/-- All is kept: what was written one behind the other is there. -/
theorem failK_all (s cs : List (List Int)) (x : Nat) (hx : x + cs.length ≤ s.length) (hc : cs.length ≤ 64) (h64 : ∀ p ∈ cs, p.length = 64) (hs : ∀ p ∈ s, p.length = 64) :
    ∀ m, m ≤ cs.length → failK allOnes (-1) s (wl x cs) m = s.take x ++ (cs.take m ++ s.drop (x + m)) := by
  intro m
  induction m with
  | zero => intro _; rw [failK, List.take_zero, List.nil_append, Nat.add_zero, List.take_append_drop]
  | succ m ih =>
    intro hm
    have hlt : m < cs.length := by omega
    have hp := h64 _ (List.getElem_mem hlt)
    rw [failK, wl_at, List.getElem?_eq_getElem hlt]
    simp only [Option.map_some]
    rw [ih (by omega)]
    unfold Disk.step
    rw [if_pos (kept_all (by omega)), part_none, Int.toNat_natCast]
    have hlen : (s.take x ++ (cs.take m ++ s.drop (x + m))).length = s.length := by
      simp only [List.length_append, List.length_take, List.length_drop]; omega
    have hold : ((s.take x ++ (cs.take m ++ s.drop (x + m))).getD (x + m) []).length = 64 := by
      have hi : x + m < (s.take x ++ (cs.take m ++ s.drop (x + m))).length := by omega
      rw [List.getD_eq_getElem?_getD, List.getElem?_eq_getElem hi]
      have hmem := List.getElem_mem hi
      rcases List.mem_append.1 hmem with h | h
      · exact hs _ (List.mem_of_mem_take h)
      · rcases List.mem_append.1 h with h | h
        · exact h64 _ (List.mem_of_mem_take h)
        · exact hs _ (List.mem_of_mem_drop h)
    have e : List.take 64 cs[m] ++ List.drop 64 ((s.take x ++ (cs.take m ++ s.drop (x + m))).getD (x + m) []) = cs[m] := by
      rw [List.take_of_length_le (by omega), List.drop_eq_nil_of_le (by omega), List.append_nil]
    rw [e]
    have l1 : (s.take x).length = x := by rw [List.length_take]; omega
    have l2 : (cs.take m).length = m := by rw [List.length_take]; omega
    rw [List.set_append_right _ _ (by omega), l1, show x + m - x = m by omega, List.set_append_right _ _ (by omega), l2, Nat.sub_self, List.take_succ_eq_append_getElem hlt, List.append_assoc]
    congr 2
    rw [List.drop_eq_getElem_cons (show x + m < s.length by omega), List.set_cons_zero]
    rfl
structure StA (a1 : Bool) (D : Dk) (ls : List (List Int)) : Prop where
  lg : Lg D 1200 ls
  kept : if a1 = true then D.waits = [] ∧ D.sure = D.seen else D.waits = wl 0 (fsecs ls) ∧ D.sure = zs 1200
theorem StA.waits {a1 : Bool} {D : Dk} {ls : List (List Int)} (h : StA a1 D ls) : D.waits.length ≤ lenS ls := by
  have := h.kept
  cases a1 with
  | true => rw [if_pos rfl] at this; rw [this.1]; exact Nat.zero_le _
  | false => rw [if_neg (by decide)] at this; rw [this.1, wl_len, fsecs_len]; exact Nat.le_refl _
theorem all_end (l0 : List (List Int)) (a1 : Bool) {D : Dk} (h : StA a1 D l0) (hsh : shortL l0 = true) (hll : l0.length ≤ 1000) : WallsAll.j2 (Dk.fail D 18446744073709551615 (-1)) D l0 = some true := by
  have hl := h.lg.len
  have hsz := h.lg.size
  unfold WallsAll.j2
  rw [if_pos (by exact Nat.zero_le _), lt_all]
  intro p hp
  rw [lt_all]
  intro x hx
  rw [lt_all]
  intro D' hD'
  by_cases hw : D.waits.length ≤ 64
  · have hg : Lg (Dk.fail D 18446744073709551615 (-1)) 1200 l0 := by
      refine h.lg.ofSeen ?_
      have hk := h.kept
      cases a1 with
      | true =>
        rw [if_pos rfl] at hk
        rw [fail_nil hk.1]; exact hk.2
      | false =>
        rw [if_neg (by decide)] at hk
        have hc : (fsecs l0).length ≤ 64 := by
          have := hw
          rw [hk.1, wl_len] at this; exact this
        have hzl : (zs 1200).length = 1200 := List.length_replicate
        show failK allOnes (-1) D.sure D.waits D.waits.length = D.seen
        rw [hk.1, hk.2, wl_len, failK_all (zs 1200) (fsecs l0) 0 (by rw [fsecs_len, hzl]; omega) hc (fsecs_64 l0) (fun p hp => by rw [List.eq_of_mem_replicate hp]; exact List.length_replicate) _ (Nat.le_refl _), List.take_zero, List.nil_append, List.take_length, h.lg.seen, fsecs_len, Nat.zero_add, zs, zs, List.drop_replicate]
    rw [hg.told] at hp
    subst hp
    rw [iff_ (df (by omega)), if_pos ⟨by omega, hsh, hsh⟩, lt_is (dt rfl)]
  · rw [ift (dt (by omega))]
theorem all_l1 (l0 : List (List Int)) (a1 : Bool) (hs : l0.length + sumL l0 ≤ 20000) (hb : l0.length ≤ 40) :
    ∀ (d k i : Nat) (D : Dk), i + d = l0.length → d < k → StA a1 D (l0.take i) → WallsAll.l1 k l0 a1 (lenS (l0.take i) : Nat) D i = some true := by
  have hL := lenS_le l0
  have hsh : shortL l0 = true := short_of (n := 20000) (fun x hx => by have := sum_mem hx; omega) (by decide)
  intro d
  induction d with
  | zero =>
    intro k i D hi hk hg
    obtain ⟨k, rfl⟩ : ∃ q, k = q + 1 := ⟨k - 1, by omega⟩
    rw [List.take_of_length_le (by omega)] at hg ⊢
    have hw := hg.waits
    have hlen := hg.lg.len
    obtain ⟨g1, g2, _⟩ := hg.lg.open_
    have hend := all_end l0 a1 hg hsh (by omega)
    have hw0 : (List.length (openD D).waits : Int) = 0 := by rw [g2]; rfl
    unfold WallsAll.l1
    rw [iff_ (df (by omega)), if_pos ⟨by omega, by decide⟩, lt_is rfl, if_pos (by omega), lt_is hg.lg.told, lt_is rfl, lt_is rfl, if_pos ⟨by omega, hsh, hsh⟩, lt_is (dt rfl), iff_ (by rfl)]
    cases a1 with
    | true =>
      have hk := hg.kept
      rw [if_pos rfl] at hk
      rw [ift rfl, iff_ (bne_no (by rw [hk.1]; rfl)), iff_ (bne_no hw0)]
      exact hend
    | false =>
      rw [iff_ rfl, iff_ (bne_no hw0)]
      exact hend
  | succ d ih =>
    intro k i D hi hk hg
    obtain ⟨k, rfl⟩ : ∃ q, k = q + 1 := ⟨k - 1, by omega⟩
    have hlt : i < l0.length := by omega
    have hx := sum_mem (List.getElem_mem hlt)
    have ht := lenS_take l0 (i + 1)
    have ht0 := lenS_take l0 i
    have hta := take_add hlt
    have hw := hg.waits
    have hln : lenS (l0.take i) + Frames.nsec (l0[i]).length = lenS (l0.take (i + 1)) := by rw [← hta, lenS_snoc]
    unfold WallsAll.l1
    rw [at_i hlt, ift (dt (by omega)), if_pos ⟨by omega, by omega⟩, if_pos ⟨⟨by omega, by omega⟩, by omega, by omega⟩]
    by_cases hbig : 16384 < (l0[i]).length
    · obtain ⟨e1, e2, e3⟩ := bigI D (lenS (l0.take i)) hbig
      rw [lt_is e1, lt_is e2, lt_is e3, ift (by rfl), if_pos ⟨by omega, by omega⟩, lt_is (dt (by omega))]
    obtain ⟨b1, b2, b3, b4, b5⟩ := hg.lg.addI (l := l0[i]) (by omega) (by omega)
    rw [hta] at b2 b3
    rw [lt_is b1, lt_is b2, lt_is rfl, iff_ (by rfl)]
    cases a1 with
    | true =>
      rw [ift rfl, lt_is rfl]
      unfold WallsAll.j1
      rw [w64s (by omega)]
      exact ih k (i + 1) _ (by omega) (by omega) ⟨b3.sync, by rw [if_pos rfl]; exact ⟨rfl, rfl⟩⟩
    | false =>
      have hk := hg.kept
      rw [if_neg (by decide)] at hk
      rw [iff_ rfl]
      unfold WallsAll.j1
      rw [w64s (by omega)]
      refine ih k (i + 1) _ (by omega) (by omega) ⟨b3, ?_⟩
      rw [if_neg (by decide), b4, b5, hk.1, hk.2, ← hta, fsecs_snoc, wlq_app, Nat.zero_add, fsecs_len]
      exact ⟨rfl, rfl⟩
theorem WallsAll_pure (l0 : List (List Int)) (a1 : Bool) (hs0 : ∀ x ∈ l0, x.length ≤ 140737488351232) (v0 : ∀ x ∈ l0, ∀ z ∈ x, (Lit.int .u8 z).wf = true) : ∃ k, WallsAll.f k l0 a1 = some true := by
  refine ⟨100, ?_⟩
  obtain ⟨s1, s2, s3, s4, s5⟩ := start_is 1200
  unfold WallsAll.f
  simp only [show Int.toNat (1200 : Int) = 1200 from rfl]
  rw [alive_is, Option.bind_some, iff_ (by rfl)]
  by_cases hb : l0.length ≤ 40
  · rw [iff_ (df (by omega)), lt_is rfl]
    by_cases hr : recSize l0 > 20000
    · rw [ift (dt hr), Option.bind_some]
    · have hsz := recSize_le (by decide) hr
      rw [iff_ (df hr), if_pos (by exact Nat.zero_le _), lt_is s1, lt_is s2, lt_is rfl]
      refine all_l1 l0 a1 (by omega) hb l0.length 100 0 (openD (Disk.blank 1200)) (by omega) (by omega) ⟨s3, ?_⟩
      have e : (openD (Disk.blank 1200)).seen = zs 1200 := by
        rw [s3.seen]; rfl
      split
      · exact ⟨s4, s5⟩
      · exact ⟨s4, by rw [s5, e]⟩
  · rw [ift (dt (by omega)), Option.bind_some]
end Go.Proofs.Ytmpkoacpakepfaa.Pl
