/- Texts of this work, one behind the other. -/
import Derived.Test.YticnjkdaccacaaaGreatDoorVWallsPlay13
section
namespace Go.Proofs.YticnjkdaccacaaaGreatDoor.Sx
open Go Go.RowKit Base _root_.Go.Proofs.YticnjkdaccacaaaGreatDoor.Own Disk
theorem take_flat {l : List (List Int)} {i : Nat} (hi : i < l.length) : (l.take i).flatten ++ l.getD i [] = (l.take (i + 1)).flatten := by
  rw [List.take_succ_eq_append_getElem hi, List.flatten_append, List.getD_eq_getElem?_getD, List.getElem?_eq_getElem hi]; simp
theorem writeR_len (D : Dk) (x : Int) (b : List Int) : (D.writeR x b).seen.length = D.seen.length := by
  unfold Dk.writeR
  split
  · simp [Dk.write]
  · rfl
theorem parse_facts : ∀ (k : Nat) (b : List Int), secs (parse k b) * 64 ≤ b.length ∧ (parse k b).length ≤ secs (parse k b) := by
  intro k
  induction k with
  | zero => intro b; exact ⟨by simp [parse, secs], Nat.zero_le _⟩
  | succ k ih =>
    intro b
    unfold parse
    cases h : Frames.get b with
    | none => exact ⟨by simp [secs], Nat.zero_le _⟩
    | some p =>
      obtain ⟨r, m⟩ := p
      obtain ⟨_, h2, h3, _⟩ := get_len h
      obtain ⟨i1, i2⟩ := ih (b.drop (m * 64))
      rw [List.length_drop] at i1
      have e : secs ((r, m) :: parse k (b.drop (m * 64))) = m + secs (parse k (b.drop (m * 64))) := by unfold secs; simp
      simp only
      rw [e, List.length_cons]
      exact ⟨by omega, by omega⟩
section
variable {w w0 : World} {d : Nat} {D : Dk} {R : List Asn}
set_option maxRecDepth 100000 in
set_option maxHeartbeats 2000000 in
theorem open_call (S : Sat w0 w (diskA d D :: R)) (hwt : D.waits.length ≤ 100000000) :
    Calls Tryz.prog 28 #[.pointer (some ⟨d, 0, none⟩)] w fun e w' => ∃ g A c, e = .returned (.tuple #[.pointer (some ⟨g, 0, none⟩), .slice A (recsD D).length c, .int .i64 0]) ∧ vok (.tuple #[.pointer (some ⟨g, 0, none⟩), .slice A (recsD D).length c, .int .i64 0]) = true ∧
      Sat w0 w' (logA g d (atD D) :: recsA .u8 45 5 A c (recsD D) :: diskA d (openD D) :: R) := by
  have hok := disk_seen S
  have hm := hok.most
  have hpos := hok.pos
  have hfl := flat_len hok.seen
  obtain ⟨n, hn⟩ : ∃ n, n = D.seen.length := ⟨_, rfl⟩
  obtain ⟨all, hall⟩ : ∃ all, all = D.seen.flatten := ⟨_, rfl⟩
  obtain ⟨hp1, hp2⟩ := parse_facts (all.length + 1) all
  have hfd : found D = parse (all.length + 1) all := by unfold found; rw [hall]
  have hat : atD D = secs (parse (all.length + 1) all) := by unfold atD; rw [hfd]
  have hatn : atD D ≤ n := by rw [hat]; rw [← hall, ← hn] at hfl; omega
  refine calls_marks (N := 83) [.pointer (some ⟨d, 0, none⟩)] Tryz.func28 rfl rfl rfl (vok_c rfl rfl) fun a fr => ?_
  skip; (repeat (with_reducible refine wp_seq ?_)); refine wp_region_lit ?_
  refine wl_allocv (v := .pointer none) fr rfl rfl rfl rfl zeroLP rfl rfl S ?_
  intro w1 b2 S a fr
  refine wl_allocv (v := .slice none 0 0) fr rfl rfl rfl rfl zeroRS rfl rfl S ?_
  intro w2 b3 S a fr
  refine wl_run orcL_ok 1 rfl fr fun a fr => ?_
  refine wpList_nil ?_; (repeat (with_reducible refine then_n ?_))
  skip; (repeat (with_reducible refine wp_seq ?_)); refine wp_region_lit ?_
  refine wl_run orcL_ok 1 rfl fr fun a fr => ?_
  refine wl_call fr rfl rfl rfl rfl enSize (disk_size (S.frontAt 2 rfl)) ?_
  rintro _ w ⟨rfl, hw⟩
  subst hw
  refine ⟨_, rfl, vok_small hm, fun a fr => ?_⟩
  rw [← hn] at fr
  refine wl_run orcL_ok 1 rfl fr fun a fr => ?_
  refine wpList_nil ?_; (repeat (with_reducible refine then_n ?_))
  have fr := fr.bool (d := 15) rfl (show ((n : Int) == 0) = false by simp; omega)
  skip; (repeat (with_reducible refine wp_seq ?_))
  refine cw_f fr rfl ?_
  refine wp_skip ?_
  (with_reducible refine then_n ?_)
  skip; (repeat (with_reducible refine wp_seq ?_)); refine wp_region_lit ?_
  refine wl_run orcL_ok 1 rfl fr fun a fr => ?_
  refine wpList_nil ?_; (repeat (with_reducible refine then_n ?_))
  skip; (repeat (with_reducible refine wp_seq ?_)); refine wp_region_lit ?_
  refine wl_run orcL_ok 1 rfl fr fun a fr => ?_
  refine wl_call fr rfl rfl rfl rfl enSize (disk_size (S.frontAt 2 rfl)) ?_
  rintro _ w ⟨rfl, hw⟩
  subst hw
  refine ⟨_, rfl, vok_small hm, fun a fr => ?_⟩
  rw [← hn] at fr
  refine wl_run orcL_ok 1 rfl fr fun a fr => ?_
  refine wpList_nil ?_; (repeat (with_reducible refine then_n ?_))
  have S := S.nilRow .u8 5
  skip; (repeat (with_reducible refine wp_seq ?_))
  refine wp_block ?_
  refine cw_loop (fun q a w => ∃ (i : Nat) (A : Option Addr) (c : Nat), i + q = n + 1 ∧ i ≤ n ∧
      Fr 83 a [(0, .pointer (some ⟨d, 0, none⟩)), (2, .pointer (some ⟨b2, 0, none⟩)), (3, .pointer (some ⟨b3, 0, none⟩)), (5, .slice A ((D.seen.take i).flatten).length c), (17, .int .i64 (n : Int)), (18, .int .i64 (i : Int))] ∧
      Sat w0 w (ownA .u8 5 A c ((D.seen.take i).flatten) :: stA 66 b3 [.slice none 0 0] :: stA 65 b2 [.pointer none] :: diskA d D :: R)) (n + 1)
    ⟨0, none, 0, by omega, by omega, fr.sub ⟨rfl, rfl, rfl, rfl, rfl, rfl, trivial⟩, S⟩ ?_ ?_
  · rintro a w ⟨i, A, c, h, h', -⟩
    omega
  clear fr S
  rintro q a w ⟨i, A, c, hi, hi', fr, S⟩
  skip; (repeat (with_reducible refine wp_seq ?_)); refine wp_region_lit ?_
  refine wl_run orcL_ok 1 rfl fr fun a fr => ?_
  refine wpList_nil ?_; (repeat (with_reducible refine then_n ?_))
  by_cases hlt : i < n
  · have fr := fr.bool (d := 19) rfl (decide_eq_true (show (i : Int) < (n : Int) by omega))
    skip; (repeat (with_reducible refine wp_seq ?_))
    refine cw_t fr rfl ?_
    refine wp_skip ?_
    (with_reducible refine then_n ?_)
    skip; (repeat (with_reducible refine wp_seq ?_))
    refine wp_block ?_
    skip; (repeat (with_reducible refine wp_seq ?_)); refine wp_region_lit ?_
    refine wl_run orcL_ok 2 rfl fr fun a fr => ?_
    refine wpList_nil ?_; (repeat (with_reducible refine then_n ?_))
    skip; (repeat (with_reducible refine wp_seq ?_)); refine wp_region_lit ?_
    refine wl_run orcL_ok 2 rfl fr fun a fr => ?_
    have S : Sat w0 w (diskA d D :: ownA .u8 5 A c ((D.seen.take i).flatten) :: stA 66 b3 [.slice none 0 0] :: stA 65 b2 [.pointer none] :: R) := S.frontAt 3 rfl
    refine wl_call fr rfl rfl rfl rfl enRead (disk_read S (x := (i : Int)) ⟨by omega, by omega⟩) ?_
    rintro _ w1 ⟨A1, c1, rfl, hv, S⟩
    refine ⟨_, rfl, hv, fun a fr => ?_⟩
    refine wl_run orcL_ok 5 rfl fr fun a fr => ?_
    refine wpList_nil ?_; (repeat (with_reducible refine then_n ?_))
    have hk := Sat.ownAt S 0 rfl
    rw [Int.toNat_natCast] at hk S fr
    have hb1 : ((D.seen.take i).flatten).length ≤ 1000000 := by
      rw [flat_len (fun p hp => hok.seen p (List.mem_of_mem_take hp)), List.length_take]; omega
    have hb2 : (D.seen.getD i []).length = 64 := (seen_pc hok (by omega)).1
    have S : Sat w0 w1 (ownA .u8 5 A c ((D.seen.take i).flatten) :: ownA .u8 5 A1 c1 (D.seen.getD i []) :: diskA d D :: stA 66 b3 [.slice none 0 0] :: stA 65 b2 [.pointer none] :: R) := S.frontAt 2 rfl
    skip; (repeat (with_reducible refine wp_seq ?_)); refine wp_region_lit ?_
    refine wl_run orcL_ok 2 rfl fr fun a fr => ?_
    refine wl_app litB fr rfl rfl rfl rfl rfl rfl rfl rfl hk (by omega) S ?_
    intro w2 A2 c2 S a fr
    rw [take_flat (by omega)] at S fr
    refine wl_run orcL_ok 1 rfl fr fun a fr => ?_
    refine wpList_nil ?_; (repeat (with_reducible refine then_n ?_))
    (repeat (first | (with_reducible refine then_n ?_) | (with_reducible refine blk_n ?_) | (with_reducible refine ng_n ?_)))
    skip; (repeat (with_reducible refine wp_seq ?_)); refine wp_region_lit ?_
    refine wl_run orcL_ok 2 rfl fr fun a fr => ?_
    refine wpList_nil ?_; (repeat (with_reducible refine then_n ?_))
    have fr := fr.spell (d := 18) rfl (congrArg (Value.int .i64) (show IntKind.wrap .i64 ((i : Int) + 1) = ((i + 1 : Nat) : Int) by rw [show IntKind.wrap .i64 ((i : Int) + 1) = (i : Int) + 1 from IntWalk.i64_in _ ⟨by omega, by omega⟩]; omega))
    refine ⟨i + 1, A2, c2, by omega, by omega, fr.sub ⟨rfl, rfl, rfl, rfl, rfl, rfl, trivial⟩, ?_⟩
    have S := S.mask [true, false]
    exact ((S.frontAt 3 rfl).frontAt 3 rfl).frontAt 2 rfl
  have fr := fr.bool (d := 19) rfl (decide_eq_false (show ¬ (i : Int) < (n : Int) by omega))
  obtain rfl : i = n := by omega
  rw [hn, List.take_length, ← hall] at S fr
  rw [← hn] at fr
  have hal : all.length = i * 64 := by rw [hall, hfl, hn]
  skip; (repeat (with_reducible refine wp_seq ?_))
  refine cw_f fr rfl ?_
  refine wp_exit ?_
  skip; (repeat (first | (with_reducible refine then_e ?_) | (with_reducible refine ng_e ?_) | (with_reducible refine blk_e (by decide) ?_))); (with_reducible refine blk_y ?_); (repeat (with_reducible refine then_n ?_))
  have S : Sat w0 w (stA 65 b2 [.pointer none] :: ownA .u8 5 A c all :: stA 66 b3 [.slice none 0 0] :: diskA d D :: R) := S.frontAt 2 rfl
  skip; (repeat (with_reducible refine wp_seq ?_)); refine wp_region_lit ?_
  refine wl_run orcL_ok 1 rfl fr fun a fr => ?_
  refine wl_build (cs := [.pointer (some ⟨d, 0, none⟩), .int .i64 0]) (L2 := [(0, .pointer (some ⟨d, 0, none⟩))]) fr rfl rfl rfl rfl (by simpa using (fr.ev (o := .tmp 31) rfl).1) (by kernel_rfl) rfl fun a fr => ?_
  refine wl_build (cs := [.pointer (some ⟨d, 0, none⟩), .int .i64 0]) (L2 := [(0, .agg #[.pointer (some ⟨d, 0, none⟩), .int .i64 0])]) fr rfl rfl rfl rfl (by simpa using (fr.ev (o := .tmp 32) rfl).1) (by kernel_rfl) rfl fun a fr => ?_
  refine wl_boxs fr rfl rfl rfl rfl rfl rfl S ?_
  intro w1 g S a fr
  have S : Sat w0 w1 (stA 65 b2 [.pointer none] :: logA g d 0 :: ownA .u8 5 A c all :: stA 66 b3 [.slice none 0 0] :: diskA d D :: R) := S.frontAt 1 rfl
  refine wl_stv orcL_ok fr rfl rfl rfl rfl rfl rfl rfl rfl S ?_
  intro w2 S
  refine wpList_nil ?_; (repeat (with_reducible refine then_n ?_))
  skip; (repeat (with_reducible refine wp_seq ?_)); refine wp_region_lit ?_
  refine wl_run orcL_ok 1 rfl fr fun a fr => ?_
  refine wl_call fr rfl rfl rfl rfl enFound (found_call (fr.vok (d := 35) rfl) S) ?_
  rintro _ w3 ⟨bx, rfl, S⟩
  refine ⟨_, rfl, rfl, fun a fr => ?_⟩
  refine wpList_nil ?_; (repeat (with_reducible refine then_n ?_))
  skip; (repeat (with_reducible refine wp_seq ?_))
  refine wp_block ?_
  have S := S.noRecs .u8 45 5
  have S : Sat w0 w3 (zA b3 b2 g d [] :: stA 45 bx [.slice A all.length c] :: ownA .u8 5 A c all :: diskA d D :: R) := by
    have S1 : Sat w0 w3 (stA 66 b3 [.slice none 0 0] :: recsA .u8 45 5 none 0 [] :: stA 65 b2 [.pointer (some ⟨g, 0, none⟩)] :: logA g d 0 :: stA 45 bx [.slice A all.length c] :: ownA .u8 5 A c all :: diskA d D :: R) :=
      (((S.frontAt 3 rfl).frontAt 3 rfl).frontAt 2 rfl).frontAt 5 rfl
    exact Sat.shutZ (l := []) S1
  refine cw_rangeF fr rfl enFound1 S ?_
  intro fn lp dd w4 S
  have S : Sat w0 w4 (zA b3 b2 g d [] :: objA (.loop _) lp :: stA 45 bx [.slice A all.length c] :: ownA .u8 5 A c all :: diskA d D :: objA (.deferred (some [])) dd :: R) := (((((S.frontAt 1 rfl).frontAt 5 rfl).frontAt 5 rfl).frontAt 5 rfl).frontAt 4 rfl).frontAt 5 rfl
  refine (found_iter (zA b3 b2 g d) (by omega) rfl S ?_).mono ?_
  · intro w5 l r m A5 c5 M hv hlb hsb S
    have hvm : vok (.int .i64 (m : Int)) = true := by
      have h1 : (Lit.int .i64 (m : Int)).wf = true := by
        rw [wf_int]
        have h2 : IntKind.i64.min = -9223372036854775808 := by decide
        have h3 : IntKind.i64.max = 9223372036854775807 := by decide
        omega
      exact h1
    have fr7 := (fr.put (d := 37) (v := .slice A5 r.length c5) (by decide) hv).put (d := 38) (v := .int .i64 m) (by decide) hvm
    have hact : (a.put (some 37) (.slice A5 r.length c5)).put (some 38) (.int .i64 m) = { tmps := (#[37, 38].zip #[Value.slice A5 r.length c5, Value.int .i64 m]).foldl (fun tmps (t, a) => tmps.setIfInBounds t a) a.tmps, defers := [] } := by
      have := fr.defers
      cases a
      simp only at this
      subst this
      simp [Act.put]
    rw [hact] at fr7
    refine roundIn_of_wpIn trivial ?_
    refine wpIn_seq ?_
    refine regIn (fun _ _ h => h) (by simp) ?_
    refine wl_run orcL_ok 1 rfl fr7 fun a' fr => ?_
    refine wpList_nil ?_
    refine regIn (fun _ _ h => h) (by simp) ?_
    refine wl_run orcL_ok 1 rfl fr fun a' fr => ?_
    refine wpList_nil ?_
    have hlp := Sat.objAt S 2 rfl
    refine ⟨_, run_beginRound hlp rfl, ?_⟩
    have S : Sat w0 _ (objA (.loop _) lp :: ownA .u8 5 A5 c5 r :: zA b3 b2 g d l :: M) := S.frontAt 2 rfl
    have S := S.putLoop fun r => { r with state := .busy }
    have S : Sat w0 _ (zA b3 b2 g d l :: objA (.loop _) lp :: ownA .u8 5 A5 c5 r :: M) := S.frontAt 2 rfl
    obtain ⟨A6, c6, S⟩ := S.openZ
    refine wpIn_block ?_
    refine wpIn_seq ?_
    refine regIn (fun _ _ h => h) (by simp) ?_
    refine wl_ldf orcL_ok (Sat.varAt S 0 rfl) fr rfl rfl rfl rfl rfl rfl rfl fun a' fr => ?_
    refine wl_run orcL_ok 1 rfl fr fun a fr => ?_
    have S : Sat w0 _ (ownA .u8 5 A5 c5 r :: recsA .u8 45 5 A6 c6 (l.map (·.1)) :: stA 66 b3 [.slice A6 (l.map (·.1)).length c6] :: stA 65 b2 [.pointer (some ⟨g, 0, none⟩)] :: logA g d (secs l) :: objA (.loop _) lp :: M) := (S.frontAt 1 rfl).frontAt 5 rfl
    refine wl_recapp (t := 66) Tryz.underlying66 litRi litRj (by decide) fr rfl rfl rfl rfl rfl rfl rfl rfl rfl rfl (fun _ => rfl) rfl (by rw [List.length_map]; omega) rfl S ?_
    intro w6 A7 c7 S a6 fr
    have hmm : l.map (·.1) ++ [r] = (l ++ [(r, m)]).map (·.1) := by simp
    rw [hmm] at S fr
    have S : Sat w0 _ (stA 66 b3 [.slice A6 (l.map (·.1)).length c6] :: recsA .u8 45 5 A7 c7 ((l ++ [(r, m)]).map (·.1)) :: stA 65 b2 [.pointer (some ⟨g, 0, none⟩)] :: logA g d (secs l) :: objA (.loop _) lp :: M) := S.frontAt 1 rfl
    refine wl_stv orcL_ok fr rfl rfl rfl rfl rfl rfl rfl rfl S ?_
    intro w7 S
    refine wpList_nil ?_
    refine regIn (fun _ _ h => h) (by simp) ?_
    refine wl_ldf orcL_ok (Sat.varAt S 2 rfl) fr rfl rfl rfl rfl rfl rfl rfl fun a' fr => ?_
    refine wl_run orcL_ok 3 rfl fr fun a fr => ?_
    refine wl_ldf orcL_ok (Sat.stAt S 3 rfl (j := 1) rfl) fr rfl rfl rfl rfl rfl rfl rfl fun a fr => ?_
    refine wl_run orcL_ok 5 rfl fr fun a fr => ?_
    have hse : secs (l ++ [(r, m)]) = secs l + m := secs_snoc l (r, m)
    have fr := fr.spell (d := 49) rfl (congrArg (Value.int .i64) (show IntKind.wrap .i64 ((secs l : Int) + (m : Int)) = ((secs (l ++ [(r, m)]) : Nat) : Int) by rw [show IntKind.wrap .i64 ((secs l : Int) + (m : Int)) = (secs l : Int) + (m : Int) from IntWalk.i64_in _ ⟨by omega, by omega⟩, hse]; omega))
    have S : Sat w0 _ (logA g d (secs l) :: stA 66 b3 [.slice A7 ((l ++ [(r, m)]).map (·.1)).length c7] :: recsA .u8 45 5 A7 c7 ((l ++ [(r, m)]).map (·.1)) :: stA 65 b2 [.pointer (some ⟨g, 0, none⟩)] :: objA (.loop _) lp :: M) := S.frontAt 3 rfl
    refine wl_stf orcL_ok fr rfl rfl rfl (j := 1) rfl rfl rfl rfl rfl S rfl ?_
    intro w8 S
    refine wpList_nil ?_
    have S : Sat w0 _ (stA 66 b3 [.slice A7 ((l ++ [(r, m)]).map (·.1)).length c7] :: recsA .u8 45 5 A7 c7 ((l ++ [(r, m)]).map (·.1)) :: stA 65 b2 [.pointer (some ⟨g, 0, none⟩)] :: logA g d (secs (l ++ [(r, m)])) :: objA (.loop _) lp :: M) := ((S.frontAt 3 rfl).frontAt 3 rfl).frontAt 3 rfl
    have S := S.shutZ
    have S : Sat w0 _ (objA (.loop _) lp :: zA b3 b2 g d (l ++ [(r, m)]) :: M) := S.frontAt 1 rfl
    refine ⟨_, _, run_endRound none (Sat.objAt S 0 rfl), rfl, ?_⟩
    exact (S.putObj _).frontAt 1 rfl
  · rintro e w5 ⟨rfl, v, S⟩
    refine ⟨⟨_, rfl⟩, Sat.objAt S 1 rfl, ?_⟩
    have S : Sat w0 _ (objA (.loop _) lp :: zA b3 b2 g d (parse (all.length + 1) all) :: stA 45 bx [v] :: ownA .u8 5 A c all :: diskA d D :: objA (.deferred (some [])) dd :: R) := S.frontAt 1 rfl
    have S := S.putLoop fun r => { r with state := .exhausted }
    refine blk_n ?_
    (repeat (with_reducible refine then_n ?_))
    have fr : FrD [{ target := .collected dd, args := #[] }] 83 { tmps := a.tmps, defers := { target := .collected dd, args := #[] } :: a.defers } _ := ⟨fr.size, by rw [fr.defers], fr.get⟩
    rw [← hfd] at S
    have S : Sat w0 _ (zA b3 b2 g d (found D) :: diskA d D :: ownA .u8 5 A c all :: objA (.deferred (some [])) dd :: R) := (((S.frontAt 5 rfl).frontAt 4 rfl).frontAt 5 rfl).frontAt 4 rfl |> fun h => (h.mask [true, true, true, true, false, false])
    obtain ⟨A6, c6, S⟩ := S.openZ
    skip; (repeat (with_reducible refine wp_seq ?_)); refine wp_region_lit ?_
    refine wl_make litB fr rfl rfl rfl rfl rfl rfl ⟨by decide, by decide⟩ S ?_
    intro w6 A7 c7 S a1 fr
    have h64 : List.replicate (Int.toNat 64) (0 : Int) = List.replicate 64 0 := rfl
    rw [h64] at S fr
    refine wl_run orcL_ok 1 rfl fr fun a fr => ?_
    refine wpList_nil ?_; (repeat (with_reducible refine then_n ?_))
    skip; (repeat (with_reducible refine wp_seq ?_)); refine wp_region_lit ?_
    refine wl_ldf orcL_ok (Sat.varAt S 3 rfl) fr rfl rfl rfl rfl rfl rfl rfl fun a fr => ?_
    refine wl_run orcL_ok 3 rfl fr fun a fr => ?_
    refine wl_ldf orcL_ok (Sat.stAt S 4 rfl (j := 1) rfl) fr rfl rfl rfl rfl rfl rfl rfl fun a fr => ?_
    refine wl_run orcL_ok 1 rfl fr fun a fr => ?_
    refine wpList_nil ?_; (repeat (with_reducible refine then_n ?_))
    have S : Sat w0 _ (diskA d D :: ownA .u8 5 A7 c7 (List.replicate 64 0) :: ownA .u8 5 A c all :: stA 66 b3 [.slice A6 (recsD D).length c6] :: recsA .u8 45 5 A6 c6 (recsD D) :: stA 65 b2 [.pointer (some ⟨g, 0, none⟩)] :: logA g d (atD D) :: objA (.deferred (some [])) dd :: R) := ((S.frontAt 6 rfl).frontAt 1 rfl).frontAt 6 rfl
    skip; (repeat (with_reducible refine wp_seq ?_))
    refine wp_block ?_
    refine cw_loop (fun q a w => ∃ (j : Nat) (D1 : Dk), j + q = i + 1 ∧ j ≤ i ∧ clr all (i - j) j D1 = clr all (i - atD D) (atD D) D ∧ D1.seen.length = i ∧ D1.waits.length ≤ 100000000 + j ∧
      FrD [{ target := .collected dd, args := #[] }] 83 a [(0, .pointer (some ⟨d, 0, none⟩)), (2, .pointer (some ⟨b2, 0, none⟩)), (3, .pointer (some ⟨b3, 0, none⟩)), (5, .slice A all.length c), (11, .slice A7 (List.replicate 64 (0 : Int)).length c7), (12, .int .i64 (j : Int))] ∧
      Sat w0 w (diskA d D1 :: ownA .u8 5 A7 c7 (List.replicate 64 0) :: ownA .u8 5 A c all :: stA 66 b3 [.slice A6 (recsD D).length c6] :: recsA .u8 45 5 A6 c6 (recsD D) :: stA 65 b2 [.pointer (some ⟨g, 0, none⟩)] :: logA g d (atD D) :: objA (.deferred (some [])) dd :: R)) (i + 1 - atD D)
      ⟨atD D, D, by omega, hatn, rfl, hn.symm, by omega, fr.sub ⟨rfl, rfl, rfl, rfl, rfl, rfl, trivial⟩, S⟩ ?_ ?_
    · rintro a w ⟨j, D1, h, h', -⟩
      omega
    clear fr S
    rintro q a w ⟨j, D1, hj, hji, hgo, hl1, hw1, fr, S⟩
    have hmc := (S.frontAt 2 rfl).own.2
    have hnc := (S.frontAt 1 rfl).own.2
    skip; (repeat (with_reducible refine wp_seq ?_)); refine wp_region_lit ?_
    refine wl_run orcL_ok 2 rfl fr fun a fr => ?_
    refine wl_call fr rfl rfl rfl rfl enSize (disk_size S) ?_
    rintro _ w ⟨rfl, hw⟩
    subst hw
    refine ⟨_, rfl, vok_small (by omega), fun a fr => ?_⟩
    rw [hl1] at fr
    refine wl_run orcL_ok 1 rfl fr fun a fr => ?_
    refine wpList_nil ?_; (repeat (with_reducible refine then_n ?_))
    by_cases hlt : j < i
    · have fr := fr.bool (d := 62) rfl (decide_eq_true (show (j : Int) < (i : Int) by omega))
      skip; (repeat (with_reducible refine wp_seq ?_))
      refine cw_t fr rfl ?_
      refine wp_skip ?_
      (with_reducible refine then_n ?_)
      skip; (repeat (with_reducible refine wp_seq ?_))
      refine wp_block ?_
      have hcl : clr all (i - j) j D1 = clr all (i - (j + 1)) (j + 1) (if (all.drop (j * 64)).take 64 = List.replicate 64 0 then D1 else D1.writeR j (List.replicate 64 0)) := by
        rw [show i - j = (i - (j + 1)) + 1 by omega, clr]
      skip; (repeat (with_reducible refine wp_seq ?_)); refine wp_region_lit ?_
      refine wl_run orcL_ok 6 rfl fr fun a fr => ?_
      have fr := fr.spell (d := 67) rfl (congrArg (Value.int .i64) (show IntKind.wrap .i64 ((j : Int) * 64) = ((j * 64 : Nat) : Int) by rw [show IntKind.wrap .i64 ((j : Int) * 64) = (j : Int) * 64 from IntWalk.i64_in _ ⟨by omega, by omega⟩]; omega))
      have fr := fr.spell (d := 70) rfl (congrArg (Value.int .i64) (show IntKind.wrap .i64 (IntKind.wrap .i64 ((j : Int) + 1) * 64) = (((j + 1) * 64 : Nat) : Int) by rw [show IntKind.wrap .i64 ((j : Int) + 1) = (j : Int) + 1 from IntWalk.i64_in _ ⟨by omega, by omega⟩, show IntKind.wrap .i64 (((j : Int) + 1) * 64) = ((j : Int) + 1) * 64 from IntWalk.i64_in _ ⟨by omega, by omega⟩]; omega))
      have hdl : ((all.drop (j * 64)).take 64).length = 64 := by rw [List.length_take, List.length_drop]; omega
      refine wl_val fr rfl rfl rfl (slice_run orcL_ok fr (vlo := some (.int .i64 ((j * 64 : Nat) : Int))) (vhi := some (.int .i64 (((j + 1) * 64 : Nat) : Int))) (vmx := none) rfl rfl (by exact congrArg some (fr.ev (o := .tmp 67) rfl).1) (by exact congrArg some (fr.ev (o := .tmp 70) rfl).1) rfl rfl (sl_mid _ 5 .i64 .i64 Tryz.underlying45 infoB A all.length c (j * 64) ((j + 1) * 64) _ _ rfl rfl (by omega) (by omega)) w) (vok_sl ⟨by omega, by omega⟩) fun a fr => ?_
      have fr := fr.spell (d := 71) rfl (show Value.slice (dropA A c (j * 64)) ((j + 1) * 64 - j * 64) (c - j * 64) = .slice (dropA A c (j * 64)) ((all.drop (j * 64)).take 64).length (c - j * 64) by rw [hdl]; congr 1; omega)
      refine wl_run orcL_ok 1 rfl fr fun a fr => ?_
      refine wl_call fr rfl rfl rfl rfl enEqual (equal_call (((Sat.ownAt S 2 rfl).drop hmc.1).take 64) (Sat.ownAt S 1 rfl) ⟨by omega, by omega⟩ hnc) ?_
      rintro _ w ⟨rfl, hw⟩
      subst hw
      refine ⟨_, rfl, rfl, fun a fr => ?_⟩
      refine wl_run orcL_ok 1 rfl fr fun a fr => ?_
      refine wpList_nil ?_; (repeat (with_reducible refine then_n ?_))
      by_cases heq : (all.drop (j * 64)).take 64 = List.replicate 64 0
      · have fr := fr.bool (d := 74) rfl (show (!decide ((all.drop (j * 64)).take 64 = List.replicate 64 0)) = false by rw [decide_eq_true heq]; rfl)
        rw [if_pos heq] at hcl
        skip; (repeat (with_reducible refine wp_seq ?_))
        refine cw_f fr rfl ?_
        refine wp_skip ?_
        (repeat (first | (with_reducible refine then_n ?_) | (with_reducible refine blk_n ?_) | (with_reducible refine ng_n ?_)))
        skip; (repeat (with_reducible refine wp_seq ?_)); refine wp_region_lit ?_
        refine wl_run orcL_ok 3 rfl fr fun a fr => ?_
        refine wpList_nil ?_; (repeat (with_reducible refine then_n ?_))
        have fr := fr.spell (d := 12) rfl (congrArg (Value.int .i64) (show IntKind.wrap .i64 ((j : Int) + 1) = ((j + 1 : Nat) : Int) by rw [show IntKind.wrap .i64 ((j : Int) + 1) = (j : Int) + 1 from IntWalk.i64_in _ ⟨by omega, by omega⟩]; omega))
        exact ⟨j + 1, D1, by omega, by omega, by rw [← hcl]; exact hgo, hl1, by omega, fr.sub ⟨rfl, rfl, rfl, rfl, rfl, rfl, trivial⟩, S⟩
      · have fr := fr.bool (d := 74) rfl (show (!decide ((all.drop (j * 64)).take 64 = List.replicate 64 0)) = true by rw [decide_eq_false heq]; rfl)
        rw [if_neg heq] at hcl
        have hww := writeR_waits D1 j (List.replicate 64 0)
        have hwl := writeR_len D1 j (List.replicate 64 0)
        skip; (repeat (with_reducible refine wp_seq ?_))
        refine cw_t fr rfl ?_
        skip; (repeat (with_reducible refine wp_seq ?_)); refine wp_region_lit ?_
        refine wl_run orcL_ok 3 rfl fr fun a fr => ?_
        refine wl_call fr rfl rfl rfl rfl enWrite (disk_write S _ (Sat.ownAt S 1 rfl) ⟨by omega, by rw [List.length_replicate]; decide⟩) ?_
        rintro _ w ⟨rfl, hv, S⟩
        refine ⟨_, rfl, hv, fun a fr => ?_⟩
        refine wpList_nil ?_; (repeat (with_reducible refine then_n ?_))
        (repeat (first | (with_reducible refine then_n ?_) | (with_reducible refine blk_n ?_) | (with_reducible refine ng_n ?_)))
        skip; (repeat (with_reducible refine wp_seq ?_)); refine wp_region_lit ?_
        refine wl_run orcL_ok 3 rfl fr fun a fr => ?_
        refine wpList_nil ?_; (repeat (with_reducible refine then_n ?_))
        have fr := fr.spell (d := 12) rfl (congrArg (Value.int .i64) (show IntKind.wrap .i64 ((j : Int) + 1) = ((j + 1 : Nat) : Int) by rw [show IntKind.wrap .i64 ((j : Int) + 1) = (j : Int) + 1 from IntWalk.i64_in _ ⟨by omega, by omega⟩]; omega))
        exact ⟨j + 1, D1.writeR j (List.replicate 64 0), by omega, by omega, by rw [← hcl]; exact hgo, by rw [hwl]; exact hl1, by omega, fr.sub ⟨rfl, rfl, rfl, rfl, rfl, rfl, trivial⟩, S⟩
    have fr := fr.bool (d := 62) rfl (decide_eq_false (show ¬ (j : Int) < (i : Int) by omega))
    obtain rfl : j = i := by omega
    have hfin : D1 = clr all (j - atD D) (atD D) D := by rw [← hgo, Nat.sub_self]; rfl
    skip; (repeat (with_reducible refine wp_seq ?_))
    refine cw_f fr rfl ?_
    refine wp_exit ?_
    skip; (repeat (first | (with_reducible refine then_e ?_) | (with_reducible refine ng_e ?_) | (with_reducible refine blk_e (by decide) ?_))); (with_reducible refine blk_y ?_); (repeat (with_reducible refine then_n ?_))
    have S : Sat w0 w (stA 65 b2 [.pointer (some ⟨g, 0, none⟩)] :: stA 66 b3 [.slice A6 (recsD D).length c6] :: diskA d D1 :: logA g d (atD D) :: recsA .u8 45 5 A6 c6 (recsD D) :: objA (.deferred (some [])) dd :: R) := by
      have S := S.mask [true, false, false]
      exact (((((S.frontAt 5 rfl).frontAt 3 rfl).frontAt 5 rfl).frontAt 3 rfl).frontAt 4 rfl).frontAt 5 rfl
    have hvr := (Sat.varAt S 1 rfl).2
    skip; (repeat (with_reducible refine wp_seq ?_))
    refine wp_region_sl [.one (0, true, some 79), .one (1, true, some 80), .one (2, true, some 81), .one (3, false, some 82), .one (4, false, none), .one (5, false, none), .one (6, true, some 4)]
                [.one ⟨true, some 79, (Go.Op.load 65 (Go.Operand.tmp 2)), 65, none⟩,
                .one ⟨true, some 80, (Go.Op.load 66 (Go.Operand.tmp 3)), 66, none⟩,
                .one ⟨true, some 81, (Go.Op.move (Go.Operand.tmp 0)), 24, none⟩,
                .one ⟨false, some 82, (Go.Op.call { callee := (Go.Callee.value (Go.Operand.func 15)), args := #[(Go.Operand.tmp 81)], argTypes := #[24] }), 25, none⟩,
                .one ⟨false, none, (Go.Op.store 65 (Go.Operand.tmp 2) (Go.Operand.tmp 79)), 0, none⟩,
                .one ⟨false, none, (Go.Op.store 66 (Go.Operand.tmp 3) (Go.Operand.tmp 80)), 0, none⟩,
                .one ⟨true, some 4, (Go.Op.assign (Go.Operand.tmp 82)), 25, none⟩]
                (fun w' => Sat w0 w' [stA 65 b2 [.pointer (some ⟨g, 0, none⟩)], stA 66 b3 [.slice A6 (recsD D).length c6]]) rfl (by kernel_rfl) (by kernel_rfl) ?_ ?_
    · exact S.drew.firsts [_, _]
    have S := S.drew
    refine sl_ldf orcL_ok (fun w' S => Sat.varAt S 0 rfl) fr rfl rfl rfl rfl rfl rfl rfl rfl (S.firsts [_, _]) fun a fr => ?_
    refine sl_ldf orcL_ok (fun w' S => Sat.varAt S 1 rfl) fr rfl rfl rfl rfl rfl rfl rfl rfl (S.firsts [_, _]) fun a fr => ?_
    refine sl_run orcL_ok 1 rfl fr fun a fr => ?_
    refine sl_call fr rfl rfl rfl rfl rfl enSync (disk_sync (S.frontAt 2 rfl)) ?_
    rintro _ w ⟨rfl, S⟩
    have S : Sat w0 w (stA 65 b2 [.pointer (some ⟨g, 0, none⟩)] :: stA 66 b3 [.slice A6 (recsD D).length c6] :: diskA d D1.sync :: logA g d (atD D) :: recsA .u8 45 5 A6 c6 (recsD D) :: objA (.deferred (some [])) dd :: R) := (S.frontAt 2 rfl).frontAt 2 rfl
    refine ⟨_, rfl, rfl, S.firsts [_, _], fun a fr => ?_⟩
    refine sl_stv orcL_ok fr rfl rfl rfl rfl rfl rfl rfl rfl rfl S ?_
    intro w6 S
    refine ⟨S.firsts [_, _], ?_⟩
    have S : Sat w0 w6 (stA 66 b3 [.slice A6 (recsD D).length c6] :: stA 65 b2 [.pointer (some ⟨g, 0, none⟩)] :: diskA d D1.sync :: logA g d (atD D) :: recsA .u8 45 5 A6 c6 (recsD D) :: objA (.deferred (some [])) dd :: R) := S.frontAt 1 rfl
    refine sl_stv orcL_ok fr rfl rfl rfl rfl rfl rfl rfl rfl rfl S ?_
    intro w7 S
    have S : Sat w0 w7 (stA 65 b2 [.pointer (some ⟨g, 0, none⟩)] :: stA 66 b3 [.slice A6 (recsD D).length c6] :: diskA d D1.sync :: logA g d (atD D) :: recsA .u8 45 5 A6 c6 (recsD D) :: objA (.deferred (some [])) dd :: R) := S.frontAt 1 rfl
    refine ⟨S.firsts [_, _], ?_⟩
    refine sl_run orcL_ok 1 rfl fr fun a fr => ?_
    refine sl_end ?_
    have hod : D1.sync = openD D := by rw [hfin, hall, hn]; rfl
    rw [hod] at S
    refine wp_ret ?_
    show LeavesInM Fence.wide 1 _ _ a.tmps _ a.defers .returning w7
    rw [fr.defers]
    refine ⟨by simp, .inl ⟨_, _, rfl, run_takeDeferred (Sat.objAt S 5 rfl), ?_⟩⟩
    have S : Sat w0 _ (objA (.deferred (some [])) dd :: stA 65 b2 [.pointer (some ⟨g, 0, none⟩)] :: stA 66 b3 [.slice A6 (recsD D).length c6] :: diskA d (openD D) :: logA g d (atD D) :: recsA .u8 45 5 A6 c6 (recsD D) :: R) := S.frontAt 5 rfl
    have S := S.putObj (.deferred none)
    refine ⟨_, results_cct orcL_ok rfl fr rfl rfl rfl rfl rfl rfl rfl (Sat.varAt S 1 rfl).1 (Sat.varAt S 2 rfl).1, g, A6, c6, rfl, ?_, ?_⟩
    · have h5 : vokC (.slice A6 (recsD D).length c6) = true := hvr
      show [_, _, _].all vokC = true
      rw [List.all_cons, List.all_cons, h5]; rfl
    · have S := S.mask [false, false, false]
      exact (S.frontAt 2 rfl).frontAt 2 rfl
end
end Go.Proofs.YticnjkdaccacaaaGreatDoor.Sx
end
section
namespace Go.Proofs.YticnjkdaccacaaaGreatDoor.Sx
open Go Go.RowKit Base _root_.Go.Proofs.YticnjkdaccacaaaGreatDoor.Own OwnV Disk Bytes
section
variable {w w0 : World} {R : List Asn} {g b : Nat} {D : Dk}
theorem writeR_nil (D : Dk) (x : Int) : D.writeR x [] = D.writeR x (List.replicate 64 0) := by
  have e1 : writeCode D.seen.length x [] = writeCode D.seen.length x (List.replicate 64 0) := by
    unfold writeCode
    simp
  have e2 : pad [] = pad (List.replicate 64 0) := by decide
  unfold Dk.writeR
  rw [e1, e2]
theorem zero_step {l : List Int} {i k : Nat} (hk : k < 64) (hl : 64 * i + 64 ≤ l.length) (h : (l.drop (i * 64)).take 64 = List.replicate 64 0) : l.getD (64 * i + k) 0 = 0 := by
  have h1 : ((l.drop (i * 64)).take 64)[k]? = some 0 := by rw [h, List.getElem?_replicate, if_pos hk]
  rw [List.getElem?_take, if_pos hk, List.getElem?_drop, show i * 64 + k = 64 * i + k by omega] at h1
  rw [List.getD_eq_getElem?_getD, h1]
  rfl
theorem zero_all {l : List Int} {i : Nat} (hl : 64 * i + 64 ≤ l.length) (h : ∀ k, k < 64 → l.getD (64 * i + k) 0 = 0) : (l.drop (i * 64)).take 64 = List.replicate 64 0 := by
  apply List.ext_getElem?
  intro k
  rw [List.getElem?_take, List.getElem?_replicate]
  by_cases hk : k < 64
  · rw [if_pos hk, if_pos hk, List.getElem?_drop, show i * 64 + k = 64 * i + k by omega]
    have := h k hk
    rw [List.getD_eq_getElem?_getD, List.getElem?_eq_getElem (by omega)] at this
    rw [List.getElem?_eq_getElem (by omega)]
    exact congrArg some this
  · rw [if_neg hk, if_neg hk]
theorem vok_ptsl {A : Option Addr} {n c g : Nat} (h : n ≤ c ∧ c ≤ maxLen) : vok (.tuple #[.pointer (some ⟨g, 0, none⟩), .slice A n c]) = true := by
  have h5 : vokC (.slice A n c) = true := vok_sl (A := A) h
  show [_, _].all vokC = true
  rw [List.all_cons, List.all_cons, h5]; rfl
def clrS (D : Dk) (all : List Int) (i : Nat) : Dk := if (all.drop (i * 64)).take 64 = List.replicate 64 0 then D else D.writeR i (List.replicate 64 0)
set_option maxRecDepth 100000 in
set_option maxHeartbeats 2000000 in
theorem r6_open (hb : D.waits.length ≤ 100000) (hsz : D.seen.length ≤ 400) (S : Sat w0 w (ddsA b D :: R)) :
    Calls Tryz.prog 29 #[.pointer (some ⟨b, 0, none⟩)] w fun e w' => ∃ g A c, e = .returned (.tuple #[.pointer (some ⟨g, 0, none⟩), .slice A (recsD D).length c]) ∧ vok (.tuple #[.pointer (some ⟨g, 0, none⟩), .slice A (recsD D).length c]) = true ∧
      Sat w0 w' (rlgA g b (atD D : Nat) :: recsA .u8 45 5 A c (recsD D) :: ddsA b (openD D) :: R) := by
  have G := ds_good S
  have hfl := flat_len G.ok.seen
  refine calls_start (N := 89) [.pointer (some ⟨b, 0, none⟩)] Tryz.func29 rfl rfl rfl rfl fun a fr => ?_
  skip; (repeat (with_reducible refine wp_seq ?_)); refine wp_region_lit ?_
  refine wl_run orcR6_ok 2 rfl fr fun a fr => ?_
  refine wpList_nil ?_; (repeat (with_reducible refine then_n ?_))
  skip; (repeat (with_reducible refine wp_seq ?_)); refine wp_region_lit ?_
  refine wl_run orcR6_ok 1 rfl fr fun a fr => ?_
  refine wpList_nil ?_; (repeat (with_reducible refine then_n ?_))
  skip; (repeat (with_reducible refine wp_seq ?_)); refine wp_region_lit ?_
  refine wl_run orcR6_ok 1 rfl fr fun a fr => ?_
  refine wpList_nil ?_; (repeat (with_reducible refine then_n ?_))
  have S : Sat w0 w (ownA .u8 5 none 0 ((D.seen.take 0).flatten) :: ddsA b D :: R) := S.nilRow .u8 5
  skip; (repeat (with_reducible refine wp_seq ?_))
  refine cw_blk (fun a w1 => ∃ A c, Fr 89 a [(0, .pointer (some ⟨b, 0, none⟩)), (4, .slice A (D.seen.flatten).length c)] ∧ Sat w0 w1 (ownA .u8 5 A c D.seen.flatten :: ddsA b D :: R)) ?_ ?_
  · refine cw_loop (fun q a w1 => ∃ (i : Nat) (A : Option Addr) (c : Nat), i + q = D.seen.length + 1 ∧ i ≤ D.seen.length ∧ Fr 89 a [(0, .pointer (some ⟨b, 0, none⟩)), (4, .slice A ((D.seen.take i).flatten).length c), (5, .int .i64 (i : Int))] ∧ Sat w0 w1 (ownA .u8 5 A c ((D.seen.take i).flatten) :: ddsA b D :: R)) (D.seen.length + 1)
      ⟨0, none, 0, by omega, by omega, fr.sub ⟨rfl, rfl, rfl, trivial⟩, S⟩ ?_ ?_
    · rintro a w1 ⟨i, _, _, h, h', -⟩
      omega
    clear fr S
    rintro q a w1 ⟨i, A, c, hi, hi', fr, S⟩
    skip; (repeat (with_reducible refine wp_seq ?_)); refine wp_region_lit ?_
    refine wl_run orcR6_ok 2 rfl fr fun a fr => ?_
    refine wl_call fr rfl rfl rfl rfl enM1 (ds_size (S.frontAt 1 rfl)) ?_
    rintro _ w2 ⟨rfl, hv, S⟩
    refine ⟨_, rfl, hv, fun a fr => ?_⟩
    refine wl_run orcR6_ok 1 rfl fr fun a fr => ?_
    refine wpList_nil ?_; (repeat (with_reducible refine then_n ?_))
    by_cases hlt : i < D.seen.length
    rotate_left
    · have fr := fr.bool (d := 18) rfl (decide_eq_false (show ¬ (i : Int) < (D.seen.length : Int) by omega))
      rw [List.take_of_length_le (by omega)] at fr S
      skip; (repeat (with_reducible refine wp_seq ?_))
      refine cw_f fr rfl ?_
      refine wp_exit ?_
      skip; (repeat (first | (with_reducible refine then_e ?_) | (with_reducible refine ng_e ?_) | (with_reducible refine blk_e (by decide) ?_))); (with_reducible refine blk_y ?_); (repeat (with_reducible refine then_n ?_))
      exact ⟨A, c, fr.sub ⟨rfl, rfl, trivial⟩, S.frontAt 1 rfl⟩
    have fr := fr.bool (d := 18) rfl (decide_eq_true (show (i : Int) < (D.seen.length : Int) by omega))
    have hgi : D.seen.getD i [] = D.seen[i] := by rw [List.getD_eq_getElem?_getD, List.getElem?_eq_getElem hlt]; rfl
    have hl64 : (D.seen[i]).length = 64 := (G.ok.seen _ (List.getElem_mem hlt)).1
    have htl : ((D.seen.take i).flatten).length = i * 64 := by
      rw [flat_len fun p hp => G.ok.seen p (List.mem_of_mem_take hp), List.length_take]
      congr 1; omega
    have htk : (D.seen.take (i + 1)).flatten = (D.seen.take i).flatten ++ D.seen[i] := by rw [List.take_succ_eq_append_getElem hlt, List.flatten_append]; simp
    skip; (repeat (with_reducible refine wp_seq ?_))
    refine cw_t fr rfl ?_
    refine wp_skip ?_
    (with_reducible refine then_n ?_)
    skip; (repeat (with_reducible refine wp_seq ?_))
    refine wp_block ?_
    skip; (repeat (with_reducible refine wp_seq ?_)); refine wp_region_lit ?_
    refine wl_run orcR6_ok 2 rfl fr fun a fr => ?_
    have H := ds_read (x := (i : Int)) ⟨by omega, by omega⟩ (by omega) S
    rw [Int.toNat_natCast, hgi] at H
    refine wl_call fr rfl rfl rfl rfl enM4 H ?_
    clear H
    rintro _ w3 ⟨A1, c1, rfl, hv, S⟩
    refine ⟨_, rfl, hv, fun a fr => ?_⟩
    refine wl_run orcR6_ok 5 rfl fr fun a fr => ?_
    refine wpList_nil ?_; (repeat (with_reducible refine then_n ?_))
    skip; (repeat (with_reducible refine wp_seq ?_)); refine wp_region_lit ?_
    refine wl_run orcR6_ok 2 rfl fr fun a fr => ?_
    refine wl_app rowDq (l := (D.seen.take i).flatten) (news := D.seen[i]) fr rfl rfl rfl rfl rfl rfl rfl rfl (S.ownAt 0 rfl) (by omega) (S.frontAt 2 rfl) ?_
    intro w4 A2 c2 S a fr
    refine wl_run orcR6_ok 1 rfl fr fun a fr => ?_
    refine wpList_nil ?_; (repeat (with_reducible refine then_n ?_))
    (repeat (first | (with_reducible refine then_n ?_) | (with_reducible refine blk_n ?_) | (with_reducible refine ng_n ?_)))
    skip; (repeat (with_reducible refine wp_seq ?_)); refine wp_region_lit ?_
    refine wl_run orcR6_ok 3 rfl fr fun a fr => ?_
    refine wpList_nil ?_; (repeat (with_reducible refine then_n ?_))
    have fr := fr.spell (d := 5) rfl (congrArg (Value.int .i64) (i64_next hlt (by omega)))
    rw [← htk] at fr S
    exact ⟨i + 1, A2, c2, by omega, by omega, fr.sub ⟨rfl, rfl, rfl, trivial⟩, (S.frontAt 1 rfl).tl⟩
  clear fr S
  rintro a w1 ⟨A, c, fr, S⟩
  (repeat (with_reducible refine then_n ?_))
  generalize hall : D.seen.flatten = all at *
  obtain ⟨hrk0, hma⟩ := S.own
  skip; (repeat (with_reducible refine wp_seq ?_)); refine wp_region_lit ?_
  refine wl_run orcR6_ok 1 rfl fr fun a fr => ?_
  refine wl_build (cs := [.pointer (some ⟨b, 0, none⟩), .int .i64 0]) (L2 := [(0, .pointer (some ⟨b, 0, none⟩))]) fr rfl rfl rfl rfl (by simpa using (fr.ev (o := .tmp 30) rfl).1) (by kernel_rfl) rfl fun a fr => ?_
  refine wl_boxs fr rfl rfl rfl rfl rfl rfl S ?_
  intro w g S a fr
  refine wl_run orcR6_ok 1 rfl fr fun a fr => ?_
  refine wpList_nil ?_; (repeat (with_reducible refine then_n ?_))
  skip; (repeat (with_reducible refine wp_seq ?_)); refine wp_region_lit ?_
  refine wl_run orcR6_ok 1 rfl fr fun a fr => ?_
  refine wpList_nil ?_; (repeat (with_reducible refine then_n ?_))
  have S := S.noRecs .u8 45 5
  have hfnd : found D = parse (all.length + 1) all := by unfold found; rw [hall]
  skip; (repeat (with_reducible refine wp_seq ?_))
  refine cw_blk (fun a w1 => ∃ A2 c2, Fr 89 a [(0, .pointer (some ⟨b, 0, none⟩)), (4, .slice A all.length c), (8, .pointer (some ⟨g, 0, none⟩)), (9, .slice A2 (recsD D).length c2)] ∧ Sat w0 w1 (recsA .u8 45 5 A2 c2 (recsD D) :: stA 162 g [.pointer (some ⟨b, 0, none⟩), .int .i64 (atD D : Nat)] :: ownA .u8 5 A c all :: ddsA b D :: R)) ?_ ?_
  · refine cw_loop (fun q a w1 => ∃ (pre : List (List Int × Nat)) (A2 : Option Addr) (c2 : Nat), pre ++ parse q (all.drop (64 * secs pre)) = found D ∧ 64 * secs pre ≤ all.length ∧ all.length - 64 * secs pre < q ∧ pre.length ≤ secs pre ∧ Fr 89 a [(0, .pointer (some ⟨b, 0, none⟩)), (4, .slice A all.length c), (8, .pointer (some ⟨g, 0, none⟩)), (9, .slice A2 (pre.map (·.1)).length c2)] ∧ Sat w0 w1 (recsA .u8 45 5 A2 c2 (pre.map (·.1)) :: stA 162 g [.pointer (some ⟨b, 0, none⟩), .int .i64 (secs pre : Nat)] :: ownA .u8 5 A c all :: ddsA b D :: R)) (all.length + 1)
      ⟨[], none, 0, by rw [hfnd]; rfl, Nat.zero_le _, by show all.length - 64 * 0 < _; omega, Nat.le_refl _, fr.sub ⟨rfl, rfl, rfl, rfl, trivial⟩, S⟩ ?_ ?_
    · rintro a w1 ⟨pre, _, _, h1, h2, h3, -⟩
      omega
    clear fr S
    rintro q a w1 ⟨pre, A2, c2, hpre, hle, hq, hpl, fr, S⟩
    obtain ⟨at', hat⟩ : ∃ n, secs pre = n := ⟨_, rfl⟩
    rw [hat] at hpre hle hq hpl S
    have hw1 : IntKind.wrap .i64 (64 * (at' : Int)) = ((64 * at' : Nat) : Int) := by rw [show IntKind.wrap .i64 (64 * (at' : Int)) = 64 * (at' : Int) from IntWalk.i64_in _ ⟨by omega, by omega⟩]; omega
    refine wp_block ?_
    skip; (repeat (with_reducible refine wp_seq ?_)); refine wp_region_lit ?_
    refine wl_run orcR6_ok 4 rfl fr fun a fr => ?_
    refine wl_ldf orcR6_ok (Sat.stAt S 1 rfl (j := 1) rfl) fr rfl rfl rfl rfl rfl rfl rfl fun a fr => ?_
    refine wl_run orcR6_ok 1 rfl fr fun a fr => ?_
    have fr := fr.spell (d := 39) rfl (congrArg (Value.int .i64) hw1)
    refine wl_drop orcR6_ok (l := all) fr rfl rfl rfl rfl rfl rfl rfl infoB1 rfl ⟨by omega, by omega⟩ fun a fr => ?_
    have H := QGet.r5_get (c := c - 64 * at') (Rk.drop (n := 64 * at') (c := c) (S.ownAt 2 rfl) hma.1) ⟨by rw [List.length_drop]; omega, by omega⟩ (by rw [List.length_drop]; omega) S
    have fr := fr.spell (d := 40) rfl (show Value.slice (dropA A c (((64 * at' : Nat) : Int)).toNat) (all.drop (((64 * at' : Nat) : Int)).toNat).length (c - (((64 * at' : Nat) : Int)).toNat) = .slice (dropA A c (64 * at')) (all.drop (64 * at')).length (c - 64 * at') by rw [Int.toNat_natCast])
    obtain ⟨B', hB⟩ : ∃ B', all.drop (64 * at') = B' := ⟨_, rfl⟩
    rw [hB] at H hpre fr
    refine wl_call fr rfl rfl rfl rfl enM6 H ?_
    clear H
    rintro _ w2 ⟨A3, c3, rfl, hv, S⟩
    refine ⟨_, rfl, hv, fun a fr => ?_⟩
    refine wl_run orcR6_ok 7 rfl fr fun a fr => ?_
    refine wpList_nil ?_; (repeat (with_reducible refine then_n ?_))
    skip; (repeat (with_reducible refine wp_seq ?_)); refine wp_region_lit ?_
    refine wl_run orcR6_ok 2 rfl fr fun a fr => ?_
    refine wpList_nil ?_; (repeat (with_reducible refine then_n ?_))
    cases hg : Frames.get B' with
    | none =>
      have hE : getE B' = 4 := by unfold getE; rw [hg]
      have hfin : found D = pre := by
        rw [← hpre]
        unfold parse
        rw [hg, List.append_nil]
      have fr := fr.bool (d := 46) rfl (show (getE B' != 0) = true by rw [hE]; rfl)
      skip; (repeat (with_reducible refine wp_seq ?_))
      refine cw_t fr rfl ?_
      refine wp_exit ?_
      skip; (repeat (first | (with_reducible refine then_e ?_) | (with_reducible refine ng_e ?_) | (with_reducible refine blk_e (by decide) ?_))); (with_reducible refine blk_y ?_); (repeat (with_reducible refine then_n ?_))
      have e1 : recsD D = pre.map (·.1) := by unfold recsD; rw [hfin]
      have e2 : atD D = at' := by unfold atD; rw [hfin, hat]
      rw [e1, e2]
      exact ⟨A2, c2, fr.sub ⟨rfl, rfl, rfl, rfl, trivial⟩, S.tl⟩
    | some p =>
      obtain ⟨r, m⟩ := p
      have hE : getE B' = 0 := by unfold getE; rw [hg]
      have hN : getN B' = (m : Int) := by unfold getN; rw [hg]
      have hR : getR B' = r := by unfold getR; rw [hg]
      obtain ⟨hm1, hm2, hm3, hm4⟩ := get_len hg
      have hBl : B'.length = all.length - 64 * at' := by rw [← hB, List.length_drop]
      have fr := fr.bool (d := 46) rfl (show (getE B' != 0) = false by rw [hE]; rfl)
      rw [hR] at fr S
      have fr := fr.spell (d := 11) rfl (congrArg (Value.int .i64) hN)
      skip; (repeat (with_reducible refine wp_seq ?_))
      refine cw_f fr rfl ?_
      refine wp_skip ?_
      (with_reducible refine then_n ?_)
      skip; (repeat (with_reducible refine wp_seq ?_)); refine wp_region_lit ?_
      refine wl_run orcR6_ok 2 rfl fr fun a fr => ?_
      refine wl_recapp (t := 66) Tryz.underlying66 litRi litRj (by decide) fr rfl rfl rfl rfl rfl rfl rfl rfl rfl rfl (fun _ => rfl) rfl (by rw [List.length_map]; omega) rfl S ?_
      intro w3 A4 c4 S a fr
      refine wl_run orcR6_ok 1 rfl fr fun a fr => ?_
      refine wpList_nil ?_; (repeat (with_reducible refine then_n ?_))
      have hw2 : IntKind.wrap .i64 ((at' : Int) + (m : Int)) = ((at' + m : Nat) : Int) := by rw [show IntKind.wrap .i64 ((at' : Int) + (m : Int)) = (at' : Int) + (m : Int) from IntWalk.i64_in _ ⟨by omega, by omega⟩]; omega
      skip; (repeat (with_reducible refine wp_seq ?_)); refine wp_region_lit ?_
      refine wl_run orcR6_ok 4 rfl fr fun a fr => ?_
      refine wl_ldf orcR6_ok (Sat.stAt S 1 rfl (j := 1) rfl) fr rfl rfl rfl rfl rfl rfl rfl fun a fr => ?_
      refine wl_run orcR6_ok 2 rfl fr fun a fr => ?_
      have fr := fr.spell (d := 57) rfl (congrArg (Value.int .i64) hw2)
      refine wl_run orcR6_ok 2 rfl fr fun a fr => ?_
      have S := S.frontAt 1 rfl
      refine wl_stf (j := 1) orcR6_ok fr rfl rfl rfl rfl rfl rfl rfl rfl S rfl ?_
      intro w4 S
      refine wpList_nil ?_; (repeat (with_reducible refine then_n ?_))
      (repeat (first | (with_reducible refine then_n ?_) | (with_reducible refine blk_n ?_) | (with_reducible refine ng_n ?_)))
      have es : secs (pre ++ [(r, m)]) = at' + m := by rw [secs_snoc, hat]
      have em : (pre ++ [(r, m)]).map (·.1) = pre.map (·.1) ++ [r] := by rw [List.map_append]; rfl
      refine ⟨pre ++ [(r, m)], A4, c4, ?_, by rw [es]; omega, by rw [es]; omega, by rw [es, List.length_append, List.length_singleton]; omega, ?_, ?_⟩
      · rw [es, ← hpre, List.append_assoc]
        congr 1
        conv => rhs; unfold parse
        rw [hg, ← hB]
        show _ = (r, m) :: parse q ((all.drop (64 * at')).drop (m * 64))
        rw [List.drop_drop, show 64 * at' + m * 64 = 64 * (at' + m) by omega]
        rfl
      · rw [em]
        exact fr.sub ⟨rfl, rfl, rfl, rfl, trivial⟩
      · rw [em, es]
        exact S.frontAt 1 rfl
  clear fr S
  rintro a w1 ⟨A2, c2, fr, S⟩
  (repeat (with_reducible refine then_n ?_))
  have hatn : atD D ≤ D.seen.length := by
    have h := (parse_facts (all.length + 1) all).1
    rw [← hfnd] at h
    have h2 : atD D * 64 ≤ all.length := h
    omega
  have hm2 : (recsD D).length ≤ c2 ∧ c2 ≤ maxLen := (Sat.recAt S 0 rfl).2
  skip; (repeat (with_reducible refine wp_seq ?_)); refine wp_region_lit ?_
  refine wl_run orcR6_ok 3 rfl fr fun a fr => ?_
  refine wl_ldf orcR6_ok (Sat.stAt S 1 rfl (j := 1) rfl) fr rfl rfl rfl rfl rfl rfl rfl fun a fr => ?_
  refine wl_run orcR6_ok 1 rfl fr fun a fr => ?_
  refine wpList_nil ?_; (repeat (with_reducible refine then_n ?_))
  have hop : (clr all (D.seen.length - atD D) (atD D) D).sync = openD D := by unfold openD; rw [hall]
  generalize hF : clr all (D.seen.length - atD D) (atD D) D = F at *
  have S : Sat w0 w1 (ddsA b D :: ownA .u8 5 A c all :: stA 162 g [.pointer (some ⟨b, 0, none⟩), .int .i64 (atD D : Nat)] :: recsA .u8 45 5 A2 c2 (recsD D) :: R) := ((S.frontAt 1 rfl).frontAt 2 rfl).frontAt 3 rfl
  skip; (repeat (with_reducible refine wp_seq ?_))
  refine wp_block ?_
  refine cw_loop (fun q a w1 => ∃ (i : Nat) (D' : Dk), i + q = D.seen.length + 1 ∧ i ≤ D.seen.length ∧ clr all (D.seen.length - i) i D' = F ∧ D'.seen.length = D.seen.length ∧ D'.waits.length ≤ 100000 + i ∧ Fr 89 a [(0, .pointer (some ⟨b, 0, none⟩)), (4, .slice A all.length c), (8, .pointer (some ⟨g, 0, none⟩)), (9, .slice A2 (recsD D).length c2), (13, .int .i64 (i : Int))] ∧ Sat w0 w1 (ddsA b D' :: ownA .u8 5 A c all :: stA 162 g [.pointer (some ⟨b, 0, none⟩), .int .i64 (atD D : Nat)] :: recsA .u8 45 5 A2 c2 (recsD D) :: R)) (D.seen.length + 1 - atD D)
    ⟨atD D, D, by omega, hatn, hF, rfl, by omega, fr.sub ⟨rfl, rfl, rfl, rfl, rfl, trivial⟩, S⟩ ?_ ?_
  · rintro a w1 ⟨i, _, h, h', -⟩
    omega
  clear fr S
  rintro q a w1 ⟨i, D', hi, hi', hFi, hln, hwt, fr, S⟩
  skip; (repeat (with_reducible refine wp_seq ?_)); refine wp_region_lit ?_
  refine wl_run orcR6_ok 2 rfl fr fun a fr => ?_
  refine wl_call fr rfl rfl rfl rfl enM1 (ds_size S) ?_
  rintro _ w2 ⟨rfl, hv, S⟩
  refine ⟨_, rfl, hv, fun a fr => ?_⟩
  refine wl_run orcR6_ok 1 rfl fr fun a fr => ?_
  refine wpList_nil ?_; (repeat (with_reducible refine then_n ?_))
  by_cases hlt : i < D.seen.length
  rotate_left
  · have fr := fr.bool (d := 67) rfl (decide_eq_false (show ¬ (i : Int) < (D'.seen.length : Int) by omega))
    rw [show D.seen.length - i = 0 by omega] at hFi
    have hDF : D' = F := hFi
    subst hDF
    skip; (repeat (with_reducible refine wp_seq ?_))
    refine cw_f fr rfl ?_
    refine wp_exit ?_
    skip; (repeat (first | (with_reducible refine then_e ?_) | (with_reducible refine ng_e ?_) | (with_reducible refine blk_e (by decide) ?_))); (with_reducible refine blk_y ?_); (repeat (with_reducible refine then_n ?_))
    skip; (repeat (with_reducible refine wp_seq ?_)); refine wp_region_lit ?_
    refine wl_run orcR6_ok 1 rfl fr fun a fr => ?_
    refine wl_call fr rfl rfl rfl rfl enM2 (ds_sync (by omega) S) ?_
    rintro _ w3 ⟨rfl, S⟩
    refine ⟨_, rfl, rfl, fun a fr => ?_⟩
    refine wpList_nil ?_; (repeat (with_reducible refine then_n ?_))
    skip; (repeat (with_reducible refine wp_seq ?_)); refine wp_region_lit ?_
    refine wl_run orcR6_ok 4 rfl fr fun a fr => ?_
    refine wpList_nil ?_; (repeat (with_reducible refine then_n ?_))
    refine wp_ret ?_
    skip; (repeat (first | (with_reducible refine then_r ?_) | (with_reducible refine blk_r ?_) | (with_reducible refine ng_r ?_)))
    refine ret2 fr rfl rfl rfl ?_
    rw [hop] at S
    exact ⟨g, A2, c2, rfl, vok_ptsl hm2, ((S.frontAt 1 rfl).tl.frontAt 2 rfl).frontAt 2 rfl⟩
  have fr := fr.bool (d := 67) rfl (decide_eq_true (show (i : Int) < (D'.seen.length : Int) by omega))
  have hil : 64 * i + 64 ≤ all.length := by omega
  skip; (repeat (with_reducible refine wp_seq ?_))
  refine cw_t fr rfl ?_
  refine wp_skip ?_
  (with_reducible refine then_n ?_)
  skip; (repeat (with_reducible refine wp_seq ?_))
  refine wp_block ?_
  skip; (repeat (with_reducible refine wp_seq ?_)); refine wp_region_lit ?_
  refine wl_run orcR6_ok 1 rfl fr fun a fr => ?_
  refine wpList_nil ?_; (repeat (with_reducible refine then_n ?_))
  skip; (repeat (with_reducible refine wp_seq ?_))
  refine cw_blk (fun a w3 => Fr 89 a [(0, .pointer (some ⟨b, 0, none⟩)), (4, .slice A all.length c), (8, .pointer (some ⟨g, 0, none⟩)), (9, .slice A2 (recsD D).length c2), (13, .int .i64 (i : Int))] ∧ Sat w0 w3 (ddsA b (clrS D' all i) :: ownA .u8 5 A c all :: stA 162 g [.pointer (some ⟨b, 0, none⟩), .int .i64 (atD D : Nat)] :: recsA .u8 45 5 A2 c2 (recsD D) :: R)) ?_ ?_
  · refine cw_loop (fun q a w1 => ∃ k : Nat, k + q = 65 ∧ k ≤ 64 ∧ (∀ j, j < k → all.getD (64 * i + j) 0 = 0) ∧ Fr 89 a [(0, .pointer (some ⟨b, 0, none⟩)), (4, .slice A all.length c), (8, .pointer (some ⟨g, 0, none⟩)), (9, .slice A2 (recsD D).length c2), (13, .int .i64 (i : Int)), (14, .int .i64 (k : Int))] ∧ Sat w0 w1 (ddsA b D' :: ownA .u8 5 A c all :: stA 162 g [.pointer (some ⟨b, 0, none⟩), .int .i64 (atD D : Nat)] :: recsA .u8 45 5 A2 c2 (recsD D) :: R)) 65
      ⟨0, by omega, by omega, fun j h => by omega, fr.sub ⟨rfl, rfl, rfl, rfl, rfl, rfl, trivial⟩, S⟩ ?_ ?_
    · rintro a w1 ⟨k, h, h', -⟩
      omega
    clear fr S
    rintro q2 a w3 ⟨k, hk, hk', hz, fr, S⟩
    skip; (repeat (with_reducible refine wp_seq ?_)); refine wp_region_lit ?_
    refine wl_run orcR6_ok 2 rfl fr fun a fr => ?_
    refine wpList_nil ?_; (repeat (with_reducible refine then_n ?_))
    by_cases hk64 : k < 64
    rotate_left
    · have fr := fr.bool (d := 71) rfl (decide_eq_false (show ¬ (k : Int) < 64 by omega))
      have ec : clrS D' all i = D' := by unfold clrS; rw [if_pos (zero_all hil fun j hj => hz j (by omega))]
      rw [ec]
      skip; (repeat (with_reducible refine wp_seq ?_))
      refine cw_f fr rfl ?_
      refine wp_exit ?_
      skip; (repeat (first | (with_reducible refine then_e ?_) | (with_reducible refine ng_e ?_) | (with_reducible refine blk_e (by decide) ?_))); (with_reducible refine blk_y ?_); (repeat (with_reducible refine then_n ?_))
      exact ⟨fr.sub ⟨rfl, rfl, rfl, rfl, rfl, trivial⟩, S⟩
    have fr := fr.bool (d := 71) rfl (decide_eq_true (show (k : Int) < 64 by omega))
    have hw3 : IntKind.wrap .i64 (IntKind.wrap .i64 (64 * (i : Int)) + (k : Int)) = ((64 * i + k : Nat) : Int) := by
      rw [show IntKind.wrap .i64 (64 * (i : Int)) = 64 * (i : Int) from IntWalk.i64_in _ ⟨by omega, by omega⟩, show IntKind.wrap .i64 (64 * (i : Int) + (k : Int)) = 64 * (i : Int) + (k : Int) from IntWalk.i64_in _ ⟨by omega, by omega⟩]; omega
    skip; (repeat (with_reducible refine wp_seq ?_))
    refine cw_t fr rfl ?_
    refine wp_skip ?_
    (with_reducible refine then_n ?_)
    skip; (repeat (with_reducible refine wp_seq ?_))
    refine wp_block ?_
    skip; (repeat (with_reducible refine wp_seq ?_)); refine wp_region_lit ?_
    refine wl_run orcR6_ok 5 rfl fr fun a fr => ?_
    have fr := fr.spell (d := 78) rfl (congrArg (Value.int .i64) hw3)
    refine wl_ld orcR6_ok (S.ownAt 1 rfl) fr rfl rfl rfl rfl rfl rfl rfl rfl rfl rfl rfl rfl rfl rfl rfl rfl ⟨by omega, by omega⟩ fun a fr => ?_
    refine wl_run orcR6_ok 1 rfl fr fun a fr => ?_
    refine wpList_nil ?_; (repeat (with_reducible refine then_n ?_))
    rw [Int.toNat_natCast] at fr
    by_cases hz0 : all.getD (64 * i + k) 0 = 0
    · have fr := fr.bool (d := 81) rfl (show (all.getD (64 * i + k) 0 != 0) = false by rw [hz0]; rfl)
      skip; (repeat (with_reducible refine wp_seq ?_))
      refine cw_f fr rfl ?_
      refine wp_skip ?_
      (repeat (first | (with_reducible refine then_n ?_) | (with_reducible refine blk_n ?_) | (with_reducible refine ng_n ?_)))
      skip; (repeat (with_reducible refine wp_seq ?_)); refine wp_region_lit ?_
      refine wl_run orcR6_ok 3 rfl fr fun a fr => ?_
      refine wpList_nil ?_; (repeat (with_reducible refine then_n ?_))
      have fr := fr.spell (d := 14) rfl (congrArg (Value.int .i64) (i64_next hk64 (by omega)))
      refine ⟨k + 1, by omega, by omega, fun j hj => ?_, fr.sub ⟨rfl, rfl, rfl, rfl, rfl, rfl, trivial⟩, S⟩
      by_cases hjk : j = k
      · subst hjk; exact hz0
      · exact hz j (by omega)
    · have fr := fr.bool (d := 81) rfl (show (all.getD (64 * i + k) 0 != 0) = true from bne_iff_ne.2 hz0)
      have ec : clrS D' all i = D'.writeR i [] := by
        unfold clrS
        rw [if_neg fun h => hz0 (zero_step hk64 hil h), writeR_nil]
      rw [ec]
      skip; (repeat (with_reducible refine wp_seq ?_))
      refine cw_t fr rfl ?_
      skip; (repeat (with_reducible refine wp_seq ?_)); refine wp_region_lit ?_
      refine wl_run orcR6_ok 2 rfl fr fun a fr => ?_
      refine wl_call fr rfl rfl rfl rfl enM3 (ds_write (x := (i : Int)) (l := []) (A := none) (c := 0) (i64_wf (by omega) (by omega)) ⟨Nat.le_refl _, Nat.zero_le _⟩ (fun _ _ => Rk.nil) (by omega) S) ?_
      rintro _ w4 ⟨rfl, hv, S⟩
      refine ⟨_, rfl, hv, fun a fr => ?_⟩
      refine wpList_nil ?_; (repeat (with_reducible refine then_n ?_))
      refine wp_exit ?_
      skip; (repeat (first | (with_reducible refine then_e ?_) | (with_reducible refine ng_e ?_) | (with_reducible refine blk_e (by decide) ?_))); (with_reducible refine blk_y ?_); (repeat (with_reducible refine then_n ?_))
      exact ⟨fr.sub ⟨rfl, rfl, rfl, rfl, rfl, trivial⟩, S⟩
  clear fr S
  rintro a w3 ⟨fr, S⟩
  (repeat (with_reducible refine then_n ?_))
  (repeat (first | (with_reducible refine then_n ?_) | (with_reducible refine blk_n ?_) | (with_reducible refine ng_n ?_)))
  skip; (repeat (with_reducible refine wp_seq ?_)); refine wp_region_lit ?_
  refine wl_run orcR6_ok 3 rfl fr fun a fr => ?_
  refine wpList_nil ?_; (repeat (with_reducible refine then_n ?_))
  have fr := fr.spell (d := 13) rfl (congrArg (Value.int .i64) (i64_next hlt (by omega)))
  rw [show D.seen.length - i = (D.seen.length - (i + 1)) + 1 by omega] at hFi
  have hFi2 : clr all (D.seen.length - (i + 1)) (i + 1) (clrS D' all i) = F := hFi
  have hl2 : (clrS D' all i).seen.length = D'.seen.length ∧ (clrS D' all i).waits.length ≤ D'.waits.length + 1 := by
    unfold clrS
    split
    · exact ⟨rfl, Nat.le_succ _⟩
    · exact ⟨writeR_len _ _ _, writeR_waits _ _ _⟩
  exact ⟨i + 1, clrS D' all i, by omega, by omega, hFi2, by omega, by omega, fr.sub ⟨rfl, rfl, rfl, rfl, rfl, trivial⟩, S⟩
end
end Go.Proofs.YticnjkdaccacaaaGreatDoor.Sx
end
section
namespace Go.Proofs.YticnjkdaccacaaaGreatDoor.Sx
open Go Go.RowKit Base _root_.Go.Proofs.YticnjkdaccacaaaGreatDoor.Own Disk
section
variable {P : Program} {T : Orc} {ops : Array Oper} {Q : Exit → Act → World → Prop} {S' : World → Prop} {Df : List Deferred} {N : Nat} {a : Act} {w w0 : World} {L : Env} {R : List Asn}
theorem sl_ldc (hT : T.Ok P) {s1 s2 : SOp} {rest : List Itm} {t te : TypeId} {x ix : Operand} {d1 d2 : Nat} {A : Option Addr} {ad : Addr} {v : Value} {n c e : Nat} {ki : IntKind} {i : Int} {de : TypeDesc}
    (hA : A = some ad) (hr : ∀ w, S' w → w.cell? (ad.add (i.toNat * 1)) = some v) (hv : vok v = true) (fr : FrD Df N a L) (hw : wantS L s1 = some true) (hq : s1.q = true) (ho1 : s1.op = .indexAddr t x ix) (hd1 : s1.dst = some d1) (hw2 : wantS L s2 = some true) (hq2 : s2.q = true) (ho2 : s2.op = .load te (.tmp d1)) (hd2 : s2.dst = some d2) (hl1 : Nat.blt d1 N = true) (hl2 : Nat.blt d2 N = true)
    (hx : ev L x = some (.slice A n c)) (hi : ev L ix = some (.int ki i)) (ht : T.ty.lookup t = some (.slice e)) (hs : T.sz.lookup e = some 1) (hte : T.ty.lookup te = some de) (hde : aggD de = false) (hf : L.lookup d1 = none) (hb : 0 ≤ i ∧ i < (n : Int))
    (h : ∀ a', FrD Df N a' ((d2, v) :: L) → SL P Q S' rest a' w) : SL P Q S' (.one s1 :: .one s2 :: rest) a w := by
  subst hA
  refine sl_q fr hw hq hd1 hl1 (fun w' _ => indexAddr_run hT fr (o := s1.oper) ho1 hx hi ht hs hb.1 hb.2 w') rfl fun a1 fr1 => ?_
  have hw3 : wantS ((d1, .pointer (some (ad.add (i.toNat * 1)))) :: L) s2 = some true := by
    have hk := hw2
    unfold wantS at hk ⊢
    split at hk
    · rename_i hg'; rw [hg'] at *
    · rename_i t' want hg'
      split at hk
      · rename_i b hb'
        have hne : t' ≠ d1 := fun e => by subst e; rw [hf] at hb'; cases hb'
        rw [lookup_cons, if_neg hne, hb']; exact hk
      · cases hk
      · cases hk
  exact sl_q (v := v) fr1 hw3 hq2 hd2 hl2 (fun w' hS' => load_run hT fr1 (o := s2.oper) ho2 (by show ((d1, _) :: L).lookup d1 = _; rw [lookup_cons, if_pos rfl]) hte hde (hr w' hS')) hv fun a2 fr2 => h a2 (fr2.skip2 hf)
end
section
variable {w w0 : World} {R : List Asn}
theorem enSb : Enters Tryz.prog 18 := fun _ _ => by kernel_rfl
theorem sameR_call {A B : Option Addr} {ca cb : Nat} {a b : List Int} (ra : Rk .u8 w A a) (rb : Rk .u8 w B b) (hl : a.length ≤ 1000000000 ∧ b.length ≤ 1000000000) (S : Sat w0 w R) :
    Calls Tryz.prog 18 #[.slice A a.length ca, .slice B b.length cb] w fun e w' => e = .returned (.bool (decide (a = b))) ∧ Sat w0 w' R :=
  (Bytes.sameBytes A B ca cb a b w hl.1 hl.2 ra.rd rb.rd).mono fun e w' ⟨h1, h2⟩ => ⟨h1, S.new h2⟩
def shortL (l : List (List Int)) : Bool := l.all fun x => decide (x.length ≤ 1000000000)
theorem take_next' {α : Type} {a b : List α} {k : Nat} (ha : k < a.length) (hb : k < b.length) (h : a.take k = b.take k) (he : a[k] = b[k]) : a.take (k + 1) = b.take (k + 1) := by
  rw [List.take_succ_eq_append_getElem ha, List.take_succ_eq_append_getElem hb, h, he]
set_option maxRecDepth 100000 in
set_option maxHeartbeats 1000000 in
theorem samerecs_key {A B : Option Addr} {ca cb : Nat} {xs b : List (List Int)} (ra : RR .u8 w A xs) (rb : RR .u8 w B b) (ma : xs.length ≤ ca ∧ ca ≤ maxLen) (mb : b.length ≤ cb ∧ cb ≤ maxLen) (hl : xs.length ≤ 1000000 ∧ shortL xs = true ∧ shortL b = true) :
    Calls Tryz.prog 34 #[.slice A xs.length ca, .slice B b.length cb] w fun e w' => e = .returned (.bool (decide (xs = b))) ∧ Below w.heap.size w w' := by
  obtain ⟨h1, h2, h3⟩ := hl
  refine calls_start (N := 27) [.slice A xs.length ca, .slice B b.length cb] Tryz.func34 rfl rfl rfl (vok_c (vok_sl ma) (vok_c (vok_sl mb) rfl)) fun a fr => ?_
  skip; (repeat (with_reducible refine wp_seq ?_)); refine wp_region_lit ?_
  refine wl_run orcL_ok 1 rfl fr fun a fr => ?_
  refine wpList_nil ?_; (repeat (with_reducible refine then_n ?_))
  skip; (repeat (with_reducible refine wp_seq ?_)); refine wp_region_lit ?_
  refine wl_run orcL_ok 5 rfl fr fun a fr => ?_
  refine wpList_nil ?_; (repeat (with_reducible refine then_n ?_))
  by_cases hab : xs.length = b.length
  rotate_left
  · have fr := fr.bool (d := 10) rfl (show ((xs.length : Int) != (b.length : Int)) = true by simp; omega)
    skip; (repeat (with_reducible refine wp_seq ?_))
    refine cw_t fr rfl ?_
    skip; (repeat (with_reducible refine wp_seq ?_)); refine wp_region_lit ?_
    refine wl_run orcL_ok 1 rfl fr fun a fr => ?_
    refine wpList_nil ?_; (repeat (with_reducible refine then_n ?_))
    refine wp_ret ?_
    skip; (repeat (first | (with_reducible refine then_r ?_) | (with_reducible refine blk_r ?_) | (with_reducible refine ng_r ?_)))
    refine ret1 fr rfl rfl ?_
    exact ⟨by rw [decide_eq_false (fun e => hab (by rw [e]))], Below.refl _ _⟩
  have fr := fr.bool (d := 10) rfl (show ((xs.length : Int) != (b.length : Int)) = false by simp; omega)
  skip; (repeat (with_reducible refine wp_seq ?_))
  refine cw_f fr rfl ?_
  refine wp_skip ?_
  (with_reducible refine then_n ?_)
  skip; (repeat (with_reducible refine wp_seq ?_)); refine wp_region_lit ?_
  refine wl_run orcL_ok 1 rfl fr fun a fr => ?_
  refine wpList_nil ?_; (repeat (with_reducible refine then_n ?_))
  skip; (repeat (with_reducible refine wp_seq ?_))
  refine wp_block ?_
  refine cw_loop (fun q a w1 => ∃ i : Nat, i + q = xs.length + 1 ∧ i ≤ xs.length ∧ xs.take i = b.take i ∧ Fr 27 a [(0, .slice A xs.length ca), (1, .slice B b.length cb), (5, .int .i64 (i : Int))] ∧ Below w.heap.size w w1) (xs.length + 1)
    ⟨0, by omega, by omega, by simp, fr.sub ⟨rfl, rfl, rfl, trivial⟩, Below.refl _ _⟩ ?_ ?_
  · rintro a w1 ⟨i, h, h', -⟩
    omega
  clear fr
  rintro q a w1 ⟨i, hi, hi', hpre, fr, hbl⟩
  skip; (repeat (with_reducible refine wp_seq ?_)); refine wp_region_lit ?_
  refine wl_run orcL_ok 4 rfl fr fun a fr => ?_
  refine wpList_nil ?_; (repeat (with_reducible refine then_n ?_))
  by_cases hlt : i < xs.length
  rotate_left
  · have fr := fr.bool (d := 14) rfl (decide_eq_false (show ¬ (i : Int) < (xs.length : Int) by omega))
    skip; (repeat (with_reducible refine wp_seq ?_))
    refine cw_f fr rfl ?_
    refine wp_exit ?_
    skip; (repeat (first | (with_reducible refine then_e ?_) | (with_reducible refine ng_e ?_) | (with_reducible refine blk_e (by decide) ?_))); (with_reducible refine blk_y ?_); (repeat (with_reducible refine then_n ?_))
    skip; (repeat (with_reducible refine wp_seq ?_)); refine wp_region_lit ?_
    refine wl_run orcL_ok 1 rfl fr fun a fr => ?_
    refine wpList_nil ?_; (repeat (with_reducible refine then_n ?_))
    refine wp_ret ?_
    skip; (repeat (first | (with_reducible refine then_r ?_) | (with_reducible refine blk_r ?_) | (with_reducible refine ng_r ?_)))
    refine ret1 fr rfl rfl ?_
    refine ⟨?_, hbl⟩
    rw [List.take_of_length_le (by omega), List.take_of_length_le (by omega)] at hpre
    rw [decide_eq_true hpre]
  have fr := fr.bool (d := 14) rfl (decide_eq_true (show (i : Int) < (xs.length : Int) by omega))
  skip; (repeat (with_reducible refine wp_seq ?_))
  refine cw_t fr rfl ?_
  refine wp_skip ?_
  (with_reducible refine then_n ?_)
  skip; (repeat (with_reducible refine wp_seq ?_))
  refine wp_block ?_
  obtain ⟨A1, c1, rk1, m1, ad1, eA, hc1⟩ := ra.get (i := (i : Int)) ⟨by omega, by omega⟩
  obtain ⟨B1, d1, rk2, m2, bd1, eB, hc2⟩ := rb.get (i := (i : Int)) ⟨by omega, by omega⟩
  rw [Int.toNat_natCast] at rk1 m1 hc1 rk2 m2 hc2
  have g1 : xs.getD i [] = xs[i] := by rw [List.getD_eq_getElem?_getD, List.getElem?_eq_getElem hlt]; rfl
  have g2 : b.getD i [] = b[i]'(by omega) := by rw [List.getD_eq_getElem?_getD, List.getElem?_eq_getElem (by omega)]; rfl
  have l1 : (xs.getD i []).length ≤ 1000000000 := by
    unfold shortL at h2
    rw [List.all_eq_true] at h2
    have := h2 _ (List.getElem_mem hlt)
    rw [g1]; simpa using this
  have l2 : (b.getD i []).length ≤ 1000000000 := by
    unfold shortL at h3
    rw [List.all_eq_true] at h3
    have := h3 _ (List.getElem_mem (show i < b.length by omega))
    rw [g2]; simpa using this
  skip; (repeat (with_reducible refine wp_seq ?_))
  refine wp_region_sl [.one (0, true, some 17), .one (1, true, some 18), .one (2, true, some 19), .one (3, true, some 20), .one (4, true, some 21), .one (5, true, some 22), .one (6, true, some 23), .one (7, true, some 24), .one (8, false, some 25), .one (9, true, some 26)]
                [.one ⟨true, some 17, (Go.Op.move (Go.Operand.tmp 0)), 66, none⟩,
                .one ⟨true, some 18, (Go.Op.move (Go.Operand.tmp 5)), 3, none⟩,
                .one ⟨true, some 19, (Go.Op.indexAddr 66 (Go.Operand.tmp 17) (Go.Operand.tmp 18)), 0, none⟩,
                .one ⟨true, some 20, (Go.Op.load 45 (Go.Operand.tmp 19)), 45, none⟩,
                .one ⟨true, some 21, (Go.Op.move (Go.Operand.tmp 1)), 66, none⟩,
                .one ⟨true, some 22, (Go.Op.move (Go.Operand.tmp 5)), 3, none⟩,
                .one ⟨true, some 23, (Go.Op.indexAddr 66 (Go.Operand.tmp 21) (Go.Operand.tmp 22)), 0, none⟩,
                .one ⟨true, some 24, (Go.Op.load 45 (Go.Operand.tmp 23)), 45, none⟩,
                .one ⟨false, some 25, (Go.Op.call { callee := (Go.Callee.value (Go.Operand.func 18)), args := #[(Go.Operand.tmp 20), (Go.Operand.tmp 24)], argTypes := #[45, 45] }), 4, none⟩,
                .one ⟨true, some 26, (Go.Op.unOp Go.UnOp.not 4 (Go.Operand.tmp 25)), 4, none⟩]
                (fun w' => Below w.heap.size w w') rfl (by kernel_rfl) (by kernel_rfl) ?_ ?_
  · exact hbl.drew
  have hbl := hbl.drew
  refine sl_run orcL_ok 2 rfl fr fun a fr => ?_
  refine sl_ldc orcL_ok (i := (i : Int)) (v := .slice A1 (xs.getD i []).length c1) eA (fun w' hb => RR.cellAt hb hc1) (vok_sl m1) fr rfl rfl rfl rfl rfl rfl rfl rfl rfl rfl rfl rfl rfl rfl rfl rfl rfl ⟨by omega, by omega⟩ fun a fr => ?_
  refine sl_run orcL_ok 2 rfl fr fun a fr => ?_
  refine sl_ldc orcL_ok (i := (i : Int)) (v := .slice B1 (b.getD i []).length d1) eB (fun w' hb => RR.cellAt hb hc2) (vok_sl m2) fr rfl rfl rfl rfl rfl rfl rfl rfl rfl rfl rfl rfl rfl rfl rfl rfl rfl ⟨by omega, by omega⟩ fun a fr => ?_
  refine sl_call fr rfl rfl rfl rfl rfl enSb (sameR_call (w0 := w) (R := []) (rk1.below hbl) (rk2.below hbl) ⟨l1, l2⟩ ⟨hbl, trivial⟩) ?_
  rintro _ w2 ⟨rfl, S⟩
  have hbl := S.below
  refine ⟨_, rfl, rfl, hbl, fun a fr => ?_⟩
  refine sl_run orcL_ok 1 rfl fr fun a fr => ?_
  refine sl_end ?_
  (repeat (with_reducible refine then_n ?_))
  by_cases he : xs.getD i [] = b.getD i []
  · have fr := fr.bool (d := 26) rfl (show (!decide (xs.getD i [] = b.getD i [])) = false by rw [decide_eq_true he]; rfl)
    skip; (repeat (with_reducible refine wp_seq ?_))
    refine cw_f fr rfl ?_
    refine wp_skip ?_
    (repeat (first | (with_reducible refine then_n ?_) | (with_reducible refine blk_n ?_) | (with_reducible refine ng_n ?_)))
    skip; (repeat (with_reducible refine wp_seq ?_)); refine wp_region_lit ?_
    refine wl_run orcL_ok 3 rfl fr fun a fr => ?_
    refine wpList_nil ?_; (repeat (with_reducible refine then_n ?_))
    have fr := fr.spell (d := 5) rfl (congrArg (Value.int .i64) (show IntKind.wrap .i64 ((i : Int) + 1) = ((i + 1 : Nat) : Int) by rw [show IntKind.wrap .i64 ((i : Int) + 1) = (i : Int) + 1 from IntWalk.i64_in _ ⟨by omega, by omega⟩]; omega))
    exact ⟨i + 1, by omega, by omega, take_next' hlt (by omega) hpre (by rw [← g1, ← g2]; exact he), fr.sub ⟨rfl, rfl, rfl, trivial⟩, hbl⟩
  · have fr := fr.bool (d := 26) rfl (show (!decide (xs.getD i [] = b.getD i [])) = true by rw [decide_eq_false he]; rfl)
    skip; (repeat (with_reducible refine wp_seq ?_))
    refine cw_t fr rfl ?_
    skip; (repeat (with_reducible refine wp_seq ?_)); refine wp_region_lit ?_
    refine wl_run orcL_ok 1 rfl fr fun a fr => ?_
    refine wpList_nil ?_; (repeat (with_reducible refine then_n ?_))
    refine wp_ret ?_
    skip; (repeat (first | (with_reducible refine then_r ?_) | (with_reducible refine blk_r ?_) | (with_reducible refine ng_r ?_)))
    refine ret1 fr rfl rfl ?_
    exact ⟨by rw [decide_eq_false (fun e => he (by rw [e]))], hbl⟩
theorem samerecs_call {A B : Option Addr} {ca cb : Nat} {a b : List (List Int)} (ra : RR .u8 w A a) (rb : RR .u8 w B b) (ma : a.length ≤ ca ∧ ca ≤ maxLen) (mb : b.length ≤ cb ∧ cb ≤ maxLen) (hl : a.length ≤ 1000000 ∧ shortL a = true ∧ shortL b = true) (S : Sat w0 w R) :
    Calls Tryz.prog 34 #[.slice A a.length ca, .slice B b.length cb] w fun e w' => e = .returned (.bool (decide (a = b))) ∧ Sat w0 w' R :=
  (samerecs_key ra rb ma mb hl).mono fun e w' ⟨h1, h2⟩ => ⟨h1, S.new h2⟩
end
end Go.Proofs.YticnjkdaccacaaaGreatDoor.Sx
end
section
namespace Go.Proofs.YticnjkdaccacaaaGreatDoor.Sx
open Go Go.RowKit Base _root_.Go.Proofs.YticnjkdaccacaaaGreatDoor.Own Disk
def addEI (D : Dk) (x : Int) (l : List Int) : Int := addE D x.toNat l
def addXI (D : Dk) (x : Int) (l : List Int) : Int := (addX D x.toNat l : Nat)
def addDI (D : Dk) (x : Int) (l : List Int) : Dk := addD D x.toNat l
section
variable {w w0 : World} {g d : Nat} {x : Int} {D : Dk} {R : List Asn}
theorem addE_range (D : Dk) (x : Nat) (l : List Int) : 0 ≤ addE D x l ∧ addE D x l ≤ 5 := by unfold addE; split; decide; split <;> decide
theorem add_callI (S : Sat w0 w (logA g d x :: diskA d D :: R)) {A : Option Addr} {c : Nat} {l : List Int} (rk : Rk .u8 w A l) (hm : l.length ≤ c ∧ c ≤ maxLen) (hb : (0 ≤ x ∧ x ≤ 4096) ∧ D.waits.length ≤ 100000000 ∧ l.length ≤ 1000000000) :
    Calls Tryz.prog 30 #[.pointer (some ⟨g, 0, none⟩), .slice A l.length c] w fun e w' => e = .returned (.int .i64 (addEI D x l)) ∧ vok (.int .i64 (addEI D x l)) = true ∧ Sat w0 w' (logA g d (addXI D x l) :: diskA d (addDI D x l) :: R) := by
  obtain ⟨n, rfl⟩ : ∃ n : Nat, x = n := ⟨x.toNat, by omega⟩
  have hr := addE_range D n l
  refine (add_call S rk hm hb.2.2 (by omega) hb.2.1).mono fun e w' ⟨h1, h2⟩ => ⟨h1, ?_, h2⟩
  show (Lit.int .i64 (addE D n l)).wf = true
  rw [wf_int]
  have h1 : IntKind.i64.min = -9223372036854775808 := by decide
  have h2 : IntKind.i64.max = 9223372036854775807 := by decide
  omega
theorem r6_addI {b : Nat} {A : Option Addr} {c : Nat} {l : List Int} (rk : ∀ w', Sat w0 w' R → Rk .u8 w' A l) (hm : l.length ≤ c ∧ c ≤ maxLen) (hb : (0 ≤ x ∧ x ≤ 4096) ∧ D.waits.length ≤ 900000) (S : Sat w0 w (rlgA g b x :: ddsA b D :: R)) :
    Calls Tryz.prog 31 #[.pointer (some ⟨g, 0, none⟩), .slice A l.length c] w fun e w' => e = .returned (.int .i64 (addEI D x l)) ∧ vok (.int .i64 (addEI D x l)) = true ∧ Sat w0 w' (rlgA g b (addXI D x l) :: ddsA b (addDI D x l) :: R) := by
  obtain ⟨n, rfl⟩ : ∃ n : Nat, x = n := ⟨x.toNat, by omega⟩
  exact r6_add rk hm (by omega) hb.2 S
end
end Go.Proofs.YticnjkdaccacaaaGreatDoor.Sx
end
section
namespace Go.Proofs.YticnjkdaccacaaaGreatDoor.Sx
open Go Go.RowKit Base _root_.Go.Proofs.YticnjkdaccacaaaGreatDoor.Own OwnV
def orcBr : Orc := ⟨[(3, .int .i64), (4, .bool), (5, .int .u8), (45, .slice 5), (66, .slice 45), (44, .struct #[Go.Field.mk "n" 3 0 false "" "concordat/concordatlaw01" 0, Go.Field.mk "bytes" 31 1 false "" "concordat/concordatlaw01" 8, Go.Field.mk "ids" 32 2 false "" "concordat/concordatlaw01" 32, Go.Field.mk "ints" 33 3 false "" "concordat/concordatlaw01" 56, Go.Field.mk "texts" 34 4 false "" "concordat/concordatlaw01" 80, Go.Field.mk "rows" 35 5 false "" "concordat/concordatlaw01" 104, Go.Field.mk "ops" 36 6 false "" "concordat/concordatlaw01" 128, Go.Field.mk "spans" 37 7 false "" "concordat/concordatlaw01" 152, Go.Field.mk "changes" 38 8 false "" "concordat/concordatlaw01" 176, Go.Field.mk "results" 39 9 false "" "concordat/concordatlaw01" 200, Go.Field.mk "msgs" 40 10 false "" "concordat/concordatlaw01" 224, Go.Field.mk "parts" 41 11 false "" "concordat/concordatlaw01" 248, Go.Field.mk "deeds" 42 12 false "" "concordat/concordatlaw01" 272]), (153, .pointer 44)],
  [(3, 1), (4, 1), (5, 1), (45, 1), (66, 1), (44, 13), (153, 1)]⟩
theorem orcBr_ok : orcBr.Ok Tryz.prog := ⟨⟨Tryz.underlying3, Tryz.underlying4, Tryz.underlying5, Tryz.underlying45, Tryz.underlying66, Tryz.underlying44, Tryz.underlying153, trivial⟩, ⟨by kernel_rfl, by kernel_rfl, by kernel_rfl, by kernel_rfl, by kernel_rfl, by kernel_rfl, by kernel_rfl, trivial⟩⟩
theorem enBr : Enters Tryz.prog 19 := fun _ _ => by kernel_rfl
section
variable {w w0 : World} {R : List Asn} {b : Nat} {n : Int}
theorem rv_of_rws {e c : Nat} {A : Option Addr} {rs : List Rw} (S : Sat w0 w (rwsA e A c rs :: R)) : Sat w0 w (rvA e 1 A c rs.length (rs.flatMap secV) :: R) := by
  rw [flat_map]
  exact S.imp fun F ⟨h1, h2, h3⟩ => ⟨h1, fun v hv => by obtain ⟨r, hr, rfl⟩ := List.mem_map.1 hv; exact h2 r hr, h3⟩
set_option maxRecDepth 100000 in
set_option maxHeartbeats 1000000 in
theorem book_records {A : Option Addr} {c : Nat} {ls : List (List Int)} (hl : (∀ l ∈ ls, l.length ≤ 100000000000) ∧ 0 ≤ n ∧ n + ls.length ≤ 100000000) (S : Sat w0 w (recsA .u8 45 5 A c ls :: bookA b n :: R)) :
    Calls Tryz.prog 35 #[.pointer (some ⟨b, 0, none⟩), .slice A ls.length c] w fun e w' => e = .returned (.tuple #[]) ∧ Sat w0 w' (bookA b (n + (ls.length : Nat)) :: R) := by
  have hm := (Sat.recAt S 0 rfl).2
  obtain ⟨hl1, hl2, hl3⟩ := hl
  obtain ⟨⟨rs, hrs⟩, S⟩ := Sat.ofEx S
  subst hrs
  rw [List.length_map] at hm hl3 ⊢
  have S := (Sat.ofSep S).frontAt 1 rfl
  have S := Sat.ofAll S
  have S : Sat w0 w (rows rs ++ (rwsA 45 A c rs :: bookA b n :: R)) := S.perm (List.Perm.append_right _ ((List.reverse_perm rs).map _))
  have S : Sat w0 w (rwsA 45 A c rs :: bookA b (n + (0 : Nat)) :: (rows (rs.drop 0) ++ R)) := by
    rw [Int.natCast_zero, Int.add_zero]
    exact S.perm (swapL (rows rs) [rwsA 45 A c rs, bookA b n] R)
  have S := rv_of_rws S
  refine calls_start (N := 17) [.pointer (some ⟨b, 0, none⟩), .slice A rs.length c] Tryz.func35 rfl rfl rfl (vok_c rfl (vok_c (vok_sl hm) rfl)) fun a fr => ?_
  skip; (repeat (with_reducible refine wp_seq ?_)); refine wp_region_lit ?_
  refine wl_run orcBr_ok 1 rfl fr fun a fr => ?_
  refine wpList_nil ?_; (repeat (with_reducible refine then_n ?_))
  skip; (repeat (with_reducible refine wp_seq ?_))
  refine wp_block ?_
  refine cw_loop (fun q a w1 => ∃ i : Nat, i + q = rs.length + 1 ∧ i ≤ rs.length ∧ Fr 17 a [(0, .pointer (some ⟨b, 0, none⟩)), (1, .slice A rs.length c), (4, .int .i64 (i : Int))] ∧ Sat w0 w1 (rvA 45 1 A c rs.length (rs.flatMap secV) :: bookA b (n + (i : Nat)) :: (rows (rs.drop i) ++ R))) (rs.length + 1)
    ⟨0, by omega, by omega, fr.sub ⟨rfl, rfl, rfl, trivial⟩, S⟩ ?_ ?_
  · rintro a w1 ⟨i, h, h', -⟩
    omega
  clear fr S
  rintro q a w1 ⟨i, hi, hi', fr, S⟩
  skip; (repeat (with_reducible refine wp_seq ?_)); refine wp_region_lit ?_
  refine wl_run orcBr_ok 4 rfl fr fun a fr => ?_
  refine wpList_nil ?_; (repeat (with_reducible refine then_n ?_))
  by_cases hlt : i < rs.length
  rotate_left
  · have fr := fr.bool (d := 8) rfl (decide_eq_false (show ¬ (i : Int) < (rs.length : Int) by omega))
    have ei : i = rs.length := by omega
    subst ei
    rw [List.drop_of_length_le (Nat.le_refl _)] at S
    skip; (repeat (with_reducible refine wp_seq ?_))
    refine cw_f fr rfl ?_
    refine wp_exit ?_
    skip; (repeat (first | (with_reducible refine then_e ?_) | (with_reducible refine ng_e ?_) | (with_reducible refine blk_e (by decide) ?_))); (with_reducible refine blk_y ?_); (repeat (with_reducible refine then_n ?_))
    refine end_ret ?_
    refine ret0 fr rfl ?_
    exact ⟨rfl, S.tl⟩
  have fr := fr.bool (d := 8) rfl (decide_eq_true (show (i : Int) < (rs.length : Int) by omega))
  obtain ⟨⟨g, hA, hrg⟩, hv⟩ := el_wf secV_len S 0 rfl hlt
  have hll := hl1 rs[i].2.2 (List.mem_map.2 ⟨rs[i], List.getElem_mem hlt, rfl⟩)
  skip; (repeat (with_reducible refine wp_seq ?_))
  refine cw_t fr rfl ?_
  refine wp_skip ?_
  (with_reducible refine then_n ?_)
  skip; (repeat (with_reducible refine wp_seq ?_))
  refine wp_block ?_
  skip; (repeat (with_reducible refine wp_seq ?_)); refine wp_region_lit ?_
  refine wl_run orcBr_ok 3 rfl fr fun a fr => ?_
  have fr := fr.spell (d := 12) rfl (congrArg (fun z => Value.slice z rs.length c) hA)
  refine wl_val fr rfl rfl rfl (indexAddr_run orcBr_ok fr rfl rfl rfl rfl rfl (Int.natCast_nonneg _) (show (i : Int) < ((rs.length : Nat) : Int) by omega) _) rfl fun a fr => ?_
  refine wl_ldf orcBr_ok (v := rwV rs[i]) ⟨by have := elem_cell (j := 0) hrg rfl; exact this, hv _ (List.mem_singleton.2 rfl)⟩ fr rfl rfl rfl rfl rfl rfl rfl fun a fr => ?_
  rw [List.drop_eq_getElem_cons hlt] at S
  have S : Sat w0 w1 (ownA .u8 5 rs[i].1 rs[i].2.1 rs[i].2.2 :: bookA b (n + (i : Nat)) :: rvA 45 1 A c rs.length (rs.flatMap secV) :: (rows (rs.drop (i + 1)) ++ R)) := (S.frontAt 1 rfl).frontAt 2 rfl
  refine wl_call fr rfl rfl rfl rfl enBr (book_bytes ⟨hll, by omega⟩ S) ?_
  rintro _ w2 ⟨rfl, S⟩
  refine ⟨_, rfl, rfl, fun a fr => ?_⟩
  refine wpList_nil ?_; (repeat (with_reducible refine then_n ?_))
  (repeat (first | (with_reducible refine then_n ?_) | (with_reducible refine blk_n ?_) | (with_reducible refine ng_n ?_)))
  skip; (repeat (with_reducible refine wp_seq ?_)); refine wp_region_lit ?_
  refine wl_run orcBr_ok 3 rfl fr fun a fr => ?_
  refine wpList_nil ?_; (repeat (with_reducible refine then_n ?_))
  have fr := fr.spell (d := 4) rfl (congrArg (Value.int .i64) (i64_next hlt (by omega)))
  rw [show n + (i : Nat) + 1 = n + ((i + 1 : Nat) : Int) by omega] at S
  exact ⟨i + 1, by omega, by omega, fr.sub ⟨rfl, rfl, rfl, trivial⟩, S.frontAt 1 rfl⟩
end
end Go.Proofs.YticnjkdaccacaaaGreatDoor.Sx
end
section
namespace Go.Proofs.YticnjkdaccacaaaGreatDoor.Pl
open Go Go.RowKit Sx Base _root_.Go.Proofs.YticnjkdaccacaaaGreatDoor.Own Disk Bytes
def great.l1 : Nat → List (Int × List (Int) × Int × Int × Unit) → Int → Int → Option (Bool)
  | 0, _, _, _ => none
  | k1 + 1, l0, x1, x2 =>
    (if (decide (x2 < (List.length l0 : Int))) = true then (if 0 ≤ x2 ∧ x2 < (List.length l0 : Int) then (lt (List.getD l0 (Int.toNat x2) default) fun y6 => (lt (IntKind.wrap .i64 ((IntKind.wrap .i64 (x1 + (1 : Int))) + (List.length y6.2.1 : Int))) fun y9 => (if (decide (y9 > (40000 : Int))) = true then (some (true)) else ((great.l1 k1 l0) y9 (IntKind.wrap .i64 (x2 + (1 : Int))))))) else none) else (lt (decide ((List.length l0 : Int) > (100 : Int))) fun y10 => (some (y10))))
def great.f (k : Nat) (l0 : List (Int × List (Int) × Int × Int × Unit)) : Option (Bool) :=
  (great.l1 k l0 (0 : Int) (0 : Int))
def WallsPlay.j1 (kl1 : Int → Int → Dk → Int → Dk → Int → Option (Bool)) (y41 : Int × List (Int) × Int × Int × Unit) (x29 : Int) (x48 : Int) (D50 : Dk) (x52 : Int) (D54 : Dk) (x55 : Int) : Option (Bool) :=
  (lt (List.length D50.waits : Int) fun y56 => (if ((List.length D54.waits : Int) != y56) = true then none else (if List.length y41.2.1 ≤ 100000000000 then (if List.length y41.2.1 ≤ 100000000000 ∧ x55 < (1000000000 : Int) then (kl1 (x55 + 1) x48 D50 x52 D54 (IntKind.wrap .i64 (x29 + (1 : Int)))) else none) else none)))
def WallsPlay.j3 (kl1 : Int → Int → Dk → Int → Dk → Int → Option (Bool)) (x20 : Int) (y41 : Int × List (Int) × Int × Int × Unit) (x29 : Int) (D69 : Dk) (D70 : Dk) : Option (Bool) :=
  (if List.length D70.waits ≤ 100000000 then (lt (recsD D70) fun p71 => (lt ((atD D70 : Nat) : Int) fun x72 => (lt (openD D70) fun D73 => (if List.length D69.waits ≤ 100000 ∧ List.length D69.seen ≤ 400 then (lt (recsD D69) fun p77 => (lt ((atD D69 : Nat) : Int) fun x78 => (lt (openD D69) fun D79 => (if List.length p71 ≤ 1000000 ∧ shortL p71 = true ∧ shortL p77 = true then (lt (decide (p71 = p77)) fun y83 => (if (!y83) = true then none else (if (∀ l ∈ p71, List.length l ≤ 100000000000) ∧ 0 ≤ x20 ∧ x20 + (List.length p71 : Nat) ≤ 100000000 then (WallsPlay.j1 kl1 y41 x29 x78 D79 x72 D73 (x20 + (List.length p71 : Nat))) else none))) else none)))) else none)))) else none)
def WallsPlay.j2 (kl1 : Int → Int → Dk → Int → Dk → Int → Option (Bool)) (y41 : Int × List (Int) × Int × Int × Unit) (x20 : Int) (x29 : Int) (D66 : Dk) (D68 : Dk) : Option (Bool) :=
  (if ((Int.tmod y41.1 (7 : Int)) == (5 : Int)) = true then (if (List.length D68.waits ≤ 1000000000 ∧ List.length y41.2.1 ≤ 1000000000) then (lt (Dk.writeR D68 y41.2.2.1 y41.2.1) fun D84 => (if List.length D66.waits ≤ 1000000 then (lt (writeCode (List.length D66.seen) y41.2.2.1 y41.2.1) fun y85 => (lt (Dk.writeR D66 y41.2.2.1 y41.2.1) fun D86 => (if ((writeCode (List.length D68.seen) y41.2.2.1 y41.2.1) != y85) = true then none else (WallsPlay.j3 kl1 x20 y41 x29 D86 D84)))) else none)) else none) else (WallsPlay.j3 kl1 x20 y41 x29 D66 D68))
def WallsPlay.j5 (kl1 : Int → Int → Dk → Int → Dk → Int → Option (Bool)) (x20 : Int) (y41 : Int × List (Int) × Int × Int × Unit) (x29 : Int) (D97 : Dk) (D98 : Dk) : Option (Bool) :=
  (if List.length D98.waits ≤ 100000000 then (lt (recsD D98) fun p99 => (lt ((atD D98 : Nat) : Int) fun x100 => (lt (openD D98) fun D101 => (if List.length D97.waits ≤ 100000 ∧ List.length D97.seen ≤ 400 then (lt (recsD D97) fun p105 => (lt ((atD D97 : Nat) : Int) fun x106 => (lt (openD D97) fun D107 => (if List.length p99 ≤ 1000000 ∧ shortL p99 = true ∧ shortL p105 = true then (lt (decide (p99 = p105)) fun y111 => (if (!y111) = true then none else (if (∀ l ∈ p99, List.length l ≤ 100000000000) ∧ 0 ≤ x20 ∧ x20 + (List.length p99 : Nat) ≤ 100000000 then (WallsPlay.j1 kl1 y41 x29 x106 D107 x100 D101 (x20 + (List.length p99 : Nat))) else none))) else none)))) else none)))) else none)
def WallsPlay.j4 (kl1 : Int → Int → Dk → Int → Dk → Int → Option (Bool)) (y41 : Int × List (Int) × Int × Int × Unit) (x20 : Int) (x29 : Int) (D94 : Dk) (D96 : Dk) : Option (Bool) :=
  (if ((Int.tmod y41.1 (7 : Int)) == (5 : Int)) = true then (if (List.length D96.waits ≤ 1000000000 ∧ List.length y41.2.1 ≤ 1000000000) then (lt (Dk.writeR D96 y41.2.2.1 y41.2.1) fun D112 => (if List.length D94.waits ≤ 1000000 then (lt (writeCode (List.length D94.seen) y41.2.2.1 y41.2.1) fun y113 => (lt (Dk.writeR D94 y41.2.2.1 y41.2.1) fun D114 => (if ((writeCode (List.length D96.seen) y41.2.2.1 y41.2.1) != y113) = true then none else (WallsPlay.j5 kl1 x20 y41 x29 D114 D112)))) else none)) else none) else (WallsPlay.j5 kl1 x20 y41 x29 D94 D96))
def WallsPlay.j7 (kl1 : Int → Int → Dk → Int → Dk → Int → Option (Bool)) (x20 : Int) (y41 : Int × List (Int) × Int × Int × Unit) (x29 : Int) (D125 : Dk) (D126 : Dk) : Option (Bool) :=
  (if List.length D126.waits ≤ 100000000 then (lt (recsD D126) fun p127 => (lt ((atD D126 : Nat) : Int) fun x128 => (lt (openD D126) fun D129 => (if List.length D125.waits ≤ 100000 ∧ List.length D125.seen ≤ 400 then (lt (recsD D125) fun p133 => (lt ((atD D125 : Nat) : Int) fun x134 => (lt (openD D125) fun D135 => (if List.length p127 ≤ 1000000 ∧ shortL p127 = true ∧ shortL p133 = true then (lt (decide (p127 = p133)) fun y139 => (if (!y139) = true then none else (if (∀ l ∈ p127, List.length l ≤ 100000000000) ∧ 0 ≤ x20 ∧ x20 + (List.length p127 : Nat) ≤ 100000000 then (WallsPlay.j1 kl1 y41 x29 x134 D135 x128 D129 (x20 + (List.length p127 : Nat))) else none))) else none)))) else none)))) else none)
def WallsPlay.j6 (kl1 : Int → Int → Dk → Int → Dk → Int → Option (Bool)) (y41 : Int × List (Int) × Int × Int × Unit) (x20 : Int) (x29 : Int) (D122 : Dk) (D124 : Dk) : Option (Bool) :=
  (if ((Int.tmod y41.1 (7 : Int)) == (5 : Int)) = true then (if (List.length D124.waits ≤ 1000000000 ∧ List.length y41.2.1 ≤ 1000000000) then (lt (Dk.writeR D124 y41.2.2.1 y41.2.1) fun D140 => (if List.length D122.waits ≤ 1000000 then (lt (writeCode (List.length D122.seen) y41.2.2.1 y41.2.1) fun y141 => (lt (Dk.writeR D122 y41.2.2.1 y41.2.1) fun D142 => (if ((writeCode (List.length D124.seen) y41.2.2.1 y41.2.1) != y141) = true then none else (WallsPlay.j7 kl1 x20 y41 x29 D142 D140)))) else none)) else none) else (WallsPlay.j7 kl1 x20 y41 x29 D122 D124))
def WallsPlay.j9 (kl1 : Int → Int → Dk → Int → Dk → Int → Option (Bool)) (x20 : Int) (y41 : Int × List (Int) × Int × Int × Unit) (x29 : Int) (D161 : Dk) (D162 : Dk) : Option (Bool) :=
  (if List.length D162.waits ≤ 100000000 then (lt (recsD D162) fun p163 => (lt ((atD D162 : Nat) : Int) fun x164 => (lt (openD D162) fun D165 => (if List.length D161.waits ≤ 100000 ∧ List.length D161.seen ≤ 400 then (lt (recsD D161) fun p169 => (lt ((atD D161 : Nat) : Int) fun x170 => (lt (openD D161) fun D171 => (if List.length p163 ≤ 1000000 ∧ shortL p163 = true ∧ shortL p169 = true then (lt (decide (p163 = p169)) fun y175 => (if (!y175) = true then none else (if (∀ l ∈ p163, List.length l ≤ 100000000000) ∧ 0 ≤ x20 ∧ x20 + (List.length p163 : Nat) ≤ 100000000 then (WallsPlay.j1 kl1 y41 x29 x170 D171 x164 D165 (x20 + (List.length p163 : Nat))) else none))) else none)))) else none)))) else none)
def WallsPlay.j8 (kl1 : Int → Int → Dk → Int → Dk → Int → Option (Bool)) (y41 : Int × List (Int) × Int × Int × Unit) (x20 : Int) (x29 : Int) (D158 : Dk) (D160 : Dk) : Option (Bool) :=
  (if ((Int.tmod y41.1 (7 : Int)) == (5 : Int)) = true then (if (List.length D160.waits ≤ 1000000000 ∧ List.length y41.2.1 ≤ 1000000000) then (lt (Dk.writeR D160 y41.2.2.1 y41.2.1) fun D176 => (if List.length D158.waits ≤ 1000000 then (lt (writeCode (List.length D158.seen) y41.2.2.1 y41.2.1) fun y177 => (lt (Dk.writeR D158 y41.2.2.1 y41.2.1) fun D178 => (if ((writeCode (List.length D160.seen) y41.2.2.1 y41.2.1) != y177) = true then none else (WallsPlay.j9 kl1 x20 y41 x29 D178 D176)))) else none)) else none) else (WallsPlay.j9 kl1 x20 y41 x29 D158 D160))
def WallsPlay.j11 (kl1 : Int → Int → Dk → Int → Dk → Int → Option (Bool)) (x20 : Int) (y41 : Int × List (Int) × Int × Int × Unit) (x29 : Int) (D189 : Dk) (D190 : Dk) : Option (Bool) :=
  (if List.length D190.waits ≤ 100000000 then (lt (recsD D190) fun p191 => (lt ((atD D190 : Nat) : Int) fun x192 => (lt (openD D190) fun D193 => (if List.length D189.waits ≤ 100000 ∧ List.length D189.seen ≤ 400 then (lt (recsD D189) fun p197 => (lt ((atD D189 : Nat) : Int) fun x198 => (lt (openD D189) fun D199 => (if List.length p191 ≤ 1000000 ∧ shortL p191 = true ∧ shortL p197 = true then (lt (decide (p191 = p197)) fun y203 => (if (!y203) = true then none else (if (∀ l ∈ p191, List.length l ≤ 100000000000) ∧ 0 ≤ x20 ∧ x20 + (List.length p191 : Nat) ≤ 100000000 then (WallsPlay.j1 kl1 y41 x29 x198 D199 x192 D193 (x20 + (List.length p191 : Nat))) else none))) else none)))) else none)))) else none)
def WallsPlay.j10 (kl1 : Int → Int → Dk → Int → Dk → Int → Option (Bool)) (y41 : Int × List (Int) × Int × Int × Unit) (x20 : Int) (x29 : Int) (D186 : Dk) (D188 : Dk) : Option (Bool) :=
  (if ((Int.tmod y41.1 (7 : Int)) == (5 : Int)) = true then (if (List.length D188.waits ≤ 1000000000 ∧ List.length y41.2.1 ≤ 1000000000) then (lt (Dk.writeR D188 y41.2.2.1 y41.2.1) fun D204 => (if List.length D186.waits ≤ 1000000 then (lt (writeCode (List.length D186.seen) y41.2.2.1 y41.2.1) fun y205 => (lt (Dk.writeR D186 y41.2.2.1 y41.2.1) fun D206 => (if ((writeCode (List.length D188.seen) y41.2.2.1 y41.2.1) != y205) = true then none else (WallsPlay.j11 kl1 x20 y41 x29 D206 D204)))) else none)) else none) else (WallsPlay.j11 kl1 x20 y41 x29 D186 D188))
def WallsPlay.j13 (kl1 : Int → Int → Dk → Int → Dk → Int → Option (Bool)) (x20 : Int) (y41 : Int × List (Int) × Int × Int × Unit) (x29 : Int) (D217 : Dk) (D218 : Dk) : Option (Bool) :=
  (if List.length D218.waits ≤ 100000000 then (lt (recsD D218) fun p219 => (lt ((atD D218 : Nat) : Int) fun x220 => (lt (openD D218) fun D221 => (if List.length D217.waits ≤ 100000 ∧ List.length D217.seen ≤ 400 then (lt (recsD D217) fun p225 => (lt ((atD D217 : Nat) : Int) fun x226 => (lt (openD D217) fun D227 => (if List.length p219 ≤ 1000000 ∧ shortL p219 = true ∧ shortL p225 = true then (lt (decide (p219 = p225)) fun y231 => (if (!y231) = true then none else (if (∀ l ∈ p219, List.length l ≤ 100000000000) ∧ 0 ≤ x20 ∧ x20 + (List.length p219 : Nat) ≤ 100000000 then (WallsPlay.j1 kl1 y41 x29 x226 D227 x220 D221 (x20 + (List.length p219 : Nat))) else none))) else none)))) else none)))) else none)
def WallsPlay.j12 (kl1 : Int → Int → Dk → Int → Dk → Int → Option (Bool)) (y41 : Int × List (Int) × Int × Int × Unit) (x20 : Int) (x29 : Int) (D214 : Dk) (D216 : Dk) : Option (Bool) :=
  (if ((Int.tmod y41.1 (7 : Int)) == (5 : Int)) = true then (if (List.length D216.waits ≤ 1000000000 ∧ List.length y41.2.1 ≤ 1000000000) then (lt (Dk.writeR D216 y41.2.2.1 y41.2.1) fun D232 => (if List.length D214.waits ≤ 1000000 then (lt (writeCode (List.length D214.seen) y41.2.2.1 y41.2.1) fun y233 => (lt (Dk.writeR D214 y41.2.2.1 y41.2.1) fun D234 => (if ((writeCode (List.length D216.seen) y41.2.2.1 y41.2.1) != y233) = true then none else (WallsPlay.j13 kl1 x20 y41 x29 D234 D232)))) else none)) else none) else (WallsPlay.j13 kl1 x20 y41 x29 D214 D216))
def WallsPlay.l2 : Nat → Int → Dk → Dk → Int → Option (Bool)
  | 0, _, _, _, _ => none
  | k2 + 1, y1, D28, D24, x241 =>
    (if (decide (x241 < y1)) = true then (if (0 ≤ x241 ∧ x241 < (List.length D28.seen : Int)) then (lt (List.getD D28.seen (Int.toNat x241) []) fun l245 => (if (0 ≤ x241 ∧ x241 < (List.length D24.seen : Int)) ∧ List.length D24.waits ≤ 1000000 then (lt (List.getD D24.seen (Int.toNat x241) []) fun l246 => (if List.length l245 ≤ 1000000000 ∧ List.length l246 ≤ 1000000000 then (lt (decide (l245 = l246)) fun y249 => (if (!y249) = true then none else (lt (IntKind.wrap .i64 ((IntKind.wrap .i64 (x241 + (1 : Int))) + (IntKind.wrap .i64 (Int.tdiv y1 (30 : Int))))) fun y250 => ((WallsPlay.l2 k2 y1 D28 D24) y250)))) else none)) else none)) else none) else (some (true)))
def WallsPlay.l1 : Nat → List (Int × List (Int) × Int × Int × Unit) → Int → Int → Int → Dk → Int → Dk → Int → Option (Bool)
  | 0, _, _, _, _, _, _, _, _ => none
  | k1 + 1, l1, y1, x20, x22, D24, x26, D28, x29 =>
    (if (decide (x29 < (List.length l1 : Int))) = true then (if 0 ≤ x29 ∧ x29 < (List.length l1 : Int) then (lt (List.getD l1 (Int.toNat x29) default) fun y41 => (if List.length y41.2.1 ≤ 100000000000 then (if ((Int.tmod y41.1 (7 : Int)) == (0 : Int)) = true then (if ((Int.tmod y41.1 (7 : Int)) == (0 : Int)) = true then (if (0 ≤ x26 ∧ x26 ≤ 4096) ∧ List.length D28.waits ≤ 100000000 ∧ List.length y41.2.1 ≤ 1000000000 then (lt (addEI D28 x26 y41.2.1) fun y57 => (lt (addXI D28 x26 y41.2.1) fun x58 => (lt (addDI D28 x26 y41.2.1) fun D59 => (if (0 ≤ x22 ∧ x22 ≤ 4096) ∧ List.length D24.waits ≤ 900000 then (lt (addEI D24 x22 y41.2.1) fun y60 => (lt (addXI D24 x22 y41.2.1) fun x61 => (lt (addDI D24 x22 y41.2.1) fun D62 => (if (y57 != y60) = true then none else (WallsPlay.j1 (WallsPlay.l1 k1 l1 y1) y41 x29 x61 D62 x58 D59 x20))))) else none)))) else none) else (if ((Int.tmod y41.1 (7 : Int)) == (2 : Int)) = true then (lt (Dk.sync D28) fun D63 => (if List.length D24.waits ≤ 1000000 then (lt (Dk.sync D24) fun D64 => (WallsPlay.j1 (WallsPlay.l1 k1 l1 y1) y41 x29 x22 D64 x26 D63 x20)) else none)) else (if ((Int.tmod y41.1 (7 : Int)) == (3 : Int)) = true then (if ((Int.tmod y41.1 (7 : Int)) == (3 : Int)) = true then (if ((Int.tmod y41.1 (7 : Int)) == (3 : Int)) = true then (if (List.length D28.waits ≤ 1000000 ∧ (-1 : Int) ≤ (if y41.2.2.1 > (-1 : Int) then y41.2.2.1 else (-1 : Int))) then (lt (Dk.fail D28 y41.2.2.2.1 (if y41.2.2.1 > (-1 : Int) then y41.2.2.1 else (-1 : Int))) fun D88 => (if (-1 : Int) ≤ (if y41.2.2.1 > (-1 : Int) then y41.2.2.1 else (-1 : Int)) ∧ List.length D24.waits ≤ 1000000 then (lt (Dk.fail D24 y41.2.2.2.1 (if y41.2.2.1 > (-1 : Int) then y41.2.2.1 else (-1 : Int))) fun D89 => (WallsPlay.j2 (WallsPlay.l1 k1 l1 y1) y41 x20 x29 D89 D88)) else none)) else none) else (WallsPlay.j2 (WallsPlay.l1 k1 l1 y1) y41 x20 x29 D24 D28)) else (if 0 ≤ x26 ∧ x26 ≤ 1000000 then (lt (roomF D28 x26 y41.2.2.1) fun y91 => (if 0 ≤ x22 ∧ x22 ≤ 1000000 then (lt (roomF D24 x22 y41.2.2.1) fun y92 => (if (!(y91 == y92)) = true then none else (WallsPlay.j1 (WallsPlay.l1 k1 l1 y1) y41 x29 x22 D24 x26 D28 x20))) else none)) else none)) else (if ((Int.tmod y41.1 (7 : Int)) == (4 : Int)) = true then (if ((Int.tmod y41.1 (7 : Int)) == (4 : Int)) = true then (if ((Int.tmod y41.1 (7 : Int)) == (3 : Int)) = true then (if (List.length D28.waits ≤ 1000000 ∧ (-1 : Int) ≤ (if y41.2.2.1 > (-1 : Int) then y41.2.2.1 else (-1 : Int))) then (lt (Dk.fail D28 y41.2.2.2.1 (if y41.2.2.1 > (-1 : Int) then y41.2.2.1 else (-1 : Int))) fun D116 => (if (-1 : Int) ≤ (if y41.2.2.1 > (-1 : Int) then y41.2.2.1 else (-1 : Int)) ∧ List.length D24.waits ≤ 1000000 then (lt (Dk.fail D24 y41.2.2.2.1 (if y41.2.2.1 > (-1 : Int) then y41.2.2.1 else (-1 : Int))) fun D117 => (WallsPlay.j4 (WallsPlay.l1 k1 l1 y1) y41 x20 x29 D117 D116)) else none)) else none) else (WallsPlay.j4 (WallsPlay.l1 k1 l1 y1) y41 x20 x29 D24 D28)) else (if 0 ≤ x26 ∧ x26 ≤ 1000000 then (lt (roomF D28 x26 y41.2.2.1) fun y119 => (if 0 ≤ x22 ∧ x22 ≤ 1000000 then (lt (roomF D24 x22 y41.2.2.1) fun y120 => (if (!(y119 == y120)) = true then none else (WallsPlay.j1 (WallsPlay.l1 k1 l1 y1) y41 x29 x22 D24 x26 D28 x20))) else none)) else none)) else (if ((Int.tmod y41.1 (7 : Int)) == (5 : Int)) = true then (if ((Int.tmod y41.1 (7 : Int)) == (3 : Int)) = true then (if (List.length D28.waits ≤ 1000000 ∧ (-1 : Int) ≤ (if y41.2.2.1 > (-1 : Int) then y41.2.2.1 else (-1 : Int))) then (lt (Dk.fail D28 y41.2.2.2.1 (if y41.2.2.1 > (-1 : Int) then y41.2.2.1 else (-1 : Int))) fun D144 => (if (-1 : Int) ≤ (if y41.2.2.1 > (-1 : Int) then y41.2.2.1 else (-1 : Int)) ∧ List.length D24.waits ≤ 1000000 then (lt (Dk.fail D24 y41.2.2.2.1 (if y41.2.2.1 > (-1 : Int) then y41.2.2.1 else (-1 : Int))) fun D145 => (WallsPlay.j6 (WallsPlay.l1 k1 l1 y1) y41 x20 x29 D145 D144)) else none)) else none) else (WallsPlay.j6 (WallsPlay.l1 k1 l1 y1) y41 x20 x29 D24 D28)) else (if 0 ≤ x26 ∧ x26 ≤ 1000000 then (lt (roomF D28 x26 y41.2.2.1) fun y147 => (if 0 ≤ x22 ∧ x22 ≤ 1000000 then (lt (roomF D24 x22 y41.2.2.1) fun y148 => (if (!(y147 == y148)) = true then none else (WallsPlay.j1 (WallsPlay.l1 k1 l1 y1) y41 x29 x22 D24 x26 D28 x20))) else none)) else none)))))) else (if ((Int.tmod y41.1 (7 : Int)) == (1 : Int)) = true then (if (0 ≤ x26 ∧ x26 ≤ 4096) ∧ List.length D28.waits ≤ 100000000 ∧ List.length y41.2.1 ≤ 1000000000 then (lt (addEI D28 x26 y41.2.1) fun y149 => (lt (addXI D28 x26 y41.2.1) fun x150 => (lt (addDI D28 x26 y41.2.1) fun D151 => (if (0 ≤ x22 ∧ x22 ≤ 4096) ∧ List.length D24.waits ≤ 900000 then (lt (addEI D24 x22 y41.2.1) fun y152 => (lt (addXI D24 x22 y41.2.1) fun x153 => (lt (addDI D24 x22 y41.2.1) fun D154 => (if (y149 != y152) = true then none else (WallsPlay.j1 (WallsPlay.l1 k1 l1 y1) y41 x29 x153 D154 x150 D151 x20))))) else none)))) else none) else (if ((Int.tmod y41.1 (7 : Int)) == (2 : Int)) = true then (lt (Dk.sync D28) fun D155 => (if List.length D24.waits ≤ 1000000 then (lt (Dk.sync D24) fun D156 => (WallsPlay.j1 (WallsPlay.l1 k1 l1 y1) y41 x29 x22 D156 x26 D155 x20)) else none)) else (if ((Int.tmod y41.1 (7 : Int)) == (3 : Int)) = true then (if ((Int.tmod y41.1 (7 : Int)) == (3 : Int)) = true then (if ((Int.tmod y41.1 (7 : Int)) == (3 : Int)) = true then (if (List.length D28.waits ≤ 1000000 ∧ (-1 : Int) ≤ (if y41.2.2.1 > (-1 : Int) then y41.2.2.1 else (-1 : Int))) then (lt (Dk.fail D28 y41.2.2.2.1 (if y41.2.2.1 > (-1 : Int) then y41.2.2.1 else (-1 : Int))) fun D180 => (if (-1 : Int) ≤ (if y41.2.2.1 > (-1 : Int) then y41.2.2.1 else (-1 : Int)) ∧ List.length D24.waits ≤ 1000000 then (lt (Dk.fail D24 y41.2.2.2.1 (if y41.2.2.1 > (-1 : Int) then y41.2.2.1 else (-1 : Int))) fun D181 => (WallsPlay.j8 (WallsPlay.l1 k1 l1 y1) y41 x20 x29 D181 D180)) else none)) else none) else (WallsPlay.j8 (WallsPlay.l1 k1 l1 y1) y41 x20 x29 D24 D28)) else (if 0 ≤ x26 ∧ x26 ≤ 1000000 then (lt (roomF D28 x26 y41.2.2.1) fun y183 => (if 0 ≤ x22 ∧ x22 ≤ 1000000 then (lt (roomF D24 x22 y41.2.2.1) fun y184 => (if (!(y183 == y184)) = true then none else (WallsPlay.j1 (WallsPlay.l1 k1 l1 y1) y41 x29 x22 D24 x26 D28 x20))) else none)) else none)) else (if ((Int.tmod y41.1 (7 : Int)) == (4 : Int)) = true then (if ((Int.tmod y41.1 (7 : Int)) == (4 : Int)) = true then (if ((Int.tmod y41.1 (7 : Int)) == (3 : Int)) = true then (if (List.length D28.waits ≤ 1000000 ∧ (-1 : Int) ≤ (if y41.2.2.1 > (-1 : Int) then y41.2.2.1 else (-1 : Int))) then (lt (Dk.fail D28 y41.2.2.2.1 (if y41.2.2.1 > (-1 : Int) then y41.2.2.1 else (-1 : Int))) fun D208 => (if (-1 : Int) ≤ (if y41.2.2.1 > (-1 : Int) then y41.2.2.1 else (-1 : Int)) ∧ List.length D24.waits ≤ 1000000 then (lt (Dk.fail D24 y41.2.2.2.1 (if y41.2.2.1 > (-1 : Int) then y41.2.2.1 else (-1 : Int))) fun D209 => (WallsPlay.j10 (WallsPlay.l1 k1 l1 y1) y41 x20 x29 D209 D208)) else none)) else none) else (WallsPlay.j10 (WallsPlay.l1 k1 l1 y1) y41 x20 x29 D24 D28)) else (if 0 ≤ x26 ∧ x26 ≤ 1000000 then (lt (roomF D28 x26 y41.2.2.1) fun y211 => (if 0 ≤ x22 ∧ x22 ≤ 1000000 then (lt (roomF D24 x22 y41.2.2.1) fun y212 => (if (!(y211 == y212)) = true then none else (WallsPlay.j1 (WallsPlay.l1 k1 l1 y1) y41 x29 x22 D24 x26 D28 x20))) else none)) else none)) else (if ((Int.tmod y41.1 (7 : Int)) == (5 : Int)) = true then (if ((Int.tmod y41.1 (7 : Int)) == (3 : Int)) = true then (if (List.length D28.waits ≤ 1000000 ∧ (-1 : Int) ≤ (if y41.2.2.1 > (-1 : Int) then y41.2.2.1 else (-1 : Int))) then (lt (Dk.fail D28 y41.2.2.2.1 (if y41.2.2.1 > (-1 : Int) then y41.2.2.1 else (-1 : Int))) fun D236 => (if (-1 : Int) ≤ (if y41.2.2.1 > (-1 : Int) then y41.2.2.1 else (-1 : Int)) ∧ List.length D24.waits ≤ 1000000 then (lt (Dk.fail D24 y41.2.2.2.1 (if y41.2.2.1 > (-1 : Int) then y41.2.2.1 else (-1 : Int))) fun D237 => (WallsPlay.j12 (WallsPlay.l1 k1 l1 y1) y41 x20 x29 D237 D236)) else none)) else none) else (WallsPlay.j12 (WallsPlay.l1 k1 l1 y1) y41 x20 x29 D24 D28)) else (if 0 ≤ x26 ∧ x26 ≤ 1000000 then (lt (roomF D28 x26 y41.2.2.1) fun y239 => (if 0 ≤ x22 ∧ x22 ≤ 1000000 then (lt (roomF D24 x22 y41.2.2.1) fun y240 => (if (!(y239 == y240)) = true then none else (WallsPlay.j1 (WallsPlay.l1 k1 l1 y1) y41 x29 x22 D24 x26 D28 x20))) else none)) else none))))))) else none)) else none) else (WallsPlay.l2 k1 y1 D28 D24 (0 : Int)))
def WallsPlay.f (k : Nat) (a0 : Int) (l1 : List (Int × List (Int) × Int × Int × Unit)) : Option (Bool) :=
  (lt (IntKind.wrap .i64 ((1 : Int) + (Int.tmod (IntKind.wrap .i64 a0) (300 : Int)))) fun y1 => (Option.bind (great.f k l1) fun r2 => (if r2 = true then (some (true)) else (if 1 ≤ y1 ∧ y1 ≤ (4096 : Int) then (lt (Disk.blank (Int.toNat y1)) fun D3 => (if 1 ≤ y1 ∧ y1 ≤ (4096 : Int) then (lt (Disk.blank (Int.toNat y1)) fun D5 => (if List.length D3.waits ≤ 100000000 then (lt (recsD D3) fun p7 => (lt ((atD D3 : Nat) : Int) fun x8 => (lt (openD D3) fun D9 => (if List.length D5.waits ≤ 100000 ∧ List.length D5.seen ≤ 400 then (lt (recsD D5) fun p13 => (lt ((atD D5 : Nat) : Int) fun x14 => (lt (openD D5) fun D15 => (if ((List.length p7 : Int) != (0 : Int)) = true then none else (WallsPlay.l1 k l1 y1 (0 : Int) x14 D15 x8 D9 (0 : Int)))))) else none)))) else none)) else none)) else none))))
end Go.Proofs.YticnjkdaccacaaaGreatDoor.Pl
end
