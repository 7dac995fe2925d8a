/- walls.Open, walked. -/
import Derived.Test.YtmpkoacpakepfaaWn
namespace Go.Proofs.Ytmpkoacpakepfaa.Sx
open Go Go.RowKit Base Own Disk

theorem take_flat {l : List (List Int)} {i : Nat} (hi : i < l.length) : (l.take i).flatten ++ l.getD i [] = (l.take (i + 1)).flatten := by
  rw [List.take_succ_eq_append_getElem hi, List.flatten_append, List.getD_eq_getElem?_getD, List.getElem?_eq_getElem hi]; simp
theorem writeR_len (D : Dk) (x : Int) (b : List Int) : (D.writeR x b).seen.length = D.seen.length := by
  unfold Dk.writeR
  split
  · simp [Dk.write]
  · rfl
theorem parse_facts : ∀ (k : Nat) (b : List Int), secs (parse k b) * 64 ≤ b.length ∧ (parse k b).length ≤ secs (parse k b) := by
  intro k
  induction k with
  | zero => intro b; exact ⟨by simp [parse, secs], Nat.zero_le _⟩
  | succ k ih =>
    intro b
    unfold parse
    cases h : Frames.get b with
    | none => exact ⟨by simp [secs], Nat.zero_le _⟩
    | some p =>
      obtain ⟨r, m⟩ := p
      obtain ⟨_, h2, h3, _⟩ := get_len h
      obtain ⟨i1, i2⟩ := ih (b.drop (m * 64))
      rw [List.length_drop] at i1
      have e : secs ((r, m) :: parse k (b.drop (m * 64))) = m + secs (parse k (b.drop (m * 64))) := by unfold secs; simp
      simp only
      rw [e, List.length_cons]
      exact ⟨by omega, by omega⟩
section
variable {w w0 : World} {d : Nat} {D : Dk} {R : List Asn}
set_option maxRecDepth 100000 in
set_option maxHeartbeats 2000000 in
theorem open_call (S : Sat w0 w (diskA d D :: R)) (hwt : D.waits.length ≤ 100000000) :
    Calls Try.prog 14 #[.pointer (some ⟨d, 0, none⟩)] w fun e w' => ∃ g A c, e = .returned (.tuple #[.pointer (some ⟨g, 0, none⟩), .slice A (recsD D).length c, .int .i64 0]) ∧ vok (.tuple #[.pointer (some ⟨g, 0, none⟩), .slice A (recsD D).length c, .int .i64 0]) = true ∧
      Sat w0 w' (logA g d (atD D) :: recsA .u8 22 5 A c (recsD D) :: diskA d (openD D) :: R) := by
  have hok := disk_seen S
  have hm := hok.most
  have hpos := hok.pos
  have hfl := flat_len hok.seen
  obtain ⟨n, hn⟩ : ∃ n, n = D.seen.length := ⟨_, rfl⟩
  obtain ⟨all, hall⟩ : ∃ all, all = D.seen.flatten := ⟨_, rfl⟩
  obtain ⟨hp1, hp2⟩ := parse_facts (all.length + 1) all
  have hfd : found D = parse (all.length + 1) all := by unfold found; rw [hall]
  have hat : atD D = secs (parse (all.length + 1) all) := by unfold atD; rw [hfd]
  have hatn : atD D ≤ n := by rw [hat]; rw [← hall, ← hn] at hfl; omega
  refine calls_marks (N := 83) [.pointer (some ⟨d, 0, none⟩)] Try.func14 rfl rfl rfl (vok_c rfl rfl) fun a fr => ?_
  skip; (repeat (with_reducible refine wp_seq ?_)); refine wp_region_lit ?_
  refine wl_allocv (v := .pointer none) fr rfl rfl rfl rfl zeroLP rfl rfl S ?_
  intro w1 b2 S a fr
  refine wl_allocv (v := .slice none 0 0) fr rfl rfl rfl rfl zeroRS rfl rfl S ?_
  intro w2 b3 S a fr
  refine wl_run orcL_ok 1 rfl fr fun a fr => ?_
  refine wpList_nil ?_; (repeat (with_reducible refine then_n ?_))
  skip; (repeat (with_reducible refine wp_seq ?_)); refine wp_region_lit ?_
  refine wl_run orcL_ok 1 rfl fr fun a fr => ?_
  refine wl_call fr rfl rfl rfl rfl enSize (disk_size (S.frontAt 2 rfl)) ?_
  rintro _ w ⟨rfl, hw⟩
  subst hw
  refine ⟨_, rfl, vok_small hm, fun a fr => ?_⟩
  rw [← hn] at fr
  refine wl_run orcL_ok 1 rfl fr fun a fr => ?_
  refine wpList_nil ?_; (repeat (with_reducible refine then_n ?_))
  have fr := fr.bool (d := 15) rfl (show ((n : Int) == 0) = false by simp; omega)
  skip; (repeat (with_reducible refine wp_seq ?_))
  refine cw_f fr rfl ?_
  refine wp_skip ?_
  (with_reducible refine then_n ?_)
  skip; (repeat (with_reducible refine wp_seq ?_)); refine wp_region_lit ?_
  refine wl_run orcL_ok 1 rfl fr fun a fr => ?_
  refine wpList_nil ?_; (repeat (with_reducible refine then_n ?_))
  skip; (repeat (with_reducible refine wp_seq ?_)); refine wp_region_lit ?_
  refine wl_run orcL_ok 1 rfl fr fun a fr => ?_
  refine wl_call fr rfl rfl rfl rfl enSize (disk_size (S.frontAt 2 rfl)) ?_
  rintro _ w ⟨rfl, hw⟩
  subst hw
  refine ⟨_, rfl, vok_small hm, fun a fr => ?_⟩
  rw [← hn] at fr
  refine wl_run orcL_ok 1 rfl fr fun a fr => ?_
  refine wpList_nil ?_; (repeat (with_reducible refine then_n ?_))
  have S := S.nilRow .u8 5
  skip; (repeat (with_reducible refine wp_seq ?_))
  refine wp_block ?_
  refine cw_loop (fun q a w => ∃ (i : Nat) (A : Option Addr) (c : Nat), i + q = n + 1 ∧ i ≤ n ∧
      Fr 83 a [(0, .pointer (some ⟨d, 0, none⟩)), (2, .pointer (some ⟨b2, 0, none⟩)), (3, .pointer (some ⟨b3, 0, none⟩)), (5, .slice A ((D.seen.take i).flatten).length c), (17, .int .i64 (n : Int)), (18, .int .i64 (i : Int))] ∧
      Sat w0 w (ownA .u8 5 A c ((D.seen.take i).flatten) :: stA 34 b3 [.slice none 0 0] :: stA 23 b2 [.pointer none] :: diskA d D :: R)) (n + 1)
    ⟨0, none, 0, by omega, by omega, fr.sub ⟨rfl, rfl, rfl, rfl, rfl, rfl, trivial⟩, S⟩ ?_ ?_
  · rintro a w ⟨i, A, c, h, h', -⟩
    omega
  clear fr S
  rintro q a w ⟨i, A, c, hi, hi', fr, S⟩
  skip; (repeat (with_reducible refine wp_seq ?_)); refine wp_region_lit ?_
  refine wl_run orcL_ok 1 rfl fr fun a fr => ?_
  refine wpList_nil ?_; (repeat (with_reducible refine then_n ?_))
  by_cases hlt : i < n
  · have fr := fr.bool (d := 19) rfl (decide_eq_true (show (i : Int) < (n : Int) by omega))
    skip; (repeat (with_reducible refine wp_seq ?_))
    refine cw_t fr rfl ?_
    refine wp_skip ?_
    (with_reducible refine then_n ?_)
    skip; (repeat (with_reducible refine wp_seq ?_))
    refine wp_block ?_
    skip; (repeat (with_reducible refine wp_seq ?_)); refine wp_region_lit ?_
    refine wl_run orcL_ok 2 rfl fr fun a fr => ?_
    refine wpList_nil ?_; (repeat (with_reducible refine then_n ?_))
    skip; (repeat (with_reducible refine wp_seq ?_)); refine wp_region_lit ?_
    refine wl_run orcL_ok 2 rfl fr fun a fr => ?_
    have S : Sat w0 w (diskA d D :: ownA .u8 5 A c ((D.seen.take i).flatten) :: stA 34 b3 [.slice none 0 0] :: stA 23 b2 [.pointer none] :: R) := S.frontAt 3 rfl
    refine wl_call fr rfl rfl rfl rfl enRead (disk_read S (x := (i : Int)) ⟨by omega, by omega⟩) ?_
    rintro _ w1 ⟨A1, c1, rfl, hv, S⟩
    refine ⟨_, rfl, hv, fun a fr => ?_⟩
    refine wl_run orcL_ok 5 rfl fr fun a fr => ?_
    refine wpList_nil ?_; (repeat (with_reducible refine then_n ?_))
    have hk := Sat.ownAt S 0 rfl
    rw [Int.toNat_natCast] at hk S fr
    have hb1 : ((D.seen.take i).flatten).length ≤ 1000000 := by
      rw [flat_len (fun p hp => hok.seen p (List.mem_of_mem_take hp)), List.length_take]; omega
    have hb2 : (D.seen.getD i []).length = 64 := (seen_pc hok (by omega)).1
    have S : Sat w0 w1 (ownA .u8 5 A c ((D.seen.take i).flatten) :: ownA .u8 5 A1 c1 (D.seen.getD i []) :: diskA d D :: stA 34 b3 [.slice none 0 0] :: stA 23 b2 [.pointer none] :: R) := S.frontAt 2 rfl
    skip; (repeat (with_reducible refine wp_seq ?_)); refine wp_region_lit ?_
    refine wl_run orcL_ok 2 rfl fr fun a fr => ?_
    refine wl_app litB fr rfl rfl rfl rfl rfl rfl rfl rfl hk (by omega) S ?_
    intro w2 A2 c2 S a fr
    rw [take_flat (by omega)] at S fr
    refine wl_run orcL_ok 1 rfl fr fun a fr => ?_
    refine wpList_nil ?_; (repeat (with_reducible refine then_n ?_))
    (repeat (first | (with_reducible refine then_n ?_) | (with_reducible refine blk_n ?_) | (with_reducible refine ng_n ?_)))
    skip; (repeat (with_reducible refine wp_seq ?_)); refine wp_region_lit ?_
    refine wl_run orcL_ok 2 rfl fr fun a fr => ?_
    refine wpList_nil ?_; (repeat (with_reducible refine then_n ?_))
    have fr := fr.spell (d := 18) rfl (congrArg (Value.int .i64) (show IntKind.wrap .i64 ((i : Int) + 1) = ((i + 1 : Nat) : Int) by rw [show IntKind.wrap .i64 ((i : Int) + 1) = (i : Int) + 1 from IntWalk.i64_in _ ⟨by omega, by omega⟩]; omega))
    refine ⟨i + 1, A2, c2, by omega, by omega, fr.sub ⟨rfl, rfl, rfl, rfl, rfl, rfl, trivial⟩, ?_⟩
    have S := S.mask [true, false]
    exact ((S.frontAt 3 rfl).frontAt 3 rfl).frontAt 2 rfl
  have fr := fr.bool (d := 19) rfl (decide_eq_false (show ¬ (i : Int) < (n : Int) by omega))
  obtain rfl : i = n := by omega
  rw [hn, List.take_length, ← hall] at S fr
  rw [← hn] at fr
  have hal : all.length = i * 64 := by rw [hall, hfl, hn]
  skip; (repeat (with_reducible refine wp_seq ?_))
  refine cw_f fr rfl ?_
  refine wp_exit ?_
  skip; (repeat (first | (with_reducible refine then_e ?_) | (with_reducible refine ng_e ?_) | (with_reducible refine blk_e (by decide) ?_))); (with_reducible refine blk_y ?_); (repeat (with_reducible refine then_n ?_))
  have S : Sat w0 w (stA 23 b2 [.pointer none] :: ownA .u8 5 A c all :: stA 34 b3 [.slice none 0 0] :: diskA d D :: R) := S.frontAt 2 rfl
  skip; (repeat (with_reducible refine wp_seq ?_)); refine wp_region_lit ?_
  refine wl_run orcL_ok 1 rfl fr fun a fr => ?_
  refine wl_build (cs := [.pointer (some ⟨d, 0, none⟩), .int .i64 0]) (L2 := [(0, .pointer (some ⟨d, 0, none⟩))]) fr rfl rfl rfl rfl (by simpa using (fr.ev (o := .tmp 31) rfl).1) (by kernel_rfl) rfl fun a fr => ?_
  refine wl_build (cs := [.pointer (some ⟨d, 0, none⟩), .int .i64 0]) (L2 := [(0, .agg #[.pointer (some ⟨d, 0, none⟩), .int .i64 0])]) fr rfl rfl rfl rfl (by simpa using (fr.ev (o := .tmp 32) rfl).1) (by kernel_rfl) rfl fun a fr => ?_
  refine wl_boxs fr rfl rfl rfl rfl rfl rfl S ?_
  intro w1 g S a fr
  have S : Sat w0 w1 (stA 23 b2 [.pointer none] :: logA g d 0 :: ownA .u8 5 A c all :: stA 34 b3 [.slice none 0 0] :: diskA d D :: R) := S.frontAt 1 rfl
  refine wl_stv orcL_ok fr rfl rfl rfl rfl rfl rfl rfl rfl S ?_
  intro w2 S
  refine wpList_nil ?_; (repeat (with_reducible refine then_n ?_))
  skip; (repeat (with_reducible refine wp_seq ?_)); refine wp_region_lit ?_
  refine wl_run orcL_ok 1 rfl fr fun a fr => ?_
  refine wl_call fr rfl rfl rfl rfl enFound (found_call (fr.vok (d := 35) rfl) S) ?_
  rintro _ w3 ⟨bx, rfl, S⟩
  refine ⟨_, rfl, rfl, fun a fr => ?_⟩
  refine wpList_nil ?_; (repeat (with_reducible refine then_n ?_))
  skip; (repeat (with_reducible refine wp_seq ?_))
  refine wp_block ?_
  have S := S.noRecs .u8 22 5
  have S : Sat w0 w3 (zA b3 b2 g d [] :: stA 22 bx [.slice A all.length c] :: ownA .u8 5 A c all :: diskA d D :: R) := by
    have S1 : Sat w0 w3 (stA 34 b3 [.slice none 0 0] :: recsA .u8 22 5 none 0 [] :: stA 23 b2 [.pointer (some ⟨g, 0, none⟩)] :: logA g d 0 :: stA 22 bx [.slice A all.length c] :: ownA .u8 5 A c all :: diskA d D :: R) :=
      (((S.frontAt 3 rfl).frontAt 3 rfl).frontAt 2 rfl).frontAt 5 rfl
    exact Sat.shutZ (l := []) S1
  refine cw_rangeF fr rfl enFound1 S ?_
  intro fn lp dd w4 S
  have S : Sat w0 w4 (zA b3 b2 g d [] :: objA (.loop _) lp :: stA 22 bx [.slice A all.length c] :: ownA .u8 5 A c all :: diskA d D :: objA (.deferred (some [])) dd :: R) := (((((S.frontAt 1 rfl).frontAt 5 rfl).frontAt 5 rfl).frontAt 5 rfl).frontAt 4 rfl).frontAt 5 rfl
  refine (found_iter (zA b3 b2 g d) (by omega) rfl S ?_).mono ?_
  · intro w5 l r m A5 c5 M hv hlb hsb S
    have hvm : vok (.int .i64 (m : Int)) = true := by
      have h1 : (Lit.int .i64 (m : Int)).wf = true := by
        rw [wf_int]
        have h2 : IntKind.i64.min = -9223372036854775808 := by decide
        have h3 : IntKind.i64.max = 9223372036854775807 := by decide
        omega
      exact h1
    have fr7 := (fr.put (d := 37) (v := .slice A5 r.length c5) (by decide) hv).put (d := 38) (v := .int .i64 m) (by decide) hvm
    have hact : (a.put (some 37) (.slice A5 r.length c5)).put (some 38) (.int .i64 m) = { tmps := (#[37, 38].zip #[Value.slice A5 r.length c5, Value.int .i64 m]).foldl (fun tmps (t, a) => tmps.setIfInBounds t a) a.tmps, defers := [] } := by
      have := fr.defers
      cases a
      simp only at this
      subst this
      simp [Act.put]
    rw [hact] at fr7
    refine roundIn_of_wpIn trivial ?_
    refine wpIn_seq ?_
    refine regIn (fun _ _ h => h) (by simp) ?_
    refine wl_run orcL_ok 1 rfl fr7 fun a' fr => ?_
    refine wpList_nil ?_
    refine regIn (fun _ _ h => h) (by simp) ?_
    refine wl_run orcL_ok 1 rfl fr fun a' fr => ?_
    refine wpList_nil ?_
    have hlp := Sat.objAt S 2 rfl
    refine ⟨_, run_beginRound hlp rfl, ?_⟩
    have S : Sat w0 _ (objA (.loop _) lp :: ownA .u8 5 A5 c5 r :: zA b3 b2 g d l :: M) := S.frontAt 2 rfl
    have S := S.putLoop fun r => { r with state := .busy }
    have S : Sat w0 _ (zA b3 b2 g d l :: objA (.loop _) lp :: ownA .u8 5 A5 c5 r :: M) := S.frontAt 2 rfl
    obtain ⟨A6, c6, S⟩ := S.openZ
    refine wpIn_block ?_
    refine wpIn_seq ?_
    refine regIn (fun _ _ h => h) (by simp) ?_
    refine wl_ldf orcL_ok (Sat.varAt S 0 rfl) fr rfl rfl rfl rfl rfl rfl rfl fun a' fr => ?_
    refine wl_run orcL_ok 1 rfl fr fun a fr => ?_
    have S : Sat w0 _ (ownA .u8 5 A5 c5 r :: recsA .u8 22 5 A6 c6 (l.map (·.1)) :: stA 34 b3 [.slice A6 (l.map (·.1)).length c6] :: stA 23 b2 [.pointer (some ⟨g, 0, none⟩)] :: logA g d (secs l) :: objA (.loop _) lp :: M) := (S.frontAt 1 rfl).frontAt 5 rfl
    refine wl_recapp (t := 34) Try.underlying34 litRi litRj (by decide) fr rfl rfl rfl rfl rfl rfl rfl rfl rfl rfl (fun _ => rfl) rfl (by rw [List.length_map]; omega) rfl S ?_
    intro w6 A7 c7 S a6 fr
    have hmm : l.map (·.1) ++ [r] = (l ++ [(r, m)]).map (·.1) := by simp
    rw [hmm] at S fr
    have S : Sat w0 _ (stA 34 b3 [.slice A6 (l.map (·.1)).length c6] :: recsA .u8 22 5 A7 c7 ((l ++ [(r, m)]).map (·.1)) :: stA 23 b2 [.pointer (some ⟨g, 0, none⟩)] :: logA g d (secs l) :: objA (.loop _) lp :: M) := S.frontAt 1 rfl
    refine wl_stv orcL_ok fr rfl rfl rfl rfl rfl rfl rfl rfl S ?_
    intro w7 S
    refine wpList_nil ?_
    refine regIn (fun _ _ h => h) (by simp) ?_
    refine wl_ldf orcL_ok (Sat.varAt S 2 rfl) fr rfl rfl rfl rfl rfl rfl rfl fun a' fr => ?_
    refine wl_run orcL_ok 3 rfl fr fun a fr => ?_
    refine wl_ldf orcL_ok (Sat.stAt S 3 rfl (j := 1) rfl) fr rfl rfl rfl rfl rfl rfl rfl fun a fr => ?_
    refine wl_run orcL_ok 5 rfl fr fun a fr => ?_
    have hse : secs (l ++ [(r, m)]) = secs l + m := secs_snoc l (r, m)
    have fr := fr.spell (d := 49) rfl (congrArg (Value.int .i64) (show IntKind.wrap .i64 ((secs l : Int) + (m : Int)) = ((secs (l ++ [(r, m)]) : Nat) : Int) by rw [show IntKind.wrap .i64 ((secs l : Int) + (m : Int)) = (secs l : Int) + (m : Int) from IntWalk.i64_in _ ⟨by omega, by omega⟩, hse]; omega))
    have S : Sat w0 _ (logA g d (secs l) :: stA 34 b3 [.slice A7 ((l ++ [(r, m)]).map (·.1)).length c7] :: recsA .u8 22 5 A7 c7 ((l ++ [(r, m)]).map (·.1)) :: stA 23 b2 [.pointer (some ⟨g, 0, none⟩)] :: objA (.loop _) lp :: M) := S.frontAt 3 rfl
    refine wl_stf orcL_ok fr rfl rfl rfl (j := 1) rfl rfl rfl rfl rfl S rfl ?_
    intro w8 S
    refine wpList_nil ?_
    have S : Sat w0 _ (stA 34 b3 [.slice A7 ((l ++ [(r, m)]).map (·.1)).length c7] :: recsA .u8 22 5 A7 c7 ((l ++ [(r, m)]).map (·.1)) :: stA 23 b2 [.pointer (some ⟨g, 0, none⟩)] :: logA g d (secs (l ++ [(r, m)])) :: objA (.loop _) lp :: M) := ((S.frontAt 3 rfl).frontAt 3 rfl).frontAt 3 rfl
    have S := S.shutZ
    have S : Sat w0 _ (objA (.loop _) lp :: zA b3 b2 g d (l ++ [(r, m)]) :: M) := S.frontAt 1 rfl
    refine ⟨_, _, run_endRound none (Sat.objAt S 0 rfl), rfl, ?_⟩
    exact (S.putObj _).frontAt 1 rfl
  · rintro e w5 ⟨rfl, v, S⟩
    refine ⟨⟨_, rfl⟩, Sat.objAt S 1 rfl, ?_⟩
    have S : Sat w0 _ (objA (.loop _) lp :: zA b3 b2 g d (parse (all.length + 1) all) :: stA 22 bx [v] :: ownA .u8 5 A c all :: diskA d D :: objA (.deferred (some [])) dd :: R) := S.frontAt 1 rfl
    have S := S.putLoop fun r => { r with state := .exhausted }
    refine blk_n ?_
    (repeat (with_reducible refine then_n ?_))
    have fr : FrD [{ target := .collected dd, args := #[] }] 83 { tmps := a.tmps, defers := { target := .collected dd, args := #[] } :: a.defers } _ := ⟨fr.size, by rw [fr.defers], fr.get⟩
    rw [← hfd] at S
    have S : Sat w0 _ (zA b3 b2 g d (found D) :: diskA d D :: ownA .u8 5 A c all :: objA (.deferred (some [])) dd :: R) := (((S.frontAt 5 rfl).frontAt 4 rfl).frontAt 5 rfl).frontAt 4 rfl |> fun h => (h.mask [true, true, true, true, false, false])
    obtain ⟨A6, c6, S⟩ := S.openZ
    skip; (repeat (with_reducible refine wp_seq ?_)); refine wp_region_lit ?_
    refine wl_make litB fr rfl rfl rfl rfl rfl rfl ⟨by decide, by decide⟩ S ?_
    intro w6 A7 c7 S a1 fr
    have h64 : List.replicate (Int.toNat 64) (0 : Int) = List.replicate 64 0 := rfl
    rw [h64] at S fr
    refine wl_run orcL_ok 1 rfl fr fun a fr => ?_
    refine wpList_nil ?_; (repeat (with_reducible refine then_n ?_))
    skip; (repeat (with_reducible refine wp_seq ?_)); refine wp_region_lit ?_
    refine wl_ldf orcL_ok (Sat.varAt S 3 rfl) fr rfl rfl rfl rfl rfl rfl rfl fun a fr => ?_
    refine wl_run orcL_ok 3 rfl fr fun a fr => ?_
    refine wl_ldf orcL_ok (Sat.stAt S 4 rfl (j := 1) rfl) fr rfl rfl rfl rfl rfl rfl rfl fun a fr => ?_
    refine wl_run orcL_ok 1 rfl fr fun a fr => ?_
    refine wpList_nil ?_; (repeat (with_reducible refine then_n ?_))
    have S : Sat w0 _ (diskA d D :: ownA .u8 5 A7 c7 (List.replicate 64 0) :: ownA .u8 5 A c all :: stA 34 b3 [.slice A6 (recsD D).length c6] :: recsA .u8 22 5 A6 c6 (recsD D) :: stA 23 b2 [.pointer (some ⟨g, 0, none⟩)] :: logA g d (atD D) :: objA (.deferred (some [])) dd :: R) := ((S.frontAt 6 rfl).frontAt 1 rfl).frontAt 6 rfl
    skip; (repeat (with_reducible refine wp_seq ?_))
    refine wp_block ?_
    refine cw_loop (fun q a w => ∃ (j : Nat) (D1 : Dk), j + q = i + 1 ∧ j ≤ i ∧ clr all (i - j) j D1 = clr all (i - atD D) (atD D) D ∧ D1.seen.length = i ∧ D1.waits.length ≤ 100000000 + j ∧
      FrD [{ target := .collected dd, args := #[] }] 83 a [(0, .pointer (some ⟨d, 0, none⟩)), (2, .pointer (some ⟨b2, 0, none⟩)), (3, .pointer (some ⟨b3, 0, none⟩)), (5, .slice A all.length c), (11, .slice A7 (List.replicate 64 (0 : Int)).length c7), (12, .int .i64 (j : Int))] ∧
      Sat w0 w (diskA d D1 :: ownA .u8 5 A7 c7 (List.replicate 64 0) :: ownA .u8 5 A c all :: stA 34 b3 [.slice A6 (recsD D).length c6] :: recsA .u8 22 5 A6 c6 (recsD D) :: stA 23 b2 [.pointer (some ⟨g, 0, none⟩)] :: logA g d (atD D) :: objA (.deferred (some [])) dd :: R)) (i + 1 - atD D)
      ⟨atD D, D, by omega, hatn, rfl, hn.symm, by omega, fr.sub ⟨rfl, rfl, rfl, rfl, rfl, rfl, trivial⟩, S⟩ ?_ ?_
    · rintro a w ⟨j, D1, h, h', -⟩
      omega
    clear fr S
    rintro q a w ⟨j, D1, hj, hji, hgo, hl1, hw1, fr, S⟩
    have hmc := (S.frontAt 2 rfl).own.2
    have hnc := (S.frontAt 1 rfl).own.2
    skip; (repeat (with_reducible refine wp_seq ?_)); refine wp_region_lit ?_
    refine wl_run orcL_ok 2 rfl fr fun a fr => ?_
    refine wl_call fr rfl rfl rfl rfl enSize (disk_size S) ?_
    rintro _ w ⟨rfl, hw⟩
    subst hw
    refine ⟨_, rfl, vok_small (by omega), fun a fr => ?_⟩
    rw [hl1] at fr
    refine wl_run orcL_ok 1 rfl fr fun a fr => ?_
    refine wpList_nil ?_; (repeat (with_reducible refine then_n ?_))
    by_cases hlt : j < i
    · have fr := fr.bool (d := 62) rfl (decide_eq_true (show (j : Int) < (i : Int) by omega))
      skip; (repeat (with_reducible refine wp_seq ?_))
      refine cw_t fr rfl ?_
      refine wp_skip ?_
      (with_reducible refine then_n ?_)
      skip; (repeat (with_reducible refine wp_seq ?_))
      refine wp_block ?_
      have hcl : clr all (i - j) j D1 = clr all (i - (j + 1)) (j + 1) (if (all.drop (j * 64)).take 64 = List.replicate 64 0 then D1 else D1.writeR j (List.replicate 64 0)) := by
        rw [show i - j = (i - (j + 1)) + 1 by omega, clr]
      skip; (repeat (with_reducible refine wp_seq ?_)); refine wp_region_lit ?_
      refine wl_run orcL_ok 6 rfl fr fun a fr => ?_
      have fr := fr.spell (d := 67) rfl (congrArg (Value.int .i64) (show IntKind.wrap .i64 ((j : Int) * 64) = ((j * 64 : Nat) : Int) by rw [show IntKind.wrap .i64 ((j : Int) * 64) = (j : Int) * 64 from IntWalk.i64_in _ ⟨by omega, by omega⟩]; omega))
      have fr := fr.spell (d := 70) rfl (congrArg (Value.int .i64) (show IntKind.wrap .i64 (IntKind.wrap .i64 ((j : Int) + 1) * 64) = (((j + 1) * 64 : Nat) : Int) by rw [show IntKind.wrap .i64 ((j : Int) + 1) = (j : Int) + 1 from IntWalk.i64_in _ ⟨by omega, by omega⟩, show IntKind.wrap .i64 (((j : Int) + 1) * 64) = ((j : Int) + 1) * 64 from IntWalk.i64_in _ ⟨by omega, by omega⟩]; omega))
      have hdl : ((all.drop (j * 64)).take 64).length = 64 := by rw [List.length_take, List.length_drop]; omega
      refine wl_val fr rfl rfl rfl (slice_run orcL_ok fr (vlo := some (.int .i64 ((j * 64 : Nat) : Int))) (vhi := some (.int .i64 (((j + 1) * 64 : Nat) : Int))) (vmx := none) rfl rfl (by exact congrArg some (fr.ev (o := .tmp 67) rfl).1) (by exact congrArg some (fr.ev (o := .tmp 70) rfl).1) rfl rfl (sl_mid _ 5 .i64 .i64 Try.underlying22 infoB A all.length c (j * 64) ((j + 1) * 64) _ _ rfl rfl (by omega) (by omega)) w) (vok_sl ⟨by omega, by omega⟩) fun a fr => ?_
      have fr := fr.spell (d := 71) rfl (show Value.slice (dropA A c (j * 64)) ((j + 1) * 64 - j * 64) (c - j * 64) = .slice (dropA A c (j * 64)) ((all.drop (j * 64)).take 64).length (c - j * 64) by rw [hdl]; congr 1; omega)
      refine wl_run orcL_ok 1 rfl fr fun a fr => ?_
      refine wl_call fr rfl rfl rfl rfl enEqual (equal_call (((Sat.ownAt S 2 rfl).drop hmc.1).take 64) (Sat.ownAt S 1 rfl) ⟨by omega, by omega⟩ hnc) ?_
      rintro _ w ⟨rfl, hw⟩
      subst hw
      refine ⟨_, rfl, rfl, fun a fr => ?_⟩
      refine wl_run orcL_ok 1 rfl fr fun a fr => ?_
      refine wpList_nil ?_; (repeat (with_reducible refine then_n ?_))
      by_cases heq : (all.drop (j * 64)).take 64 = List.replicate 64 0
      · have fr := fr.bool (d := 74) rfl (show (!decide ((all.drop (j * 64)).take 64 = List.replicate 64 0)) = false by rw [decide_eq_true heq]; rfl)
        rw [if_pos heq] at hcl
        skip; (repeat (with_reducible refine wp_seq ?_))
        refine cw_f fr rfl ?_
        refine wp_skip ?_
        (repeat (first | (with_reducible refine then_n ?_) | (with_reducible refine blk_n ?_) | (with_reducible refine ng_n ?_)))
        skip; (repeat (with_reducible refine wp_seq ?_)); refine wp_region_lit ?_
        refine wl_run orcL_ok 3 rfl fr fun a fr => ?_
        refine wpList_nil ?_; (repeat (with_reducible refine then_n ?_))
        have fr := fr.spell (d := 12) rfl (congrArg (Value.int .i64) (show IntKind.wrap .i64 ((j : Int) + 1) = ((j + 1 : Nat) : Int) by rw [show IntKind.wrap .i64 ((j : Int) + 1) = (j : Int) + 1 from IntWalk.i64_in _ ⟨by omega, by omega⟩]; omega))
        exact ⟨j + 1, D1, by omega, by omega, by rw [← hcl]; exact hgo, hl1, by omega, fr.sub ⟨rfl, rfl, rfl, rfl, rfl, rfl, trivial⟩, S⟩
      · have fr := fr.bool (d := 74) rfl (show (!decide ((all.drop (j * 64)).take 64 = List.replicate 64 0)) = true by rw [decide_eq_false heq]; rfl)
        rw [if_neg heq] at hcl
        have hww := writeR_waits D1 j (List.replicate 64 0)
        have hwl := writeR_len D1 j (List.replicate 64 0)
        skip; (repeat (with_reducible refine wp_seq ?_))
        refine cw_t fr rfl ?_
        skip; (repeat (with_reducible refine wp_seq ?_)); refine wp_region_lit ?_
        refine wl_run orcL_ok 3 rfl fr fun a fr => ?_
        refine wl_call fr rfl rfl rfl rfl enWrite (disk_write S _ (Sat.ownAt S 1 rfl) ⟨by omega, by rw [List.length_replicate]; decide⟩) ?_
        rintro _ w ⟨rfl, hv, S⟩
        refine ⟨_, rfl, hv, fun a fr => ?_⟩
        refine wpList_nil ?_; (repeat (with_reducible refine then_n ?_))
        (repeat (first | (with_reducible refine then_n ?_) | (with_reducible refine blk_n ?_) | (with_reducible refine ng_n ?_)))
        skip; (repeat (with_reducible refine wp_seq ?_)); refine wp_region_lit ?_
        refine wl_run orcL_ok 3 rfl fr fun a fr => ?_
        refine wpList_nil ?_; (repeat (with_reducible refine then_n ?_))
        have fr := fr.spell (d := 12) rfl (congrArg (Value.int .i64) (show IntKind.wrap .i64 ((j : Int) + 1) = ((j + 1 : Nat) : Int) by rw [show IntKind.wrap .i64 ((j : Int) + 1) = (j : Int) + 1 from IntWalk.i64_in _ ⟨by omega, by omega⟩]; omega))
        exact ⟨j + 1, D1.writeR j (List.replicate 64 0), by omega, by omega, by rw [← hcl]; exact hgo, by rw [hwl]; exact hl1, by omega, fr.sub ⟨rfl, rfl, rfl, rfl, rfl, rfl, trivial⟩, S⟩
    have fr := fr.bool (d := 62) rfl (decide_eq_false (show ¬ (j : Int) < (i : Int) by omega))
    obtain rfl : j = i := by omega
    have hfin : D1 = clr all (j - atD D) (atD D) D := by rw [← hgo, Nat.sub_self]; rfl
    skip; (repeat (with_reducible refine wp_seq ?_))
    refine cw_f fr rfl ?_
    refine wp_exit ?_
    skip; (repeat (first | (with_reducible refine then_e ?_) | (with_reducible refine ng_e ?_) | (with_reducible refine blk_e (by decide) ?_))); (with_reducible refine blk_y ?_); (repeat (with_reducible refine then_n ?_))
    have S : Sat w0 w (stA 23 b2 [.pointer (some ⟨g, 0, none⟩)] :: stA 34 b3 [.slice A6 (recsD D).length c6] :: diskA d D1 :: logA g d (atD D) :: recsA .u8 22 5 A6 c6 (recsD D) :: objA (.deferred (some [])) dd :: R) := by
      have S := S.mask [true, false, false]
      exact (((((S.frontAt 5 rfl).frontAt 3 rfl).frontAt 5 rfl).frontAt 3 rfl).frontAt 4 rfl).frontAt 5 rfl
    have hvr := (Sat.varAt S 1 rfl).2
    skip; (repeat (with_reducible refine wp_seq ?_))
    refine wp_region_sl [.one (0, true, some 79), .one (1, true, some 80), .one (2, true, some 81), .one (3, false, some 82), .one (4, false, none), .one (5, false, none), .one (6, true, some 4)]
                [.one ⟨true, some 79, (Go.Op.load 23 (Go.Operand.tmp 2)), 23, none⟩,
                .one ⟨true, some 80, (Go.Op.load 34 (Go.Operand.tmp 3)), 34, none⟩,
                .one ⟨true, some 81, (Go.Op.move (Go.Operand.tmp 0)), 24, none⟩,
                .one ⟨false, some 82, (Go.Op.call { callee := (Go.Callee.value (Go.Operand.func 27)), args := #[(Go.Operand.tmp 81)], argTypes := #[24] }), 30, none⟩,
                .one ⟨false, none, (Go.Op.store 23 (Go.Operand.tmp 2) (Go.Operand.tmp 79)), 0, none⟩,
                .one ⟨false, none, (Go.Op.store 34 (Go.Operand.tmp 3) (Go.Operand.tmp 80)), 0, none⟩,
                .one ⟨true, some 4, (Go.Op.assign (Go.Operand.tmp 82)), 30, none⟩]
                (fun w' => Sat w0 w' [stA 23 b2 [.pointer (some ⟨g, 0, none⟩)], stA 34 b3 [.slice A6 (recsD D).length c6]]) rfl (by kernel_rfl) (by kernel_rfl) ?_ ?_
    · exact S.drew.firsts [_, _]
    have S := S.drew
    refine sl_ldf orcL_ok (fun w' S => Sat.varAt S 0 rfl) fr rfl rfl rfl rfl rfl rfl rfl rfl (S.firsts [_, _]) fun a fr => ?_
    refine sl_ldf orcL_ok (fun w' S => Sat.varAt S 1 rfl) fr rfl rfl rfl rfl rfl rfl rfl rfl (S.firsts [_, _]) fun a fr => ?_
    refine sl_run orcL_ok 1 rfl fr fun a fr => ?_
    refine sl_call fr rfl rfl rfl rfl rfl enSync (disk_sync (S.frontAt 2 rfl)) ?_
    rintro _ w ⟨rfl, S⟩
    have S : Sat w0 w (stA 23 b2 [.pointer (some ⟨g, 0, none⟩)] :: stA 34 b3 [.slice A6 (recsD D).length c6] :: diskA d D1.sync :: logA g d (atD D) :: recsA .u8 22 5 A6 c6 (recsD D) :: objA (.deferred (some [])) dd :: R) := (S.frontAt 2 rfl).frontAt 2 rfl
    refine ⟨_, rfl, rfl, S.firsts [_, _], fun a fr => ?_⟩
    refine sl_stv orcL_ok fr rfl rfl rfl rfl rfl rfl rfl rfl rfl S ?_
    intro w6 S
    refine ⟨S.firsts [_, _], ?_⟩
    have S : Sat w0 w6 (stA 34 b3 [.slice A6 (recsD D).length c6] :: stA 23 b2 [.pointer (some ⟨g, 0, none⟩)] :: diskA d D1.sync :: logA g d (atD D) :: recsA .u8 22 5 A6 c6 (recsD D) :: objA (.deferred (some [])) dd :: R) := S.frontAt 1 rfl
    refine sl_stv orcL_ok fr rfl rfl rfl rfl rfl rfl rfl rfl rfl S ?_
    intro w7 S
    have S : Sat w0 w7 (stA 23 b2 [.pointer (some ⟨g, 0, none⟩)] :: stA 34 b3 [.slice A6 (recsD D).length c6] :: diskA d D1.sync :: logA g d (atD D) :: recsA .u8 22 5 A6 c6 (recsD D) :: objA (.deferred (some [])) dd :: R) := S.frontAt 1 rfl
    refine ⟨S.firsts [_, _], ?_⟩
    refine sl_run orcL_ok 1 rfl fr fun a fr => ?_
    refine sl_end ?_
    have hod : D1.sync = openD D := by rw [hfin, hall, hn]; rfl
    rw [hod] at S
    refine wp_ret ?_
    show LeavesInM Fence.wide 1 _ _ a.tmps _ a.defers .returning w7
    rw [fr.defers]
    refine ⟨by simp, .inl ⟨_, _, rfl, run_takeDeferred (Sat.objAt S 5 rfl), ?_⟩⟩
    have S : Sat w0 _ (objA (.deferred (some [])) dd :: stA 23 b2 [.pointer (some ⟨g, 0, none⟩)] :: stA 34 b3 [.slice A6 (recsD D).length c6] :: diskA d (openD D) :: logA g d (atD D) :: recsA .u8 22 5 A6 c6 (recsD D) :: R) := S.frontAt 5 rfl
    have S := S.putObj (.deferred none)
    refine ⟨_, results_cct orcL_ok rfl fr rfl rfl rfl rfl rfl rfl rfl (Sat.varAt S 1 rfl).1 (Sat.varAt S 2 rfl).1, g, A6, c6, rfl, ?_, ?_⟩
    · have h5 : vokC (.slice A6 (recsD D).length c6) = true := hvr
      show [_, _, _].all vokC = true
      rw [List.all_cons, List.all_cons, h5]; rfl
    · have S := S.mask [false, false, false]
      exact (S.frontAt 2 rfl).frontAt 2 rfl
end
end Go.Proofs.Ytmpkoacpakepfaa.Sx
