/- RecordsSize: its contract. -/
import Derived.Test.YtmpkoacpakepfaaRg
import Derived.Test.YtmpkoacpakepfaaRs
namespace Go.Proofs.Ytmpkoacpakepfaa.Sx
open Go Go.RowKit Base Own Disk

def rsz : List (List Int) → Int → Int
  | [], n => n
  | x :: r, n => if n ≤ 1048576 then rsz r (n + x.length) else n
def recSize (l : List (List Int)) : Int := rsz l l.length
section
variable {w w0 : World} {R : List Asn}
theorem bsize_call {A : Option Addr} {n c : Nat} (hm : n ≤ c ∧ c ≤ maxLen) : Calls Try.prog 31 #[.slice A n c] w fun e w' => e = .returned (.int .i64 n) ∧ w' = w := by
  refine calls_start (N := 5) [.slice A n c] Try.func31 rfl rfl rfl (vok_c (vok_sl hm) rfl) fun a fr => ?_
  skip; (repeat (with_reducible refine wp_seq ?_)); refine wp_region_lit ?_
  refine wl_run orcL_ok 1 rfl fr fun a fr => ?_
  refine wpList_nil ?_; (repeat (with_reducible refine then_n ?_))
  skip; (repeat (with_reducible refine wp_seq ?_)); refine wp_region_lit ?_
  refine wl_run orcL_ok 3 rfl fr fun a fr => ?_
  refine wpList_nil ?_; (repeat (with_reducible refine then_n ?_))
  refine wp_ret ?_
  refine ret1 fr rfl rfl ?_
  exact ⟨rfl, rfl⟩
theorem vok_i {x : Int} (h : 0 ≤ x ∧ x ≤ 9223372036854775807) : vok (.int .i64 x) = true := by
  have h1 : (Lit.int .i64 x).wf = true := by
    rw [wf_int]
    have h2 : IntKind.i64.min = -9223372036854775808 := by decide
    have h3 : IntKind.i64.max = 9223372036854775807 := by decide
    omega
  exact h1
set_option maxRecDepth 100000 in
set_option maxHeartbeats 1000000 in
theorem recsize_key {A : Option Addr} {c : Nat} {ls : List (List Int)} (ra : RR .u8 w A ls) (ma : ls.length ≤ c ∧ c ≤ maxLen) (sm : Rdr.smL (Rdr.smL (Rdr.smT (α := Int))) ls) :
    Calls Try.prog 16 #[.slice A ls.length c] w fun e w' => e = .returned (.int .i64 (recSize ls)) ∧ (0 ≤ recSize ls ∧ recSize ls ≤ 1000000000000000) ∧ w = w' := by
  have hs0 := sm.1
  refine calls_start (N := 25) [.slice A ls.length c] Try.func16 rfl rfl rfl (vok_c (vok_sl ma) rfl) fun a fr => ?_
  skip; (repeat (with_reducible refine wp_seq ?_)); refine wp_region_lit ?_
  refine wl_run orcL_ok 1 rfl fr fun a fr => ?_
  refine wpList_nil ?_; (repeat (with_reducible refine then_n ?_))
  skip; (repeat (with_reducible refine wp_seq ?_)); refine wp_region_lit ?_
  refine wl_run orcL_ok 3 rfl fr fun a fr => ?_
  refine wpList_nil ?_; (repeat (with_reducible refine then_n ?_))
  skip; (repeat (with_reducible refine wp_seq ?_)); refine wp_region_lit ?_
  refine wl_run orcL_ok 1 rfl fr fun a fr => ?_
  refine wpList_nil ?_; (repeat (with_reducible refine then_n ?_))
  skip; (repeat (with_reducible refine wp_seq ?_))
  refine wp_block ?_
  refine cw_loop (fun q a w1 => ∃ (i : Nat) (n : Int), i + q = ls.length + 1 ∧ i ≤ ls.length ∧ rsz (ls.drop i) n = recSize ls ∧ (0 ≤ n ∧ n ≤ 1000000000000000) ∧ Fr 25 a [(0, .slice A ls.length c), (3, .int .i64 n), (4, .int .i64 (i : Int))] ∧ w = w1) (ls.length + 1)
    ⟨0, ls.length, by omega, by omega, rfl, ⟨by omega, by omega⟩, fr.sub ⟨rfl, rfl, rfl, trivial⟩, rfl⟩ ?_ ?_
  · rintro a w1 ⟨i, n, h, h', -⟩
    omega
  clear fr
  rintro q a w1 ⟨i, n, hi, hi', hgo, hn, fr, hw⟩
  subst hw
  skip; (repeat (with_reducible refine wp_seq ?_)); refine wp_region_lit ?_
  refine wl_run orcL_ok 5 rfl fr fun a fr => ?_
  by_cases hlt : i < ls.length
  rotate_left
  · have fr := fr.bool (d := 11) rfl (decide_eq_false (show ¬ (i : Int) < (ls.length : Int) by omega))
    refine wl_run orcL_ok 3 rfl fr fun a fr => ?_
    refine wpList_nil ?_; (repeat (with_reducible refine then_n ?_))
    skip; (repeat (with_reducible refine wp_seq ?_))
    refine cw_f fr rfl ?_
    refine wp_exit ?_
    skip; (repeat (first | (with_reducible refine then_e ?_) | (with_reducible refine ng_e ?_) | (with_reducible refine blk_e (by decide) ?_))); (with_reducible refine blk_y ?_); (repeat (with_reducible refine then_n ?_))
    skip; (repeat (with_reducible refine wp_seq ?_)); refine wp_region_lit ?_
    refine wl_run orcL_ok 2 rfl fr fun a fr => ?_
    refine wpList_nil ?_; (repeat (with_reducible refine then_n ?_))
    refine wp_ret ?_
    skip; (repeat (first | (with_reducible refine then_r ?_) | (with_reducible refine blk_r ?_) | (with_reducible refine ng_r ?_)))
    refine ret1 fr rfl rfl ?_
    rw [List.drop_eq_nil_of_le (by omega)] at hgo
    rw [← hgo]
    exact ⟨rfl, hn, rfl⟩
  have hdc : ls.drop i = ls[i] :: ls.drop (i + 1) := List.drop_eq_getElem_cons hlt
  have fr := fr.bool (d := 11) rfl (decide_eq_true (show (i : Int) < (ls.length : Int) by omega))
  refine wl_run orcL_ok 3 rfl fr fun a fr => ?_
  refine wpList_nil ?_; (repeat (with_reducible refine then_n ?_))
  by_cases hle : n ≤ 1048576
  rotate_left
  · have fr := fr.bool (d := 14) rfl (decide_eq_false hle)
    skip; (repeat (with_reducible refine wp_seq ?_))
    refine cw_f fr rfl ?_
    refine wp_exit ?_
    skip; (repeat (first | (with_reducible refine then_e ?_) | (with_reducible refine ng_e ?_) | (with_reducible refine blk_e (by decide) ?_))); (with_reducible refine blk_y ?_); (repeat (with_reducible refine then_n ?_))
    skip; (repeat (with_reducible refine wp_seq ?_)); refine wp_region_lit ?_
    refine wl_run orcL_ok 2 rfl fr fun a fr => ?_
    refine wpList_nil ?_; (repeat (with_reducible refine then_n ?_))
    refine wp_ret ?_
    skip; (repeat (first | (with_reducible refine then_r ?_) | (with_reducible refine blk_r ?_) | (with_reducible refine ng_r ?_)))
    refine ret1 fr rfl rfl ?_
    rw [hdc, rsz, if_neg hle] at hgo
    rw [← hgo]
    exact ⟨rfl, hn, rfl⟩
  have fr := fr.bool (d := 14) rfl (decide_eq_true hle)
  rw [hdc, rsz, if_pos hle] at hgo
  skip; (repeat (with_reducible refine wp_seq ?_))
  refine cw_t fr rfl ?_
  refine wp_skip ?_
  (with_reducible refine then_n ?_)
  skip; (repeat (with_reducible refine wp_seq ?_))
  refine wp_block ?_
  have hsl := (sm.2 _ (List.getElem_mem hlt)).1
  obtain ⟨A1, c1, rk1, m1, hc1⟩ := ra.get (i := (i : Int)) ⟨by omega, by omega⟩
  have g1 : ls.getD i [] = ls[i] := by rw [List.getD_eq_getElem?_getD, List.getElem?_eq_getElem hlt]; rfl
  rw [Int.toNat_natCast, g1] at m1
  rw [Int.toNat_natCast, g1] at hc1
  skip; (repeat (with_reducible refine wp_seq ?_)); refine wp_region_lit ?_
  refine wl_run orcL_ok 3 rfl fr fun a fr => ?_
  refine wl_ldc orcL_ok (i := (i : Int)) (v := .slice A1 (ls[i]).length c1) hc1 (vok_sl m1) fr rfl rfl rfl rfl rfl rfl rfl rfl rfl rfl rfl rfl rfl rfl rfl ⟨by omega, by omega⟩ fun a fr => ?_
  refine wl_call fr rfl rfl rfl rfl enBs (bsize_call m1) ?_
  rintro _ w2 ⟨rfl, hw⟩
  subst hw
  refine ⟨_, rfl, vok_i ⟨by omega, by omega⟩, fun a fr => ?_⟩
  refine wl_run orcL_ok 2 rfl fr fun a fr => ?_
  refine wpList_nil ?_; (repeat (with_reducible refine then_n ?_))
  (repeat (first | (with_reducible refine then_n ?_) | (with_reducible refine blk_n ?_) | (with_reducible refine ng_n ?_)))
  skip; (repeat (with_reducible refine wp_seq ?_)); refine wp_region_lit ?_
  refine wl_run orcL_ok 3 rfl fr fun a fr => ?_
  refine wpList_nil ?_; (repeat (with_reducible refine then_n ?_))
  have fr := fr.spell (d := 4) rfl (congrArg (Value.int .i64) (show IntKind.wrap .i64 ((i : Int) + 1) = ((i + 1 : Nat) : Int) by rw [show IntKind.wrap .i64 ((i : Int) + 1) = (i : Int) + 1 from IntWalk.i64_in _ ⟨by omega, by omega⟩]; omega))
  have fr := fr.spell (d := 3) rfl (congrArg (Value.int .i64) (show IntKind.wrap .i64 (n + ((ls[i]).length : Int)) = n + ((ls[i]).length : Int) from IntWalk.i64_in _ ⟨by omega, by omega⟩))
  exact ⟨i + 1, n + (ls[i]).length, by omega, by omega, hgo, ⟨by omega, by omega⟩, fr.sub ⟨rfl, rfl, rfl, trivial⟩, rfl⟩
theorem recsize_call {A : Option Addr} {c : Nat} {ls : List (List Int)} (ra : RR .u8 w A ls) (ma : ls.length ≤ c ∧ c ≤ maxLen) (sm : Rdr.smL (Rdr.smL (Rdr.smT (α := Int))) ls) :
    Calls Try.prog 16 #[.slice A ls.length c] w fun e w' => e = .returned (.int .i64 (recSize ls)) ∧ vok (.int .i64 (recSize ls)) = true ∧ w = w' :=
  (recsize_key ra ma sm).mono fun e w' ⟨h1, h2, h3⟩ => ⟨h1, vok_i ⟨h2.1, by omega⟩, h3⟩
end
end Go.Proofs.Ytmpkoacpakepfaa.Sx
