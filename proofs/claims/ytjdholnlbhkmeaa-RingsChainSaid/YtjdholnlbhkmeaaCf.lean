/- slices.ContainsFunc over those that have not been told, walked. -/
import Derived.Test.YtjdholnlbhkmeaaProg
import Derived.Test.YtjdholnlbhkmeaaSl
import Derived.Test.YtjdholnlbhkmeaaRc
namespace Go.Proofs.Ytjdholnlbhkmeaa.Sx
open Go Go.RowKit Base Own

/-- The variable that holds the map of those that were told. -/
def Told (w : World) (bt g : Nat) (tm : List (Int × Int)) : Prop := (w.cell? (⟨bt, 0, none⟩ : Addr) = some (.map (some g))) ∧ ∃ es clock, w.heap[g]? = some (.map es clock) ∧ Tells .u32 (Value.int .i64) es clock tm
theorem enOrd1 : Enters Try.prog 27 := fun _ _ => by kernel_rfl
theorem enIdxF : Enters Try.prog 33 := fun _ _ => by kernel_rfl
theorem told_f {w : World} {bt g : Nat} {tm : List (Int × Int)} (y : Int) (hy : (Lit.int .u32 y).wf = true) (H : Told w bt g tm) : Calls Try.prog 27 #[.int .u32 y, .pointer (some ⟨bt, 0, none⟩)] w fun e w' => e = .returned (.bool ((lkM tm y).getD 0 == 0)) ∧ w' = w := by
  refine calls_start (N := 8) [.int .u32 y, .pointer (some ⟨bt, 0, none⟩)] Try.func27 rfl rfl rfl (vok_c hy (vok_c rfl rfl)) fun a fr => ?_
  skip; (repeat (with_reducible refine wp_seq ?_)); refine wp_region_lit ?_
  refine wl_run orcW_ok 1 rfl fr fun a fr => ?_
  refine wpList_nil ?_; (repeat (with_reducible refine then_n ?_))
  skip; (repeat (with_reducible refine wp_seq ?_)); refine wp_region_lit ?_
  refine wl_ldf orcW_ok ⟨H.1, rfl⟩ fr rfl rfl rfl rfl rfl rfl rfl fun a fr => ?_
  refine wl_run orcW_ok 1 rfl fr fun a fr => ?_
  refine wl_lk (f := Value.int .i64) orcW_ok (0 : Int) zeroI rfl H.2 fr rfl rfl rfl rfl rfl rfl rfl rfl fun a fr => ?_
  refine wl_run orcW_ok 2 rfl fr fun a fr => ?_
  refine wpList_nil ?_; (repeat (with_reducible refine then_n ?_))
  refine wp_ret ?_
  refine ret1 fr rfl rfl ?_
  exact ⟨rfl, rfl⟩
set_option maxRecDepth 100000 in
theorem indexf {w : World} {bt g : Nat} {tm : List (Int × Int)} {A : Option Addr} {c : Nat} {l : List Int} (hr : Rk .u32 w A l) (m0 : l.length ≤ c ∧ c ≤ maxLen) (hb : l.length ≤ 1000000) (H : Told w bt g tm) : Calls Try.prog 33 #[.slice A l.length c, .func (.func 27) #[] #[.pointer (some ⟨bt, 0, none⟩)]] w fun e w' => ∃ r : Int, e = .returned (.int .i64 r) ∧ vok (.int .i64 r) = true ∧ (decide (r ≥ 0) = l.any fun y => (lkM tm y).getD 0 == 0) ∧ w' = w := by
  refine calls_start (N := 19) [.slice A l.length c, .func (.func 27) #[] #[.pointer (some ⟨bt, 0, none⟩)]] Try.func33 rfl rfl rfl (vok_c (vok_sl m0) (vok_c rfl rfl)) fun a fr => ?_
  skip; (repeat (with_reducible refine wp_seq ?_)); refine wp_region_lit ?_
  refine wl_run orcW_ok 1 rfl fr fun a fr => ?_
  refine wpList_nil ?_; (repeat (with_reducible refine then_n ?_))
  skip; (repeat (with_reducible refine wp_seq ?_)); refine wp_region_lit ?_
  refine wl_run orcW_ok 3 rfl fr fun a fr => ?_
  refine wpList_nil ?_; (repeat (with_reducible refine then_n ?_))
  refine wp_block ?_
  refine cw_loop (fun q a w2 => ∃ i : Nat, i + q = l.length + 1 ∧ i ≤ l.length ∧ w2 = w ∧ (∀ y ∈ l.take i, ((lkM tm y).getD 0 == 0) = false) ∧ Fr 19 a [(0, .slice A l.length c), (1, .func (.func 27) #[] #[.pointer (some ⟨bt, 0, none⟩)]), (7, .int .i64 (l.length : Int)), (8, .int .i64 (i : Int))]) (l.length + 1) ⟨0, by omega, by omega, rfl, by simp, fr.sub ⟨rfl, rfl, rfl, rfl, trivial⟩⟩ ?_ ?_
  · rintro a w2 ⟨i, h, h', -⟩
    omega
  rintro q a w2 ⟨i, hi, hi', hw2, hno, fr⟩
  subst w2
  skip; (repeat (with_reducible refine wp_seq ?_)); refine wp_region_lit ?_
  refine wl_run orcW_ok 1 rfl fr fun a fr => ?_
  refine wpList_nil ?_; (repeat (with_reducible refine then_n ?_))
  by_cases hlt : i < l.length
  rotate_left
  · obtain rfl : i = l.length := by omega
    have fr := fr.bool (d := 9) rfl (decide_eq_false (by omega))
    skip; (repeat (with_reducible refine wp_seq ?_))
    refine cw_f fr rfl ?_
    refine wp_exit ?_
    skip; (repeat (first | (with_reducible refine then_e ?_) | (with_reducible refine ng_e ?_) | (with_reducible refine blk_e (by decide) ?_))); (with_reducible refine blk_y ?_); (repeat (with_reducible refine then_n ?_))
    skip; (repeat (with_reducible refine wp_seq ?_)); refine wp_region_lit ?_
    refine wl_run orcW_ok 1 rfl fr fun a fr => ?_
    refine wpList_nil ?_; (repeat (with_reducible refine then_n ?_))
    refine wp_ret ?_
    refine ret1 fr rfl rfl ?_
    refine ⟨-1, rfl, rfl, ?_, rfl⟩
    rw [List.take_length] at hno
    have : (l.any fun y => (lkM tm y).getD 0 == 0) = false := List.any_eq_false.2 (fun y hy => by rw [hno y hy]; decide)
    rw [this]; rfl
  have fr := fr.bool (d := 9) rfl (decide_eq_true (show (i : Int) < (l.length : Int) by omega))
  skip; (repeat (with_reducible refine wp_seq ?_))
  refine cw_t fr rfl ?_
  refine wp_skip ?_
  (with_reducible refine then_n ?_)
  obtain ⟨y, hy⟩ : ∃ y, l.getD i 0 = y := ⟨_, rfl⟩
  have hge : l[i] = y := by rw [← hy, List.getD_eq_getElem?_getD, List.getElem?_eq_getElem hlt]; rfl
  have hye : l.take (i + 1) = l.take i ++ [y] := by rw [List.take_succ_eq_append_getElem hlt, hge]
  have hym : y ∈ l := by rw [← hge]; exact List.getElem_mem hlt
  skip; (repeat (with_reducible refine wp_seq ?_))
  refine wp_block ?_
  skip; (repeat (with_reducible refine wp_seq ?_)); refine wp_region_lit ?_
  refine wl_run orcW_ok 2 rfl fr fun a fr => ?_
  refine wpList_nil ?_; (repeat (with_reducible refine then_n ?_))
  skip; (repeat (with_reducible refine wp_seq ?_)); refine wp_region_lit ?_
  refine wl_run orcW_ok 3 rfl fr fun a fr => ?_
  refine wl_ld orcW_ok hr fr rfl rfl rfl rfl rfl rfl rfl rfl rfl rfl rfl rfl rfl rfl rfl rfl ⟨by omega, by omega⟩ fun a fr => ?_
  rw [Int.toNat_natCast, hy] at fr
  refine wl_callc fr rfl rfl rfl rfl rfl rfl rfl enOrd1 (told_f y (fr.int (d := 15) rfl) H) ?_
  rintro _ w3 ⟨rfl, hw3⟩
  subst w3
  refine ⟨_, rfl, rfl, fun a fr => ?_⟩
  refine wpList_nil ?_; (repeat (with_reducible refine then_n ?_))
  cases ht : ((lkM tm y).getD 0 == 0) with
  | true =>
    have fr := fr.bool (d := 16) rfl ht
    skip; (repeat (with_reducible refine wp_seq ?_))
    refine cw_t fr rfl ?_
    skip; (repeat (with_reducible refine wp_seq ?_)); refine wp_region_lit ?_
    refine wl_run orcW_ok 2 rfl fr fun a fr => ?_
    refine wpList_nil ?_; (repeat (with_reducible refine then_n ?_))
    refine wp_ret ?_
    skip; (repeat (first | (with_reducible refine then_r ?_) | (with_reducible refine blk_r ?_) | (with_reducible refine ng_r ?_)))
    refine ret1 fr rfl rfl ?_
    refine ⟨i, rfl, fr.vok (d := 4) rfl, ?_, rfl⟩
    have : (l.any fun y => (lkM tm y).getD 0 == 0) = true := List.any_eq_true.2 ⟨y, hym, ht⟩
    rw [this, decide_eq_true]; omega
  | false =>
    have fr := fr.bool (d := 16) rfl ht
    skip; (repeat (with_reducible refine wp_seq ?_))
    refine cw_f fr rfl ?_
    refine wp_skip ?_
    refine blk_n ?_
    (repeat (with_reducible refine then_n ?_))
    skip; (repeat (with_reducible refine wp_seq ?_)); refine wp_region_lit ?_
    refine wl_run orcW_ok 2 rfl fr fun a fr => ?_
    refine wpList_nil ?_; (repeat (with_reducible refine then_n ?_))
    have fr := fr.spell (d := 8) rfl (congrArg (Value.int .i64) (Pl.w64s (n := i) (by omega)))
    refine ⟨i + 1, by omega, by omega, rfl, fun z hz => ?_, fr.sub ⟨rfl, rfl, rfl, rfl, trivial⟩⟩
    rw [hye] at hz
    rcases List.mem_append.1 hz with hz | hz
    · exact hno z hz
    · rw [List.mem_singleton] at hz; rw [hz]; exact ht
theorem containsf {w : World} {bt g : Nat} {tm : List (Int × Int)} {A : Option Addr} {c : Nat} {l : List Int} (hr : Rk .u32 w A l) (m0 : l.length ≤ c ∧ c ≤ maxLen) (hb : l.length ≤ 1000000) (H : Told w bt g tm) : Calls Try.prog 26 #[.slice A l.length c, .func (.func 27) #[] #[.pointer (some ⟨bt, 0, none⟩)]] w fun e w' => e = .returned (.bool (l.any fun y => (lkM tm y).getD 0 == 0)) ∧ w' = w := by
  refine calls_start (N := 9) [.slice A l.length c, .func (.func 27) #[] #[.pointer (some ⟨bt, 0, none⟩)]] Try.func26 rfl rfl rfl (vok_c (vok_sl m0) (vok_c rfl rfl)) fun a fr => ?_
  skip; (repeat (with_reducible refine wp_seq ?_)); refine wp_region_lit ?_
  refine wl_run orcW_ok 1 rfl fr fun a fr => ?_
  refine wpList_nil ?_; (repeat (with_reducible refine then_n ?_))
  skip; (repeat (with_reducible refine wp_seq ?_)); refine wp_region_lit ?_
  refine wl_run orcW_ok 2 rfl fr fun a fr => ?_
  refine wl_call fr rfl rfl rfl rfl enIdxF (indexf hr m0 hb H) ?_
  rintro _ w2 ⟨r, rfl, hv, hd, hw⟩
  subst w2
  refine ⟨_, rfl, hv, fun a fr => ?_⟩
  refine wl_run orcW_ok 2 rfl fr fun a fr => ?_
  refine wpList_nil ?_; (repeat (with_reducible refine then_n ?_))
  refine wp_ret ?_
  refine ret1 fr rfl rfl ?_
  exact ⟨by rw [hd], rfl⟩
end Go.Proofs.Ytjdholnlbhkmeaa.Sx
