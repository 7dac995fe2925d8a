/- Clocks: what New and those do. -/
import Derived.Test.YtlhdofkdjlpheaaProg
import Derived.Test.YtlhdofkdjlpheaaIt
import Derived.Test.YtlhdofkdjlpheaaSrt
namespace Go.Proofs.Ytlhdofkdjlpheaa.Sx
open Go Go.RowKit Base Own QSortuint32uint32

/-- Those whose tick it is, rising. -/
def Clk.due (now : Int) (m : List (Int × Int)) : List Int := ((m.filter fun p => IntKind.wrap .i64 (p.2 - now) == 0).map (·.1)).mergeSort fun x y => decide (x ≤ y)
theorem orc0 : (⟨[], []⟩ : Orc).Ok Try.prog := ⟨trivial, trivial⟩
theorem clk_new {w0 w : World} {R : List Asn} (S : Sat w0 w R) : Calls Try.prog 15 #[] w fun e w' => ∃ b g, e = .returned (.pointer (some ⟨b, 0, none⟩)) ∧
    Sat w0 w' (stA 26 b [.int .i64 0, .map (some g)] :: mapA .u32 (Value.int .i64) g [] :: R) := by
  refine calls_start (N := 4) [] Try.func15 rfl rfl rfl rfl fun a fr => ?_
  refine wp_seq ?_
  refine wp_region_lit ?_
  refine wl_run orc0 1 rfl fr fun a fr => ?_
  refine wpList_nil ?_
  refine then_n ?_
  refine wp_seq ?_
  refine wp_region_lit ?_
  refine wl_mkmap .u32 (Value.int .i64) fr rfl rfl rfl rfl S ?_
  intro w g S a fr
  refine wl_build (cs := [.int .i64 0, .map (some g)]) (L2 := [(1, .map (some g))]) fr rfl rfl rfl rfl (by simpa using (fr.ev (o := .tmp 1) rfl).1) (by kernel_rfl) rfl fun a fr => ?_
  refine wl_boxs fr rfl rfl rfl rfl rfl rfl S ?_
  intro w b S a fr
  refine wl_run orc0 1 rfl fr fun a fr => ?_
  refine wpList_nil ?_
  refine then_n ?_
  refine wp_ret ?_
  refine ret1 fr rfl rfl ?_
  exact ⟨b, g, rfl, S⟩
def orcC : Orc := ⟨[(3, .int .i64), (22, .int .u32), (24, .map 22 3), (26, .struct #[Go.Field.mk "now" 3 0 false "" "concordat/clocks" 0, Go.Field.mk "when" 24 1 false "" "concordat/clocks" 8]), (33, .slice 22)],
  [(3, 1), (22, 1), (24, 1)]⟩
theorem orcC_ok : orcC.Ok Try.prog := ⟨⟨Try.underlying3, Try.underlying22, Try.underlying24, Try.underlying26, Try.underlying33, trivial⟩, ⟨by kernel_rfl, by kernel_rfl, by kernel_rfl, trivial⟩⟩
theorem clk_in1 : Enters Try.prog 19 := fun _ _ => by kernel_rfl
theorem clk_in2 : Enters Try.prog 20 := fun _ _ => by kernel_rfl
theorem clk_lit : RowTy Try.prog 33 22 .u32 := ⟨Try.underlying33, 4, by decide, by kernel_rfl⟩
theorem clk_f {w0 w : World} {R : List Asn} (x : Int) (hx : (Lit.int .i64 x).wf = true) (S : Sat w0 w R) : Calls Try.prog 19 #[.int .i64 x] w fun e w' => e = .returned (.bool (x == 0)) ∧ Sat w0 w' R := by
  refine calls_start (N := 5) [.int .i64 x] Try.func19 rfl rfl rfl (vok_c hx rfl) fun a fr => ?_
  refine wp_seq ?_
  refine wp_region_lit ?_
  refine wl_run orc0 1 rfl fr fun a fr => ?_
  refine wpList_nil ?_
  refine then_n ?_
  refine wp_seq ?_
  refine wp_region_lit ?_
  refine wl_run orc0 3 rfl fr fun a fr => ?_
  refine wpList_nil ?_
  refine then_n ?_
  refine wp_ret ?_
  refine ret1 fr rfl rfl ?_
  exact ⟨rfl, S⟩
def clkH (now : Int) (p : Int × Int) : Bool := IntKind.wrap .i64 (p.2 - now) == 0
def clkC (now : Int) (q : List (Int × Int)) : List Int := (q.filter (clkH now)).map (·.1)
theorem due_of {now : Int} {m : List (Int × Int)} {l : List Int} (h : l.Perm (clkC now m)) : (l.mergeSort fun x y => decide (x ≤ y)) = Clk.due now m := by
  refine List.Perm.eq_of_pairwise (le := fun x y => x ≤ y) (fun a b _ _ h1 h2 => Int.le_antisymm h1 h2) ?_ ?_ ((List.mergeSort_perm _ _).trans (h.trans (List.mergeSort_perm _ _).symm))
  all_goals
    have := List.pairwise_mergeSort (le := fun (x y : Int) => decide (x ≤ y)) (fun a b c h1 h2 => by simp only [decide_eq_true_eq] at *; omega) (fun a b => by simp only [Bool.or_eq_true, decide_eq_true_eq]; omega)
    first
      | simpa using this l
      | (show List.Pairwise _ ((clkC now m).mergeSort fun x y => decide (x ≤ y)); simpa using this (clkC now m))
set_option maxRecDepth 100000 in
theorem clk_those {w0 w : World} {R : List Asn} {b g : Nat} {now : Int} {m : List (Int × Int)} (S : Sat w0 w (stA 26 b [.int .i64 now, .map (some g)] :: mapA .u32 (Value.int .i64) g m :: R)) (hc : m.length ≤ 1000) :
    Calls Try.prog 18 #[.pointer (some ⟨b, 0, none⟩), .func (.func 19) #[] #[]] w fun e w' => ∃ A c, e = .returned (.slice A (Clk.due now m).length c) ∧ vok (.slice A (Clk.due now m).length c) = true ∧
      Sat w0 w' (ownA .u32 22 A c (Clk.due now m) :: stA 26 b [.int .i64 now, .map (some g)] :: mapA .u32 (Value.int .i64) g m :: R) := by
  refine calls_start (N := 32) [.pointer (some ⟨b, 0, none⟩), .func (.func 19) #[] #[]] Try.func18 rfl rfl rfl rfl fun a fr => ?_
  refine wp_seq ?_
  refine wp_region_lit ?_
  refine wl_run orcC_ok 1 rfl fr fun a fr => ?_
  refine wpList_nil ?_
  refine then_n ?_
  refine wp_seq ?_
  refine wp_seq ?_
  refine wp_region_lit ?_
  refine wl_run orcC_ok 3 rfl fr fun a fr => ?_
  refine wl_ldf orcC_ok (Sat.stAt S 0 rfl (j := 1) rfl) fr rfl rfl rfl rfl rfl rfl rfl fun a fr => ?_
  have S : Sat w0 _ (mapA .u32 (Value.int .i64) g m :: stA 26 b [.int .i64 now, .map (some g)] :: R) := S.frontAt 1 rfl
  refine wl_range orcC_ok fr rfl rfl rfl rfl rfl rfl S ?_
  intro w r S a fr
  refine wpList_nil ?_
  refine then_n ?_
  have S := S.nilRow .u32 22
  refine wp_block ?_
  refine cw_loop (fun q a w => ∃ A c l left cur, left.length + 1 = q ∧ (l ++ clkC now left).Perm (clkC now m) ∧ Fr 32 a [(0, .pointer (some ⟨b, 0, none⟩)), (1, .func (.func 19) #[] #[]), (4, .slice A (List.length l) c), (11, .pointer (some ⟨r, 0, none⟩))] ∧
      Sat w0 w (ownA .u32 22 A c l :: iterA .u32 (Value.int .i64) g r m left cur :: stA 26 b [.int .i64 now, .map (some g)] :: R)) (m.length + 1) ⟨none, 0, [], m, none, rfl, List.Perm.refl _, fr.sub ⟨rfl, rfl, rfl, rfl, trivial⟩, S⟩ ?_ ?_
  · rintro a w ⟨A, c, l, left, cur, h, -⟩
    omega
  · rintro q a w ⟨A, c, l, left, cur, hq, hp, fr, S⟩
    refine wp_seq ?_
    refine wp_region_lit ?_
    have S : Sat w0 _ (iterA .u32 (Value.int .i64) g r m left cur :: ownA .u32 22 A c l :: stA 26 b [.int .i64 now, .map (some g)] :: R) := S.frontAt 1 rfl
    refine wl_next (fun _ => rfl) fr rfl rfl rfl rfl rfl S ?_ ?_
    · intro hl a fr
      subst hl
      refine wl_run orcC_ok 1 rfl fr fun a fr => ?_
      refine wpList_nil ?_
      refine then_n ?_
      refine wp_seq ?_
      refine cw_f fr rfl ?_
      refine wp_exit ?_
      refine then_e ?_
      refine then_e ?_
      refine blk_y ?_
      refine then_n ?_
      have S := S.iterEnd
      have S : Sat w0 _ (ownA .u32 22 A c l :: mapA .u32 (Value.int .i64) g m :: stA 26 b [.int .i64 now, .map (some g)] :: R) := S.frontAt 1 rfl
      have hl : l.Perm (clkC now m) := by simpa [clkC] using hp
      have hlen : l.length ≤ 1000 := by
        rw [hl.length_eq, clkC, List.length_map]
        exact Nat.le_trans (List.length_filter_le _ _) hc
      obtain ⟨k, hk⟩ := sort_pl l hlen
      have S := S.toRow
      refine wp_seq ?_
      refine wp_region_lit ?_
      refine wl_run orcC_ok 1 rfl fr fun a fr => ?_
      refine wl_call fr rfl rfl rfl rfl clk_in2 (Sort_uint32_uint32.walk k A c l.length l (fr.slice (d := 29) rfl) S hk) ?_
      rintro _ w ⟨rfl, S⟩
      refine ⟨_, rfl, rfl, fun a fr => ?_⟩
      refine wpList_nil ?_
      refine then_n ?_
      refine wp_seq ?_
      refine wp_region_lit ?_
      refine wl_run orcC_ok 2 rfl fr fun a fr => ?_
      refine wpList_nil ?_
      refine then_n ?_
      refine wp_ret ?_
      refine ret1 fr rfl rfl ?_
      rw [due_of hl] at S
      have hv := fr.vok (d := 4) rfl
      obtain ⟨en, S⟩ := S.ofRow
      rw [← en] at hv ⊢
      have S : Sat w0 _ (stA 26 b [.int .i64 now, .map (some g)] :: ownA .u32 22 A c (Clk.due now m) :: mapA .u32 (Value.int .i64) g m :: R) := S.frontAt 2 rfl
      have S : Sat w0 _ (ownA .u32 22 A c (Clk.due now m) :: stA 26 b [.int .i64 now, .map (some g)] :: mapA .u32 (Value.int .i64) g m :: R) := S.frontAt 1 rfl
      exact ⟨A, c, rfl, hv, S⟩
    · intro w p l1 l2 hl S1 a fr
      subst hl
      have S := S1
      clear S1
      refine wl_run orcC_ok 1 rfl fr fun a fr => ?_
      refine wpList_nil ?_
      refine then_n ?_
      refine wp_seq ?_
      refine cw_t fr rfl ?_
      refine wp_skip ?_
      refine then_n ?_
      refine wp_block ?_
      refine wp_seq ?_
      refine wp_region_lit ?_
      refine wl_entry (fun _ => rfl) fr rfl rfl rfl rfl rfl S ?_
      intro a fr
      refine wl_run orcC_ok 4 rfl fr fun a fr => ?_
      refine wpList_nil ?_
      refine then_n ?_
      refine wp_seq ?_
      refine wp_region_lit ?_
      refine wl_run orcC_ok 5 rfl fr fun a fr => ?_
      refine wl_ldf orcC_ok (Sat.stAt S 2 rfl (j := 0) rfl) fr rfl rfl rfl rfl rfl rfl rfl fun a fr => ?_
      refine wl_run orcC_ok 1 rfl fr fun a fr => ?_
      refine wl_callv fr rfl rfl rfl rfl rfl rfl rfl clk_in1 (clk_f _ (fr.int (d := 23) rfl) S) ?_
      rintro _ w ⟨rfl, S⟩
      refine ⟨_, rfl, rfl, fun a fr => ?_⟩
      refine wpList_nil ?_
      refine then_n ?_
      have hh : (IntKind.wrap .i64 (p.2 - now) == 0) = clkH now p := rfl
      cases hb : clkH now p with
      | false =>
        rw [hb] at hh
        refine cw_f fr (congrArg (fun z => some (Value.bool z)) hh) ?_
        refine wp_skip ?_
        refine blk_n ?_
        refine then_n ?_
        refine ⟨A, c, l, l1 ++ l2, some p, by simp at hq ⊢; omega, ?_, fr.sub ⟨rfl, rfl, rfl, rfl, trivial⟩, S.frontAt 1 rfl⟩
        refine List.Perm.trans (List.Perm.append_left l ?_) hp
        simp [clkC, hb]
      | true =>
        rw [hb] at hh
        refine cw_t fr (congrArg (fun z => some (Value.bool z)) hh) ?_
        refine wp_region_lit ?_
        refine wl_run orcC_ok 2 rfl fr fun a fr => ?_
        refine wl_lit (xs := [p.1]) orcC_ok clk_lit fr rfl rfl rfl rfl ⟨rfl, rfl, trivial⟩ rfl rfl S ?_
        intro w A1 c1 S
        intro a fr
        have hy := Sat.ownAt S 0 rfl
        have S : Sat w0 _ (ownA .u32 22 A c l :: ownA .u32 22 A1 c1 [p.1] :: iterA .u32 (Value.int .i64) g r m (l1 ++ l2) (some p) :: stA 26 b [.int .i64 now, .map (some g)] :: R) := S.frontAt 2 rfl
        have hlen : l.length ≤ 1000 := by
          have h1 := hp.length_eq
          rw [List.length_append] at h1
          have h2 : (clkC now m).length ≤ m.length := by rw [clkC, List.length_map]; exact List.length_filter_le _ _
          omega
        refine wl_app clk_lit fr rfl rfl rfl rfl rfl rfl rfl rfl hy (by simp; omega) S ?_
        intro w A2 c2 S
        have S : Sat w0 _ (ownA .u32 22 A2 c2 (l ++ [p.1]) :: iterA .u32 (Value.int .i64) g r m (l1 ++ l2) (some p) :: stA 26 b [.int .i64 now, .map (some g)] :: R) := S.mask [true, false]
        intro a fr
        refine wl_run orcC_ok 1 rfl fr fun a fr => ?_
        refine wpList_nil ?_
        refine blk_n ?_
        refine then_n ?_
        refine ⟨A2, c2, l ++ [p.1], l1 ++ l2, some p, by simp at hq ⊢; omega, ?_, fr.sub ⟨rfl, rfl, rfl, rfl, trivial⟩, S⟩
        refine List.Perm.trans ?_ hp
        simp only [clkC, List.filter_append, List.map_append, List.filter_cons, hb, if_true, List.map_cons, List.append_assoc]
        refine List.Perm.append_left l ?_
        exact (List.perm_middle (l₁ := (l1.filter (clkH now)).map (·.1))).symm
end Go.Proofs.Ytlhdofkdjlpheaa.Sx
