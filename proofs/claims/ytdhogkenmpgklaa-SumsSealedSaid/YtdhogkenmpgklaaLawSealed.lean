/- SumsSealed walked. -/
import Derived.Test.YtdhogkenmpgklaaAlive03
import Derived.Test.YtdhogkenmpgklaaCrc2
import Derived.OpenShut
namespace Go.Proofs.Ytdhogkenmpgklaa.LawSealed
open Go.RowKit Crc Sums Base Alive Own

set_option maxRecDepth 100000 in
theorem law (B : Option Addr) (cb : Nat) (b : List Int) (w : World) (hb : b.length ≤ 140737488351232) (hbb : Bts b) (hrb : Rd .u8 w B b) :
    Calls Try.prog 8 #[.slice B b.length cb] w fun e w' => e = .returned (.bool true) ∧ Below w.heap.size w w' := by
  by_cases hbig : 100000 < b.length
  · go_enter Try.func8, Try.ntmps8
    go_wp2_with fail
    refine (alive_any _).mono ?_
    rintro e w1 ⟨rfl, hb1⟩
    go_wp2_with fail
    refine (alive_any _).mono ?_
    rintro e w2 ⟨rfl, hb2⟩
    go_wp2
    go_ret
    exact ⟨rfl, hb1.trans (below_weak hb1.size hb2)⟩
  · have HBB := Lib.hid hbb
    have HRB := Lib.hid hrb
    clear hbb hrb
    go_enter Try.func8, Try.ntmps8
    go_wp2_with fail
    refine (alive_any _).mono ?_
    rintro e w1 ⟨rfl, bd⟩
    go_wp2_with fail
    refine (of_from bd B cb b.length b rfl (by omega) HBB.out HRB.out).mono ?_
    clear bd
    rintro e w2 ⟨rfl, bd⟩
    have hfin0 := on_sealed b
    rw [show num (on 0#32 b) / 16777216 % 256 = num (on 0#32 b) / 16777216 from by have := num_range (on 0#32 b); omega] at hfin0
    have hfin := Lib.hid hfin0
    clear hfin0
    have hr0 := (num_range (on 0#32 b)).1
    have hr1 := (num_range (on 0#32 b)).2
    generalize num (on 0#32 b) = n at hfin hr0 hr1 ⊢
    have own0 := OwnI.nil .u8 w2 w.heap.size 5
    go_wp2_with (first
      | (at_builtin; refine ap_list rfl tyB bd own0 (HRB.out.below bd) HRB.out.empty (by simp; omega) (.const (.slice none 0 0)) _ b.length cb rfl rfl rfl rfl ?_; clear own0 bd; intro v2 w3 own2 bd2 _ _; have H2 := Lib.hid (And.intro own2 bd2); clear own2 bd2)
      | (at_builtin; refine ap_lit rfl tyB H2.out.2 H2.out.1 [n % 256, n / 256 % 256, n / 65536 % 256, n / 16777216] rfl (by simp; omega) (.tmp 16) _ 4 4 rfl rfl rfl rfl ?_; clear H2; intro v3 w4 own3 bd3 _ _))
    refine (of_own bd3 own3 ((bts_of rfl).append HBB.out |>.append (fun x hx => by simp only [List.mem_cons, List.not_mem_nil, or_false] at hx; rcases hx with rfl | rfl | rfl | rfl <;> omega)) (by simp; omega)).mono ?_
    rw [List.nil_append, hfin.out]
    clear own3 bd3
    rintro e w5 ⟨rfl, bd, _⟩
    go_wp2
    go_ret
    exact ⟨rfl, bd⟩
theorem sumsSealed (B : Option Addr) (cb : Nat) (b : List Int) (w : World)
    (_ : b.length ≤ cb) (hb : b.length ≤ 140737488351232) (wb : ∀ n ∈ b, (Lit.int .u8 n).wf = true) (hrb : Rd .u8 w B b) :
    Calls Try.prog 8 #[.slice B b.length cb] w fun e w' => e = .returned (.bool true) ∧ Below w.heap.size w w' :=
  law B cb b w hb (fun x hx => by have := bounds_u8 (wb x hx); omega) hrb
end Go.Proofs.Ytdhogkenmpgklaa.LawSealed
