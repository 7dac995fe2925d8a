/- SumsLong walked. -/
import Derived.Test.YtdhogkenmpgklaaAlive03
import Derived.Test.YtdhogkenmpgklaaOwn
import Derived.OpenShut
namespace Go.Proofs.Ytdhogkenmpgklaa.LawLong
open Go.RowKit Crc Sums Base Alive Own

theorem snoc_eq (a b : List Int) (c : Int) : (num (on 0#32 (a ++ [c])) == num (on 0#32 (b ++ [c]))) = (num (on 0#32 a) == num (on 0#32 b)) := by
  rw [Bool.eq_iff_iff, beq_iff_eq, beq_iff_eq]
  constructor
  · intro h
    have h := num_inj h
    rw [on_append, on_append] at h
    have h2 := congrArg (fun x : BitVec 32 => ~~~ x) h
    simp only [on, BitVec.not_not, raw, List.foldl_cons, List.foldl_nil, byt] at h2
    have h3 := stps_inj 8 h2
    rw [BitVec.xor_left_inj] at h3
    rw [on, on, raw, raw, h3]
  · intro h
    rw [on_append, on_append, num_inj h]

set_option maxRecDepth 100000 in
theorem law (A : Option Addr) (ca : Nat) (a : List Int) (B : Option Addr) (cb : Nat) (b : List Int) (c : Int) (w : World) (ha : a.length ≤ 140737488351232) (hb : b.length ≤ 140737488351232)
    (hba : Bts a) (hbb : Bts b) (hra : Rd .u8 w A a) (hrb : Rd .u8 w B b) (h0 : 0 ≤ c) (h1 : c < 256) :
    Calls Try.prog 7 #[.slice A a.length ca, .slice B b.length cb, .int .u8 c] w fun e w' => e = .returned (.bool true) ∧ Below w.heap.size w w' := by
  by_cases hbig : 100000 < a.length + b.length
  · have hbig' : (100000 : Int) < (a.length : Int) + (b.length : Int) := by omega
    go_enter Try.func7, Try.ntmps7
    go_wp2_with fail
    refine (alive_any _).mono ?_
    rintro e w1 ⟨rfl, hb1⟩
    go_wp2_with fail
    refine (alive_any _).mono ?_
    rintro e w2 ⟨rfl, hb2⟩
    go_wp2
    go_ret
    exact ⟨rfl, hb1.trans (below_weak hb1.size hb2)⟩
  · have hbig' : ¬ (100000 : Int) < (a.length : Int) + (b.length : Int) := by omega
    have HBA := Lib.hid hba
    have HBB := Lib.hid hbb
    have HRA := Lib.hid hra
    have HRB := Lib.hid hrb
    clear hba hbb hra hrb
    go_enter Try.func7, Try.ntmps7
    go_wp2_with fail
    refine (alive_any _).mono ?_
    rintro e w1 ⟨rfl, bd⟩
    have own0 := OwnI.nil .u8 w1 w.heap.size 5
    go_wp2_with (first
      | (at_builtin; refine ap_list rfl tyB bd own0 (HRA.out.below bd) HRA.out.empty (by simp; omega) (.const (.slice none 0 0)) _ a.length ca rfl rfl rfl rfl ?_; clear own0 bd; intro v2a w2a own2 bd2 _ _; have H2a := Lib.hid (And.intro own2 bd2); clear own2 bd2)
      | (at_builtin; refine ap_lit rfl tyB H2a.out.2 H2a.out.1 [c] rfl (by simp; omega) (.tmp 21) _ 1 1 rfl rfl rfl rfl ?_; clear H2a; intro v3a w3a own3 bd3 _ _))
    refine (of_own bd3 own3 ((bts_of rfl).append HBA.out |>.append (fun x hx => by simp at hx; omega)) (by simp; omega)).mono ?_
    clear own3 bd3
    rintro e w4 ⟨rfl, bd, _⟩
    have own0 := OwnI.nil .u8 w4 w.heap.size 5
    go_wp2_with (first
      | (at_builtin; refine ap_list rfl tyB bd own0 (HRB.out.below bd) HRB.out.empty (by simp; omega) (.const (.slice none 0 0)) _ b.length cb rfl rfl rfl rfl ?_; clear own0 bd; intro v2b w2b own2 bd2 _ _; have H2b := Lib.hid (And.intro own2 bd2); clear own2 bd2)
      | (at_builtin; refine ap_lit rfl tyB H2b.out.2 H2b.out.1 [c] rfl (by simp; omega) (.tmp 27) _ 1 1 rfl rfl rfl rfl ?_; clear H2b; intro v3b w3b own3 bd3 _ _))
    refine (of_own bd3 own3 ((bts_of rfl).append HBB.out |>.append (fun x hx => by simp at hx; omega)) (by simp; omega)).mono ?_
    clear own3 bd3
    rintro e w5 ⟨rfl, bd, _⟩
    have hsn := snoc_eq a b c
    go_wp2_with fail
    refine (of_from bd A ca a.length a rfl (by omega) HBA.out HRA.out).mono ?_
    clear bd
    rintro e w6 ⟨rfl, bd⟩
    go_wp2_with fail
    refine (of_from bd B cb b.length b rfl (by omega) HBB.out HRB.out).mono ?_
    clear bd
    rintro e w7 ⟨rfl, bd⟩
    go_wp2_with fail
    refine (of_from bd A ca a.length a rfl (by omega) HBA.out HRA.out).mono ?_
    clear bd
    rintro e w8 ⟨rfl, bd⟩
    go_wp2_with fail
    refine (on_lit bd (on 0#32 a) [c] _ _ _ 1 1 rfl rfl (by omega) (fun x hx => by simp at hx; omega)).mono ?_
    rw [← on_append]
    clear bd
    rintro e w9 ⟨rfl, bd⟩
    go_wp2
    go_ret
    exact ⟨rfl, bd⟩
theorem sumsLong (A : Option Addr) (ca : Nat) (a : List Int) (B : Option Addr) (cb : Nat) (b : List Int) (c : Int) (w : World) (_ : a.length ≤ ca) (ha : a.length ≤ 140737488351232) (wa : ∀ n ∈ a, (Lit.int .u8 n).wf = true) (hra : Rd .u8 w A a)
    (_ : b.length ≤ cb) (hb : b.length ≤ 140737488351232) (wb : ∀ n ∈ b, (Lit.int .u8 n).wf = true) (hrb : Rd .u8 w B b) (wc : (Lit.int .u8 c).wf = true) :
    Calls Try.prog 7 #[.slice A a.length ca, .slice B b.length cb, .int .u8 c] w fun e w' => e = .returned (.bool true) ∧ Below w.heap.size w w' := by
  have h := bounds_u8 wc
  exact law A ca a B cb b c w ha hb (fun x hx => by have := bounds_u8 (wa x hx); omega) (fun x hx => by have := bounds_u8 (wb x hx); omega) hra hrb (by omega) (by omega)
end Go.Proofs.Ytdhogkenmpgklaa.LawLong
