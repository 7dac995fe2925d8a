/- The chapter's fixed answers. -/
import Derived.Test.YtdhogkenmpgklaaSums
import Derived.Lib.SlBytesConst
import Derived.KernelRfl
namespace Go.Proofs.Ytdhogkenmpgklaa.Alive
open Go.RowKit Crc Sums Base

def bts (l : List Int) : Bool := l.all fun x => decide (0 ≤ x) && decide (x < 256)
theorem bts_of {l : List Int} (h : bts l = true) : Bts l := by
  unfold bts at h; rw [List.all_eq_true] at h
  intro x hx; have := h x hx; simpa using this
theorem v1 : num (on 0#32 []) = 0 := by decide +kernel
theorem v2 : num (on 0#32 [49, 50, 51, 52, 53, 54, 55, 56, 57]) = 3421780262 := by decide +kernel
theorem v3 : num (on 0#32 [97]) = 3904355907 := by decide +kernel
theorem v4 : num (on 0#32 [0, 0, 0, 0]) = 558161692 := by decide +kernel
theorem v5 : num (on (BitVec.ofInt 32 3904355907) [98, 99]) = 891568578 := by decide +kernel
theorem v6 : num (on 0#32 [97, 98, 99]) = 891568578 := by decide +kernel
theorem v7 : num (on (BitVec.ofInt 32 5) []) = 5 := by decide +kernel

set_option maxRecDepth 100000 in
theorem alive_any (w : World) : Calls Try.prog 16 #[] w fun e w' => e = .returned (.bool true) ∧ Below w.heap.size w w' := by
  have kc := fun (w : World) (C : Array Value) (n c : Nat) => Lib.run_convert_bytes_const (P := Try.prog) w 22 5 C n c Try.underlying22 Try.underlying5
  have hmk : ∀ W : World, (Instr.makeSlice 22 (.int .i64 4) (.int .i64 4)).run Try.prog W = .ok (.slice (some ⟨W.heap.size, 0, none⟩) 4 4) (W.alloc (.cells #[.int .u8 0, .int .u8 0, .int .u8 0, .int .u8 0] 5)) :=
    fun W => mk_run 22 5 (.int .u8 0) 1 Try.underlying22 (by kernel_rfl) rfl .i64 .i64 4 (by omega) (by omega) W
  go_enter Try.func16, Try.ntmps16
  go_wp2_with fail
  refine (of_from (Below.refl _ w) none 0 0 [] rfl (by omega) (bts_of rfl) Rd.nil).mono ?_
  rw [v1]
  rintro e w1 ⟨rfl, hb⟩
  go_wp2_with fail
  refine (of_lit hb [49, 50, 51, 52, 53, 54, 55, 56, 57] _ _ _ 9 9 rfl rfl (by omega) (bts_of rfl)).mono ?_
  rw [v2]
  clear hb
  rintro e w2 ⟨rfl, hb⟩
  go_wp2_with fail
  refine (of_lit hb [97] _ _ _ 1 1 rfl rfl (by omega) (bts_of rfl)).mono ?_
  rw [v3]
  clear hb
  rintro e w3 ⟨rfl, hb⟩
  go_wp2_with fail
  refine (of_lit hb [0, 0, 0, 0] _ _ _ 4 4 rfl rfl (by omega) (bts_of rfl)).mono ?_
  rw [v4]
  clear hb
  rintro e w4 ⟨rfl, hb⟩
  go_wp2_with fail
  have h5 := on_lit hb (BitVec.ofInt 32 3904355907) [98, 99] #[.int .u8 98, .int .u8 99] 5 (2, 3) 2 2 rfl rfl (by omega) (bts_of rfl)
  rw [v5, show num (BitVec.ofInt 32 3904355907) = 3904355907 from by decide +kernel] at h5
  refine h5.mono ?_
  clear hb h5
  rintro e w5 ⟨rfl, hb⟩
  go_wp2_with fail
  refine (of_lit hb [97, 98, 99] _ _ _ 3 3 rfl rfl (by omega) (bts_of rfl)).mono ?_
  rw [v6]
  clear hb
  rintro e w6 ⟨rfl, hb⟩
  go_wp2_with fail
  have h7 := on_from hb (BitVec.ofInt 32 5) none 0 0 [] rfl (by omega) (bts_of rfl) Rd.nil
  rw [v7, show num (BitVec.ofInt 32 5) = 5 from by decide +kernel] at h7
  refine h7.mono ?_
  clear hb h7
  rintro e w7 ⟨rfl, hb⟩
  go_wp2
  go_ret
  exact ⟨rfl, hb⟩
end Go.Proofs.Ytdhogkenmpgklaa.Alive
