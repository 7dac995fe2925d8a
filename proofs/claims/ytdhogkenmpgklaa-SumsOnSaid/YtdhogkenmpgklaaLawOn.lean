/- SumsOn walked by hand. -/
import Derived.Test.YtdhogkenmpgklaaSums
import Derived.Test.YtdhogkenmpgklaaAlive03
import Derived.OpenShut
namespace Go.Proofs.Ytdhogkenmpgklaa.LawOn
open Go.RowKit Crc Sums Base Alive

theorem info8 : (Try.prog.info? 5).map (·.size) = some 1 := by kernel_rfl
set_option maxRecDepth 100000 in
theorem law (A : Option Addr) (c : Nat) (l : List Int) (cut : Int) (s : BitVec 32) (w : World) (hcap : l.length ≤ c) (hb : Bts l) (hr : Rd .u8 w A l) (h0 : 0 ≤ cut) (h1 : cut < 65536) :
    Calls Try.prog 4 #[.slice A l.length c, .int .u16 cut, .int .u32 (num s)] w fun e w' => e = .returned (.bool true) ∧ Below w.heap.size w w' := by
  by_cases hbig : 100000 < l.length
  · go_enter Try.func4, Try.ntmps4
    go_wp2_with fail
    refine (alive_any _).mono ?_
    rintro e w1 ⟨rfl, hb1⟩
    go_wp2_with fail
    refine (alive_any _).mono ?_
    rintro e w2 ⟨rfl, hb2⟩
    go_wp2
    go_ret
    exact ⟨rfl, hb1.trans (below_weak hb1.size hb2)⟩
  · have hB := Lib.hid hb
    clear hb
    go_enter Try.func4, Try.ntmps4
    go_wp2_with fail
    refine (alive_any _).mono ?_
    rintro e w1 ⟨rfl, b1⟩
    have HR := Lib.hid hr
    clear hr
    go_wp2_with fail
    rotate_left
    obtain ⟨k, hk, hk2⟩ : ∃ k : Nat, k ≤ l.length ∧ (0 : Int) = k := ⟨0, by omega, rfl⟩
    rotate_left
    obtain ⟨k, hk, hk2⟩ : ∃ k : Nat, k ≤ l.length ∧ cut % ((l.length : Int) + 1) = k := by
      have a1 := Int.emod_nonneg cut (b := (l.length : Int) + 1) (by omega)
      have a2 := Int.emod_lt_of_pos cut (b := (l.length : Int) + 1) (by omega)
      exact ⟨(cut % ((l.length : Int) + 1)).toNat, by omega, by omega⟩
    all_goals
      try rw [hk2]
      have hl : l.length ≤ 9223372036854775807 := by omega
      clear hk2
      refine wp_region_sl [(0, true, some 25), (2, true, some 27), (3, true, some 28), (4, true, some 29), (6, true, some 31), (7, true, some 32), (8, true, some 33), (1, false, some 26), (5, false, some 30), (9, false, some 34), (10, true, some 35), (11, true, some 36), (12, true, some 37), (13, true, some 38), (15, true, some 40), (16, true, some 41), (17, true, some 42), (18, true, some 43), (20, true, some 45), (21, true, some 46), (22, true, some 47), (14, false, some 39), (19, false, some 44), (23, false, some 48), (24, true, some 49), (25, true, some 50), (26, true, some 51), (27, true, some 52), (29, true, some 54), (28, false, some 53), (30, true, some 55), (31, true, some 56), (32, true, some 6)]
        [⟨true, some 25, (Go.Op.move (Go.Operand.tmp 0)), 22, none⟩,
        ⟨true, some 27, (Go.Op.move (Go.Operand.tmp 0)), 22, none⟩,
        ⟨true, some 28, (Go.Op.move (Go.Operand.tmp 7)), 3, none⟩,
        ⟨true, some 29, (Go.Op.slice 22 (Go.Operand.tmp 27) none (some (Go.Operand.tmp 28)) none), 22, none⟩,
        ⟨true, some 31, (Go.Op.move (Go.Operand.tmp 0)), 22, none⟩,
        ⟨true, some 32, (Go.Op.move (Go.Operand.tmp 7)), 3, none⟩,
        ⟨true, some 33, (Go.Op.slice 22 (Go.Operand.tmp 31) (some (Go.Operand.tmp 32)) none none), 22, none⟩,
        ⟨false, some 26, (Go.Op.call { callee := (Go.Callee.value (Go.Operand.func 11)), args := #[(Go.Operand.tmp 25)], argTypes := #[22] }), 23, none⟩,
        ⟨false, some 30, (Go.Op.call { callee := (Go.Callee.value (Go.Operand.func 11)), args := #[(Go.Operand.tmp 29)], argTypes := #[22] }), 23, none⟩,
        ⟨false, some 34, (Go.Op.call { callee := (Go.Callee.value (Go.Operand.func 13)), args := #[(Go.Operand.tmp 30), (Go.Operand.tmp 33)], argTypes := #[23, 22] }), 23, none⟩,
        ⟨true, some 35, (Go.Op.binOp Go.BinOp.eql 23 (Go.Operand.tmp 26) (Go.Operand.tmp 34) 23), 4, none⟩,
        ⟨true, some 36, (Go.Op.move (Go.Operand.tmp 35)), 4, none⟩,
        ⟨true, some 37, (Go.Op.move (Go.Operand.tmp 2)), 23, some (36, true)⟩,
        ⟨true, some 38, (Go.Op.move (Go.Operand.tmp 0)), 22, some (36, true)⟩,
        ⟨true, some 40, (Go.Op.move (Go.Operand.tmp 2)), 23, some (36, true)⟩,
        ⟨true, some 41, (Go.Op.move (Go.Operand.tmp 0)), 22, some (36, true)⟩,
        ⟨true, some 42, (Go.Op.move (Go.Operand.tmp 7)), 3, some (36, true)⟩,
        ⟨true, some 43, (Go.Op.slice 22 (Go.Operand.tmp 41) none (some (Go.Operand.tmp 42)) none), 22, some (36, true)⟩,
        ⟨true, some 45, (Go.Op.move (Go.Operand.tmp 0)), 22, some (36, true)⟩,
        ⟨true, some 46, (Go.Op.move (Go.Operand.tmp 7)), 3, some (36, true)⟩,
        ⟨true, some 47, (Go.Op.slice 22 (Go.Operand.tmp 45) (some (Go.Operand.tmp 46)) none none), 22, some (36, true)⟩,
        ⟨false, some 39, (Go.Op.call { callee := (Go.Callee.value (Go.Operand.func 13)), args := #[(Go.Operand.tmp 37), (Go.Operand.tmp 38)], argTypes := #[23, 22] }), 23, some (36, true)⟩,
        ⟨false, some 44, (Go.Op.call { callee := (Go.Callee.value (Go.Operand.func 13)), args := #[(Go.Operand.tmp 40), (Go.Operand.tmp 43)], argTypes := #[23, 22] }), 23, some (36, true)⟩,
        ⟨false, some 48, (Go.Op.call { callee := (Go.Callee.value (Go.Operand.func 13)), args := #[(Go.Operand.tmp 44), (Go.Operand.tmp 47)], argTypes := #[23, 22] }), 23, some (36, true)⟩,
        ⟨true, some 49, (Go.Op.binOp Go.BinOp.eql 23 (Go.Operand.tmp 39) (Go.Operand.tmp 48) 23), 4, some (36, true)⟩,
        ⟨true, some 50, (Go.Op.pick (Go.Operand.tmp 36) (Go.Operand.tmp 49) (Go.Operand.const (Go.Value.bool false))), 4, none⟩,
        ⟨true, some 51, (Go.Op.move (Go.Operand.tmp 50)), 4, none⟩,
        ⟨true, some 52, (Go.Op.move (Go.Operand.tmp 2)), 23, some (51, true)⟩,
        ⟨true, some 54, (Go.Op.move (Go.Operand.tmp 2)), 23, some (51, true)⟩,
        ⟨false, some 53, (Go.Op.call { callee := (Go.Callee.value (Go.Operand.func 13)), args := #[(Go.Operand.tmp 52), (Go.Operand.const (Go.Value.slice none 0 0))], argTypes := #[23, 22] }), 23, some (51, true)⟩,
        ⟨true, some 55, (Go.Op.binOp Go.BinOp.eql 23 (Go.Operand.tmp 53) (Go.Operand.tmp 54) 23), 4, some (51, true)⟩,
        ⟨true, some 56, (Go.Op.pick (Go.Operand.tmp 51) (Go.Operand.tmp 55) (Go.Operand.const (Go.Value.bool false))), 4, none⟩,
        ⟨true, some 6, (Go.Op.assign (Go.Operand.tmp 56)), 4, none⟩]
        (fun _ => True) rfl (by kernel_rfl) (by kernel_rfl) trivial ?_
      have ht : (l.take k).length = k := by rw [List.length_take]; omega
      have hd : (l.drop k).length = l.length - k := List.length_drop
      have s1 := sl_take (P := Try.prog) 22 5 .i64 Try.underlying22 info8 A l.length c k (by omega)
      have s2 := sl_drop (P := Try.prog) 22 5 .i64 Try.underlying22 info8 A l.length c k (by omega)
      have HT := Lib.hid ht
      have HD := Lib.hid hd
      have bd : Below w.heap.size w w1.drew := b1.drew
      clear ht hd b1
      generalize w1.drew = v1 at bd ⊢
      repeat (first | ((with_reducible refine sq (v := ?_) (a' := ?_) ?_ ?_ ?_); rotate_left 2; (focus (intro w' hS; go_simp; (first | done | with_reducible rfl | rfl))); (simp only [Act.put, List.setIfInBounds_toArray, List.set_cons_zero, List.set_cons_succ]; rfl)) | ((with_reducible refine sn (a' := ?_) ?_ ?_ ?_); rotate_left; (focus rfl); (simp only [Act.put, List.setIfInBounds_toArray, List.set_cons_zero, List.set_cons_succ]; rfl)) | ((with_reducible refine sf trivial (a' := ?_) ?_ ?_ ?_); rotate_left; (focus rfl); (simp only [Act.put, List.setIfInBounds_toArray, List.set_cons_zero, List.set_cons_succ]; rfl)) | ((with_reducible refine sqg (v := ?_) (a' := ?_) ?_ ?_ ?_ ?_); rotate_left 2; (focus rfl); (focus (intro w' hS; go_simp; (first | done | with_reducible rfl | rfl))); (simp only [Act.put, List.setIfInBounds_toArray, List.set_cons_zero, List.set_cons_succ]; rfl)))
      first | ((with_reducible refine sc 11 #[.slice A l.length c] ?_ ?_); (focus (first | rfl | (go_simp; done) | (go_simp; rfl)))) | ((with_reducible refine scg 11 #[.slice A l.length c] ?_ ?_ ?_); (focus rfl); (focus (first | rfl | (go_simp; done) | (go_simp; rfl))))
      refine (of_from bd A c l.length l rfl hl hB.out HR.out).mono ?_
      clear bd
      rintro e v2 ⟨rfl, bd⟩
      (refine ⟨_, rfl, trivial, fun a' ha => ?_⟩; (simp only [Act.put, List.setIfInBounds_toArray, List.set_cons_zero, List.set_cons_succ] at ha); subst ha)
      repeat (first | ((with_reducible refine sq (v := ?_) (a' := ?_) ?_ ?_ ?_); rotate_left 2; (focus (intro w' hS; go_simp; (first | done | with_reducible rfl | rfl))); (simp only [Act.put, List.setIfInBounds_toArray, List.set_cons_zero, List.set_cons_succ]; rfl)) | ((with_reducible refine sn (a' := ?_) ?_ ?_ ?_); rotate_left; (focus rfl); (simp only [Act.put, List.setIfInBounds_toArray, List.set_cons_zero, List.set_cons_succ]; rfl)) | ((with_reducible refine sf trivial (a' := ?_) ?_ ?_ ?_); rotate_left; (focus rfl); (simp only [Act.put, List.setIfInBounds_toArray, List.set_cons_zero, List.set_cons_succ]; rfl)) | ((with_reducible refine sqg (v := ?_) (a' := ?_) ?_ ?_ ?_ ?_); rotate_left 2; (focus rfl); (focus (intro w' hS; go_simp; (first | done | with_reducible rfl | rfl))); (simp only [Act.put, List.setIfInBounds_toArray, List.set_cons_zero, List.set_cons_succ]; rfl)))
      first | ((with_reducible refine sc 11 #[.slice A k c] ?_ ?_); (focus (first | rfl | (go_simp; done) | (go_simp; rfl)))) | ((with_reducible refine scg 11 #[.slice A k c] ?_ ?_ ?_); (focus rfl); (focus (first | rfl | (go_simp; done) | (go_simp; rfl))))
      refine (of_from bd A c k (l.take k) HT.out (by omega) (hB.out.take k) (HR.out.take k)).mono ?_
      clear bd
      rintro e v3 ⟨rfl, bd⟩
      (refine ⟨_, rfl, trivial, fun a' ha => ?_⟩; (simp only [Act.put, List.setIfInBounds_toArray, List.set_cons_zero, List.set_cons_succ] at ha); subst ha)
      repeat (first | ((with_reducible refine sq (v := ?_) (a' := ?_) ?_ ?_ ?_); rotate_left 2; (focus (intro w' hS; go_simp; (first | done | with_reducible rfl | rfl))); (simp only [Act.put, List.setIfInBounds_toArray, List.set_cons_zero, List.set_cons_succ]; rfl)) | ((with_reducible refine sn (a' := ?_) ?_ ?_ ?_); rotate_left; (focus rfl); (simp only [Act.put, List.setIfInBounds_toArray, List.set_cons_zero, List.set_cons_succ]; rfl)) | ((with_reducible refine sf trivial (a' := ?_) ?_ ?_ ?_); rotate_left; (focus rfl); (simp only [Act.put, List.setIfInBounds_toArray, List.set_cons_zero, List.set_cons_succ]; rfl)) | ((with_reducible refine sqg (v := ?_) (a' := ?_) ?_ ?_ ?_ ?_); rotate_left 2; (focus rfl); (focus (intro w' hS; go_simp; (first | done | with_reducible rfl | rfl))); (simp only [Act.put, List.setIfInBounds_toArray, List.set_cons_zero, List.set_cons_succ]; rfl)))
      first | ((with_reducible refine sc 13 #[.int .u32 (num (on 0#32 (l.take k))), .slice (dropA A c k) (l.length - k) (c - k)] ?_ ?_); (focus (first | rfl | (go_simp; done) | (go_simp; rfl)))) | ((with_reducible refine scg 13 #[.int .u32 (num (on 0#32 (l.take k))), .slice (dropA A c k) (l.length - k) (c - k)] ?_ ?_ ?_); (focus rfl); (focus (first | rfl | (go_simp; done) | (go_simp; rfl))))
      refine (on_from bd _ _ (c - k) _ (l.drop k) HD.out (by omega) (hB.out.drop k) (HR.out.drop hcap)).mono ?_
      rw [← on_append, List.take_append_drop]
      clear bd
      rintro e v4 ⟨rfl, bd⟩
      (refine ⟨_, rfl, trivial, fun a' ha => ?_⟩; (simp only [Act.put, List.setIfInBounds_toArray, List.set_cons_zero, List.set_cons_succ] at ha); subst ha)
      repeat (first | ((with_reducible refine sq (v := ?_) (a' := ?_) ?_ ?_ ?_); rotate_left 2; (focus (intro w' hS; go_simp; (first | done | with_reducible rfl | rfl))); (simp only [Act.put, List.setIfInBounds_toArray, List.set_cons_zero, List.set_cons_succ]; rfl)) | ((with_reducible refine sn (a' := ?_) ?_ ?_ ?_); rotate_left; (focus rfl); (simp only [Act.put, List.setIfInBounds_toArray, List.set_cons_zero, List.set_cons_succ]; rfl)) | ((with_reducible refine sf trivial (a' := ?_) ?_ ?_ ?_); rotate_left; (focus rfl); (simp only [Act.put, List.setIfInBounds_toArray, List.set_cons_zero, List.set_cons_succ]; rfl)) | ((with_reducible refine sqg (v := ?_) (a' := ?_) ?_ ?_ ?_ ?_); rotate_left 2; (focus rfl); (focus (intro w' hS; go_simp; (first | done | with_reducible rfl | rfl))); (simp only [Act.put, List.setIfInBounds_toArray, List.set_cons_zero, List.set_cons_succ]; rfl)))
      first | ((with_reducible refine sc 13 #[.int .u32 (num s), .slice A l.length c] ?_ ?_); (focus (first | rfl | (go_simp; done) | (go_simp; rfl)))) | ((with_reducible refine scg 13 #[.int .u32 (num s), .slice A l.length c] ?_ ?_ ?_); (focus rfl); (focus (first | rfl | (go_simp; done) | (go_simp; rfl))))
      refine (on_from bd s A c l.length l rfl hl hB.out HR.out).mono ?_
      clear bd
      rintro e v5 ⟨rfl, bd⟩
      (refine ⟨_, rfl, trivial, fun a' ha => ?_⟩; (simp only [Act.put, List.setIfInBounds_toArray, List.set_cons_zero, List.set_cons_succ] at ha); subst ha)
      repeat (first | ((with_reducible refine sq (v := ?_) (a' := ?_) ?_ ?_ ?_); rotate_left 2; (focus (intro w' hS; go_simp; (first | done | with_reducible rfl | rfl))); (simp only [Act.put, List.setIfInBounds_toArray, List.set_cons_zero, List.set_cons_succ]; rfl)) | ((with_reducible refine sn (a' := ?_) ?_ ?_ ?_); rotate_left; (focus rfl); (simp only [Act.put, List.setIfInBounds_toArray, List.set_cons_zero, List.set_cons_succ]; rfl)) | ((with_reducible refine sf trivial (a' := ?_) ?_ ?_ ?_); rotate_left; (focus rfl); (simp only [Act.put, List.setIfInBounds_toArray, List.set_cons_zero, List.set_cons_succ]; rfl)) | ((with_reducible refine sqg (v := ?_) (a' := ?_) ?_ ?_ ?_ ?_); rotate_left 2; (focus rfl); (focus (intro w' hS; go_simp; (first | done | with_reducible rfl | rfl))); (simp only [Act.put, List.setIfInBounds_toArray, List.set_cons_zero, List.set_cons_succ]; rfl)))
      first | ((with_reducible refine sc 13 #[.int .u32 (num s), .slice A k c] ?_ ?_); (focus (first | rfl | (go_simp; done) | (go_simp; rfl)))) | ((with_reducible refine scg 13 #[.int .u32 (num s), .slice A k c] ?_ ?_ ?_); (focus rfl); (focus (first | rfl | (go_simp; done) | (go_simp; rfl))))
      refine (on_from bd s A c k (l.take k) HT.out (by omega) (hB.out.take k) (HR.out.take k)).mono ?_
      clear bd
      rintro e v6 ⟨rfl, bd⟩
      (refine ⟨_, rfl, trivial, fun a' ha => ?_⟩; (simp only [Act.put, List.setIfInBounds_toArray, List.set_cons_zero, List.set_cons_succ] at ha); subst ha)
      repeat (first | ((with_reducible refine sq (v := ?_) (a' := ?_) ?_ ?_ ?_); rotate_left 2; (focus (intro w' hS; go_simp; (first | done | with_reducible rfl | rfl))); (simp only [Act.put, List.setIfInBounds_toArray, List.set_cons_zero, List.set_cons_succ]; rfl)) | ((with_reducible refine sn (a' := ?_) ?_ ?_ ?_); rotate_left; (focus rfl); (simp only [Act.put, List.setIfInBounds_toArray, List.set_cons_zero, List.set_cons_succ]; rfl)) | ((with_reducible refine sf trivial (a' := ?_) ?_ ?_ ?_); rotate_left; (focus rfl); (simp only [Act.put, List.setIfInBounds_toArray, List.set_cons_zero, List.set_cons_succ]; rfl)) | ((with_reducible refine sqg (v := ?_) (a' := ?_) ?_ ?_ ?_ ?_); rotate_left 2; (focus rfl); (focus (intro w' hS; go_simp; (first | done | with_reducible rfl | rfl))); (simp only [Act.put, List.setIfInBounds_toArray, List.set_cons_zero, List.set_cons_succ]; rfl)))
      first | ((with_reducible refine sc 13 #[.int .u32 (num (on s (l.take k))), .slice (dropA A c k) (l.length - k) (c - k)] ?_ ?_); (focus (first | rfl | (go_simp; done) | (go_simp; rfl)))) | ((with_reducible refine scg 13 #[.int .u32 (num (on s (l.take k))), .slice (dropA A c k) (l.length - k) (c - k)] ?_ ?_ ?_); (focus rfl); (focus (first | rfl | (go_simp; done) | (go_simp; rfl))))
      refine (on_from bd _ _ (c - k) _ (l.drop k) HD.out (by omega) (hB.out.drop k) (HR.out.drop hcap)).mono ?_
      rw [← on_append, List.take_append_drop]
      clear bd
      rintro e v7 ⟨rfl, bd⟩
      (refine ⟨_, rfl, trivial, fun a' ha => ?_⟩; (simp only [Act.put, List.setIfInBounds_toArray, List.set_cons_zero, List.set_cons_succ] at ha); subst ha)
      repeat (first | ((with_reducible refine sq (v := ?_) (a' := ?_) ?_ ?_ ?_); rotate_left 2; (focus (intro w' hS; go_simp; (first | done | with_reducible rfl | rfl))); (simp only [Act.put, List.setIfInBounds_toArray, List.set_cons_zero, List.set_cons_succ]; rfl)) | ((with_reducible refine sn (a' := ?_) ?_ ?_ ?_); rotate_left; (focus rfl); (simp only [Act.put, List.setIfInBounds_toArray, List.set_cons_zero, List.set_cons_succ]; rfl)) | ((with_reducible refine sf trivial (a' := ?_) ?_ ?_ ?_); rotate_left; (focus rfl); (simp only [Act.put, List.setIfInBounds_toArray, List.set_cons_zero, List.set_cons_succ]; rfl)) | ((with_reducible refine sqg (v := ?_) (a' := ?_) ?_ ?_ ?_ ?_); rotate_left 2; (focus rfl); (focus (intro w' hS; go_simp; (first | done | with_reducible rfl | rfl))); (simp only [Act.put, List.setIfInBounds_toArray, List.set_cons_zero, List.set_cons_succ]; rfl)))
      first | ((with_reducible refine sc 13 #[.int .u32 (num s), .slice none 0 0] ?_ ?_); (focus (first | rfl | (go_simp; done) | (go_simp; rfl)))) | ((with_reducible refine scg 13 #[.int .u32 (num s), .slice none 0 0] ?_ ?_ ?_); (focus rfl); (focus (first | rfl | (go_simp; done) | (go_simp; rfl))))
      refine (on_from bd s none 0 0 [] rfl (by omega) (fun x hx => by cases hx) Rd.nil).mono ?_
      rw [on_nil]
      clear bd
      rintro e v8 ⟨rfl, bd⟩
      (refine ⟨_, rfl, trivial, fun a' ha => ?_⟩; (simp only [Act.put, List.setIfInBounds_toArray, List.set_cons_zero, List.set_cons_succ] at ha); subst ha)
      repeat (first | ((with_reducible refine sq (v := ?_) (a' := ?_) ?_ ?_ ?_); rotate_left 2; (focus (intro w' hS; go_simp; (first | done | with_reducible rfl | rfl))); (simp only [Act.put, List.setIfInBounds_toArray, List.set_cons_zero, List.set_cons_succ]; rfl)) | ((with_reducible refine sn (a' := ?_) ?_ ?_ ?_); rotate_left; (focus rfl); (simp only [Act.put, List.setIfInBounds_toArray, List.set_cons_zero, List.set_cons_succ]; rfl)) | ((with_reducible refine sf trivial (a' := ?_) ?_ ?_ ?_); rotate_left; (focus rfl); (simp only [Act.put, List.setIfInBounds_toArray, List.set_cons_zero, List.set_cons_succ]; rfl)) | ((with_reducible refine sqg (v := ?_) (a' := ?_) ?_ ?_ ?_ ?_); rotate_left 2; (focus rfl); (focus (intro w' hS; go_simp; (first | done | with_reducible rfl | rfl))); (simp only [Act.put, List.setIfInBounds_toArray, List.set_cons_zero, List.set_cons_succ]; rfl)))
      refine sl_end ?_
      go_wp2
      go_ret
      exact ⟨rfl, bd⟩
theorem sumsOn (A : Option Addr) (c : Nat) (l : List Int) (cut s : Int) (w : World) (hcap : l.length ≤ c) (_ : c ≤ maxLen) (hb : ∀ n ∈ l, (Lit.int .u8 n).wf = true) (hr : Rd .u8 w A l)
    (hc : (Lit.int .u16 cut).wf = true) (hs : (Lit.int .u32 s).wf = true) :
    Calls Try.prog 4 #[.slice A l.length c, .int .u16 cut, .int .u32 s] w fun e w' => e = .returned (.bool true) ∧ Below w.heap.size w w' := by
  have h1 := bounds_u16 hc
  have h2 := bounds_u32 hs
  have := law A c l cut (BitVec.ofInt 32 s) w hcap (fun x hx => by have := bounds_u8 (hb x hx); omega) hr (by omega) (by omega)
  rwa [num_of (by omega) (by omega)] at this
end Go.Proofs.Ytdhogkenmpgklaa.LawOn
