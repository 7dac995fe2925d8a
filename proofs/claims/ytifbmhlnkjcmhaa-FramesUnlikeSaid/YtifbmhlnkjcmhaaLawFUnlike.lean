/- FramesUnlike walked. -/
import Derived.Test.YtifbmhlnkjcmhaaAlive05
namespace Go.Proofs.Ytifbmhlnkjcmhaa.LawFUnlike
open Go.RowKit Crc Sums Base Own Frames Same Alive

set_option maxHeartbeats 1000000 in
set_option maxRecDepth 100000 in
theorem law (A : Option Addr) (ca : Nat) (r : List Int) (B : Option Addr) (cb : Nat) (m : List Int) (w : World) (hlr : r.length ≤ 140737488351232) (hlm : m.length ≤ 140737488351232) (hbr : Bts r) (hbm : Bts m) (hrr : Rd .u8 w A r) (hrm : Rd .u8 w B m) :
    Calls Try.prog 6 #[.slice A r.length ca, .slice B m.length cb] w fun e w' => e = .returned (.bool true) ∧ Below w.heap.size w w' := by
  have HA := Lib.hid (And.intro hbr hrr)
  have HB := Lib.hid (And.intro hbm hrm)
  clear hbr hbm hrr hrm
  go_enter Try.func6, Try.ntmps6
  go_wp2_with fail
  refine (alive_any _).mono ?_
  rintro e w1 ⟨rfl, b1⟩
  have B1 := Lib.hid b1
  clear b1
  by_cases h1 : 16384 < r.length
  · go_wp2_with fail
    refine (alive_any _).mono ?_
    rintro e w2 ⟨rfl, b2⟩
    go_wp2
    go_ret
    exact ⟨rfl, B1.out.trans (below_weak B1.out.size b2)⟩
  by_cases h2 : 16384 < m.length
  · go_wp2_with fail
    refine (alive_any _).mono ?_
    rintro e w2 ⟨rfl, b2⟩
    go_wp2
    go_ret
    exact ⟨rfl, B1.out.trans (below_weak B1.out.size b2)⟩
  go_wp2_with fail
  refine (put_any A ca r w1 (by omega) HA.out.1 (HA.out.2.below B1.out)).mono ?_
  rintro e w2 ⟨v, rfl, o2, b2⟩
  obtain ⟨A2, c2, rfl, hc2, -, hr2, -⟩ := o2.slice
  have B2 := Lib.hid (B1.out.trans (below_weak B1.out.size b2))
  obtain ⟨L, hL⟩ : ∃ L, L = (put r).length := ⟨_, rfl⟩
  rw [← hL] at hc2 ⊢
  have H2 := Lib.hid (And.intro hr2 hL)
  have hL2 : L ≤ 20000 := by rw [hL, put_length]; unfold nsec; omega
  clear o2 hr2 b2 hL
  go_wp2_with fail
  refine (put_any B cb m w2 (by omega) HB.out.1 (HB.out.2.below B2.out)).mono ?_
  rintro e w3 ⟨v, rfl, o3, b3⟩
  obtain ⟨A3, c3, rfl, hc3, -, hr3, -⟩ := o3.slice
  have B3 := Lib.hid (B2.out.trans (below_weak B2.out.size b3))
  obtain ⟨M, hM⟩ : ∃ M, M = (put m).length := ⟨_, rfl⟩
  rw [← hM] at hc3 ⊢
  have H3 := Lib.hid (And.intro hr3 (And.intro hM (H2.out.1.below b3)))
  have hM2 : M ≤ 20000 := by rw [hM, put_length]; unfold nsec; omega
  clear o3 hr3 b3 hM
  by_cases hml : M < L
  · have s1 := sl_take (P := Try.prog) 22 5 .i64 Try.underlying22 TwinBytes.info1 A2 L c2 M (by omega)
    have s2 := sl_take (P := Try.prog) 22 5 .i64 Try.underlying22 TwinBytes.info1 A3 M c3 M (by omega)
    have HN := Lib.hid (And.intro (show M ≤ L by omega) (And.intro (show M ≤ M by omega) (And.intro hL2 (show M = min L M by omega))))
    clear hc2 hc3 hL2 hM2
    go_wp2
    refine wp_region_sl [(0, true, some 44), (1, true, some 45), (2, true, some 46), (3, true, some 47), (4, true, some 48), (5, true, some 49), (7, true, some 51), (8, true, some 52), (6, false, some 50), (9, false, some 53), (10, true, some 54), (11, true, some 4)]
                [⟨true, some 44, (Go.Op.move (Go.Operand.tmp 5)), 22, none⟩,
                ⟨true, some 45, (Go.Op.move (Go.Operand.tmp 9)), 3, none⟩,
                ⟨true, some 46, (Go.Op.slice 22 (Go.Operand.tmp 44) none (some (Go.Operand.tmp 45)) none), 22, none⟩,
                ⟨true, some 47, (Go.Op.move (Go.Operand.tmp 7)), 22, none⟩,
                ⟨true, some 48, (Go.Op.move (Go.Operand.tmp 9)), 3, none⟩,
                ⟨true, some 49, (Go.Op.slice 22 (Go.Operand.tmp 47) none (some (Go.Operand.tmp 48)) none), 22, none⟩,
                ⟨true, some 51, (Go.Op.move (Go.Operand.tmp 0)), 22, none⟩,
                ⟨true, some 52, (Go.Op.move (Go.Operand.tmp 1)), 22, none⟩,
                ⟨false, some 50, (Go.Op.call { callee := (Go.Callee.value (Go.Operand.func 11)), args := #[(Go.Operand.tmp 46), (Go.Operand.tmp 49)], argTypes := #[22, 22] }), 4, none⟩,
                ⟨false, some 53, (Go.Op.call { callee := (Go.Callee.value (Go.Operand.func 11)), args := #[(Go.Operand.tmp 51), (Go.Operand.tmp 52)], argTypes := #[22, 22] }), 4, none⟩,
                ⟨true, some 54, (Go.Op.binOp Go.BinOp.eql 4 (Go.Operand.tmp 50) (Go.Operand.tmp 53) 4), 4, none⟩,
                ⟨true, some 4, (Go.Op.assign (Go.Operand.tmp 54)), 4, none⟩]
                (fun w' => Below w3.heap.size w3 w') rfl (by kernel_rfl) (by kernel_rfl) ?_ ?_
    · exact (Below.refl _ _).drew
    (repeat (first | ((with_reducible refine sq (v := ?_) (a' := ?_) ?_ ?_ ?_); rotate_left 2; (focus (intro w' hS; go_simp; (first | done | with_reducible rfl | rfl))); (simp only [Act.put, List.setIfInBounds_toArray, List.set_cons_zero, List.set_cons_succ]; rfl)) | ((with_reducible refine sn (a' := ?_) ?_ ?_ ?_); rotate_left; (focus rfl); (simp only [Act.put, List.setIfInBounds_toArray, List.set_cons_zero, List.set_cons_succ]; rfl)) | ((with_reducible refine sf trivial (a' := ?_) ?_ ?_ ?_); rotate_left; (focus rfl); (simp only [Act.put, List.setIfInBounds_toArray, List.set_cons_zero, List.set_cons_succ]; rfl)) | ((with_reducible refine sqg (v := ?_) (a' := ?_) ?_ ?_ ?_ ?_); rotate_left 2; (focus rfl); (focus (intro w' hS; go_simp; (first | done | with_reducible rfl | rfl))); (simp only [Act.put, List.setIfInBounds_toArray, List.set_cons_zero, List.set_cons_succ]; rfl)))); (repeat ((go_bits; (first | ((with_reducible refine sq (v := ?_) (a' := ?_) ?_ ?_ ?_); rotate_left 2; (focus (intro w' hS; go_simp; (first | done | with_reducible rfl | rfl))); (simp only [Act.put, List.setIfInBounds_toArray, List.set_cons_zero, List.set_cons_succ]; rfl)) | ((with_reducible refine sn (a' := ?_) ?_ ?_ ?_); rotate_left; (focus rfl); (simp only [Act.put, List.setIfInBounds_toArray, List.set_cons_zero, List.set_cons_succ]; rfl)) | ((with_reducible refine sf trivial (a' := ?_) ?_ ?_ ?_); rotate_left; (focus rfl); (simp only [Act.put, List.setIfInBounds_toArray, List.set_cons_zero, List.set_cons_succ]; rfl)) | ((with_reducible refine sqg (v := ?_) (a' := ?_) ?_ ?_ ?_ ?_); rotate_left 2; (focus rfl); (focus (intro w' hS; go_simp; (first | done | with_reducible rfl | rfl))); (simp only [Act.put, List.setIfInBounds_toArray, List.set_cons_zero, List.set_cons_succ]; rfl)))); (repeat (first | ((with_reducible refine sq (v := ?_) (a' := ?_) ?_ ?_ ?_); rotate_left 2; (focus (intro w' hS; go_simp; (first | done | with_reducible rfl | rfl))); (simp only [Act.put, List.setIfInBounds_toArray, List.set_cons_zero, List.set_cons_succ]; rfl)) | ((with_reducible refine sn (a' := ?_) ?_ ?_ ?_); rotate_left; (focus rfl); (simp only [Act.put, List.setIfInBounds_toArray, List.set_cons_zero, List.set_cons_succ]; rfl)) | ((with_reducible refine sf trivial (a' := ?_) ?_ ?_ ?_); rotate_left; (focus rfl); (simp only [Act.put, List.setIfInBounds_toArray, List.set_cons_zero, List.set_cons_succ]; rfl)) | ((with_reducible refine sqg (v := ?_) (a' := ?_) ?_ ?_ ?_ ?_); rotate_left 2; (focus rfl); (focus (intro w' hS; go_simp; (first | done | with_reducible rfl | rfl))); (simp only [Act.put, List.setIfInBounds_toArray, List.set_cons_zero, List.set_cons_succ]; rfl)))))); (try go_bits)
    first | ((with_reducible refine sc 11 #[.slice A2 M c2, .slice A3 M c3] ?_ ?_); (focus (first | rfl | (go_simp; done) | (go_simp; rfl)))) | ((with_reducible refine scg 11 #[.slice A2 M c2, .slice A3 M c3] ?_ ?_ ?_); (focus rfl); (focus (first | rfl | (go_simp; done) | (go_simp; rfl))))
    refine (sameBytes_m A2 A3 M M c2 c3 ((put r).take M) ((put m).take M) w3.drew (by have := HN.out; rw [List.length_take, ← H2.out.2]; omega) (by have := HN.out; rw [List.length_take, ← H3.out.2.1]; omega) (by have := HN.out; omega) (by have := HN.out; omega) ((H3.out.2.2.take M).below (Below.refl _ _).drew) ((H3.out.1.take M).below (Below.refl _ _).drew)).mono ?_
    rintro e w4 ⟨rfl, b4⟩
    have B4 := Lib.hid (show Below w3.heap.size w3 w4 from (Below.refl _ _).drew.trans b4)
    refine ⟨_, rfl, B4.out, fun a' ha => ?_⟩
    clear b4
    simp only [Act.put, List.setIfInBounds_toArray, List.set_cons_zero, List.set_cons_succ] at ha
    subst ha
    (repeat (first | ((with_reducible refine sq (v := ?_) (a' := ?_) ?_ ?_ ?_); rotate_left 2; (focus (intro w' hS; go_simp; (first | done | with_reducible rfl | rfl))); (simp only [Act.put, List.setIfInBounds_toArray, List.set_cons_zero, List.set_cons_succ]; rfl)) | ((with_reducible refine sn (a' := ?_) ?_ ?_ ?_); rotate_left; (focus rfl); (simp only [Act.put, List.setIfInBounds_toArray, List.set_cons_zero, List.set_cons_succ]; rfl)) | ((with_reducible refine sf trivial (a' := ?_) ?_ ?_ ?_); rotate_left; (focus rfl); (simp only [Act.put, List.setIfInBounds_toArray, List.set_cons_zero, List.set_cons_succ]; rfl)) | ((with_reducible refine sqg (v := ?_) (a' := ?_) ?_ ?_ ?_ ?_); rotate_left 2; (focus rfl); (focus (intro w' hS; go_simp; (first | done | with_reducible rfl | rfl))); (simp only [Act.put, List.setIfInBounds_toArray, List.set_cons_zero, List.set_cons_succ]; rfl)))); (repeat ((go_bits; (first | ((with_reducible refine sq (v := ?_) (a' := ?_) ?_ ?_ ?_); rotate_left 2; (focus (intro w' hS; go_simp; (first | done | with_reducible rfl | rfl))); (simp only [Act.put, List.setIfInBounds_toArray, List.set_cons_zero, List.set_cons_succ]; rfl)) | ((with_reducible refine sn (a' := ?_) ?_ ?_ ?_); rotate_left; (focus rfl); (simp only [Act.put, List.setIfInBounds_toArray, List.set_cons_zero, List.set_cons_succ]; rfl)) | ((with_reducible refine sf trivial (a' := ?_) ?_ ?_ ?_); rotate_left; (focus rfl); (simp only [Act.put, List.setIfInBounds_toArray, List.set_cons_zero, List.set_cons_succ]; rfl)) | ((with_reducible refine sqg (v := ?_) (a' := ?_) ?_ ?_ ?_ ?_); rotate_left 2; (focus rfl); (focus (intro w' hS; go_simp; (first | done | with_reducible rfl | rfl))); (simp only [Act.put, List.setIfInBounds_toArray, List.set_cons_zero, List.set_cons_succ]; rfl)))); (repeat (first | ((with_reducible refine sq (v := ?_) (a' := ?_) ?_ ?_ ?_); rotate_left 2; (focus (intro w' hS; go_simp; (first | done | with_reducible rfl | rfl))); (simp only [Act.put, List.setIfInBounds_toArray, List.set_cons_zero, List.set_cons_succ]; rfl)) | ((with_reducible refine sn (a' := ?_) ?_ ?_ ?_); rotate_left; (focus rfl); (simp only [Act.put, List.setIfInBounds_toArray, List.set_cons_zero, List.set_cons_succ]; rfl)) | ((with_reducible refine sf trivial (a' := ?_) ?_ ?_ ?_); rotate_left; (focus rfl); (simp only [Act.put, List.setIfInBounds_toArray, List.set_cons_zero, List.set_cons_succ]; rfl)) | ((with_reducible refine sqg (v := ?_) (a' := ?_) ?_ ?_ ?_ ?_); rotate_left 2; (focus rfl); (focus (intro w' hS; go_simp; (first | done | with_reducible rfl | rfl))); (simp only [Act.put, List.setIfInBounds_toArray, List.set_cons_zero, List.set_cons_succ]; rfl)))))); (try go_bits)
    first | ((with_reducible refine sc 11 #[.slice A r.length ca, .slice B m.length cb] ?_ ?_); (focus (first | rfl | (go_simp; done) | (go_simp; rfl)))) | ((with_reducible refine scg 11 #[.slice A r.length ca, .slice B m.length cb] ?_ ?_ ?_); (focus rfl); (focus (first | rfl | (go_simp; done) | (go_simp; rfl))))
    refine (sameBytes_m A B r.length m.length ca cb r m w4 rfl rfl (by omega) (by omega) (HA.out.2.below (B3.out.trans (below_weak B3.out.size B4.out))) (HB.out.2.below (B3.out.trans (below_weak B3.out.size B4.out)))).mono ?_
    rintro e w5 ⟨rfl, b5⟩
    have B5 := Lib.hid (show Below w3.heap.size w3 w5 from B4.out.trans (below_weak B4.out.size b5))
    refine ⟨_, rfl, B5.out, fun a' ha => ?_⟩
    clear b5
    simp only [Act.put, List.setIfInBounds_toArray, List.set_cons_zero, List.set_cons_succ] at ha
    subst ha
    (repeat (first | ((with_reducible refine sq (v := ?_) (a' := ?_) ?_ ?_ ?_); rotate_left 2; (focus (intro w' hS; go_simp; (first | done | with_reducible rfl | rfl))); (simp only [Act.put, List.setIfInBounds_toArray, List.set_cons_zero, List.set_cons_succ]; rfl)) | ((with_reducible refine sn (a' := ?_) ?_ ?_ ?_); rotate_left; (focus rfl); (simp only [Act.put, List.setIfInBounds_toArray, List.set_cons_zero, List.set_cons_succ]; rfl)) | ((with_reducible refine sf trivial (a' := ?_) ?_ ?_ ?_); rotate_left; (focus rfl); (simp only [Act.put, List.setIfInBounds_toArray, List.set_cons_zero, List.set_cons_succ]; rfl)) | ((with_reducible refine sqg (v := ?_) (a' := ?_) ?_ ?_ ?_ ?_); rotate_left 2; (focus rfl); (focus (intro w' hS; go_simp; (first | done | with_reducible rfl | rfl))); (simp only [Act.put, List.setIfInBounds_toArray, List.set_cons_zero, List.set_cons_succ]; rfl)))); (repeat ((go_bits; (first | ((with_reducible refine sq (v := ?_) (a' := ?_) ?_ ?_ ?_); rotate_left 2; (focus (intro w' hS; go_simp; (first | done | with_reducible rfl | rfl))); (simp only [Act.put, List.setIfInBounds_toArray, List.set_cons_zero, List.set_cons_succ]; rfl)) | ((with_reducible refine sn (a' := ?_) ?_ ?_ ?_); rotate_left; (focus rfl); (simp only [Act.put, List.setIfInBounds_toArray, List.set_cons_zero, List.set_cons_succ]; rfl)) | ((with_reducible refine sf trivial (a' := ?_) ?_ ?_ ?_); rotate_left; (focus rfl); (simp only [Act.put, List.setIfInBounds_toArray, List.set_cons_zero, List.set_cons_succ]; rfl)) | ((with_reducible refine sqg (v := ?_) (a' := ?_) ?_ ?_ ?_ ?_); rotate_left 2; (focus rfl); (focus (intro w' hS; go_simp; (first | done | with_reducible rfl | rfl))); (simp only [Act.put, List.setIfInBounds_toArray, List.set_cons_zero, List.set_cons_succ]; rfl)))); (repeat (first | ((with_reducible refine sq (v := ?_) (a' := ?_) ?_ ?_ ?_); rotate_left 2; (focus (intro w' hS; go_simp; (first | done | with_reducible rfl | rfl))); (simp only [Act.put, List.setIfInBounds_toArray, List.set_cons_zero, List.set_cons_succ]; rfl)) | ((with_reducible refine sn (a' := ?_) ?_ ?_ ?_); rotate_left; (focus rfl); (simp only [Act.put, List.setIfInBounds_toArray, List.set_cons_zero, List.set_cons_succ]; rfl)) | ((with_reducible refine sf trivial (a' := ?_) ?_ ?_ ?_); rotate_left; (focus rfl); (simp only [Act.put, List.setIfInBounds_toArray, List.set_cons_zero, List.set_cons_succ]; rfl)) | ((with_reducible refine sqg (v := ?_) (a' := ?_) ?_ ?_ ?_ ?_); rotate_left 2; (focus rfl); (focus (intro w' hS; go_simp; (first | done | with_reducible rfl | rfl))); (simp only [Act.put, List.setIfInBounds_toArray, List.set_cons_zero, List.set_cons_succ]; rfl)))))); (try go_bits)
    refine sl_end ?_
    go_wp2
    go_ret
    refine ⟨?_, B3.out.trans (below_weak B3.out.size B5.out)⟩
    show Ending.returned (.bool (decide ((put r).take M = (put m).take M) == decide (r = m))) = _
    by_cases he : r = m
    · subst he; simp
    · have h2 : ¬ (put r).take M = (put m).take M := fun h => he (put_inj r m (by omega) (by omega) M (by rw [← H2.out.2, ← H3.out.2.1]; exact HN.out.2.2.2) h)
      rw [decide_eq_false he, decide_eq_false h2]; rfl
  · have s1 := sl_take (P := Try.prog) 22 5 .i64 Try.underlying22 TwinBytes.info1 A2 L c2 L (by omega)
    have s2 := sl_take (P := Try.prog) 22 5 .i64 Try.underlying22 TwinBytes.info1 A3 M c3 L (by omega)
    have HN := Lib.hid (And.intro (show L ≤ L by omega) (And.intro (show L ≤ M by omega) (And.intro hL2 (show L = min L M by omega))))
    clear hc2 hc3 hL2 hM2
    go_wp2
    refine wp_region_sl [(0, true, some 44), (1, true, some 45), (2, true, some 46), (3, true, some 47), (4, true, some 48), (5, true, some 49), (7, true, some 51), (8, true, some 52), (6, false, some 50), (9, false, some 53), (10, true, some 54), (11, true, some 4)]
                [⟨true, some 44, (Go.Op.move (Go.Operand.tmp 5)), 22, none⟩,
                ⟨true, some 45, (Go.Op.move (Go.Operand.tmp 9)), 3, none⟩,
                ⟨true, some 46, (Go.Op.slice 22 (Go.Operand.tmp 44) none (some (Go.Operand.tmp 45)) none), 22, none⟩,
                ⟨true, some 47, (Go.Op.move (Go.Operand.tmp 7)), 22, none⟩,
                ⟨true, some 48, (Go.Op.move (Go.Operand.tmp 9)), 3, none⟩,
                ⟨true, some 49, (Go.Op.slice 22 (Go.Operand.tmp 47) none (some (Go.Operand.tmp 48)) none), 22, none⟩,
                ⟨true, some 51, (Go.Op.move (Go.Operand.tmp 0)), 22, none⟩,
                ⟨true, some 52, (Go.Op.move (Go.Operand.tmp 1)), 22, none⟩,
                ⟨false, some 50, (Go.Op.call { callee := (Go.Callee.value (Go.Operand.func 11)), args := #[(Go.Operand.tmp 46), (Go.Operand.tmp 49)], argTypes := #[22, 22] }), 4, none⟩,
                ⟨false, some 53, (Go.Op.call { callee := (Go.Callee.value (Go.Operand.func 11)), args := #[(Go.Operand.tmp 51), (Go.Operand.tmp 52)], argTypes := #[22, 22] }), 4, none⟩,
                ⟨true, some 54, (Go.Op.binOp Go.BinOp.eql 4 (Go.Operand.tmp 50) (Go.Operand.tmp 53) 4), 4, none⟩,
                ⟨true, some 4, (Go.Op.assign (Go.Operand.tmp 54)), 4, none⟩]
                (fun w' => Below w3.heap.size w3 w') rfl (by kernel_rfl) (by kernel_rfl) ?_ ?_
    · exact (Below.refl _ _).drew
    (repeat (first | ((with_reducible refine sq (v := ?_) (a' := ?_) ?_ ?_ ?_); rotate_left 2; (focus (intro w' hS; go_simp; (first | done | with_reducible rfl | rfl))); (simp only [Act.put, List.setIfInBounds_toArray, List.set_cons_zero, List.set_cons_succ]; rfl)) | ((with_reducible refine sn (a' := ?_) ?_ ?_ ?_); rotate_left; (focus rfl); (simp only [Act.put, List.setIfInBounds_toArray, List.set_cons_zero, List.set_cons_succ]; rfl)) | ((with_reducible refine sf trivial (a' := ?_) ?_ ?_ ?_); rotate_left; (focus rfl); (simp only [Act.put, List.setIfInBounds_toArray, List.set_cons_zero, List.set_cons_succ]; rfl)) | ((with_reducible refine sqg (v := ?_) (a' := ?_) ?_ ?_ ?_ ?_); rotate_left 2; (focus rfl); (focus (intro w' hS; go_simp; (first | done | with_reducible rfl | rfl))); (simp only [Act.put, List.setIfInBounds_toArray, List.set_cons_zero, List.set_cons_succ]; rfl)))); (repeat ((go_bits; (first | ((with_reducible refine sq (v := ?_) (a' := ?_) ?_ ?_ ?_); rotate_left 2; (focus (intro w' hS; go_simp; (first | done | with_reducible rfl | rfl))); (simp only [Act.put, List.setIfInBounds_toArray, List.set_cons_zero, List.set_cons_succ]; rfl)) | ((with_reducible refine sn (a' := ?_) ?_ ?_ ?_); rotate_left; (focus rfl); (simp only [Act.put, List.setIfInBounds_toArray, List.set_cons_zero, List.set_cons_succ]; rfl)) | ((with_reducible refine sf trivial (a' := ?_) ?_ ?_ ?_); rotate_left; (focus rfl); (simp only [Act.put, List.setIfInBounds_toArray, List.set_cons_zero, List.set_cons_succ]; rfl)) | ((with_reducible refine sqg (v := ?_) (a' := ?_) ?_ ?_ ?_ ?_); rotate_left 2; (focus rfl); (focus (intro w' hS; go_simp; (first | done | with_reducible rfl | rfl))); (simp only [Act.put, List.setIfInBounds_toArray, List.set_cons_zero, List.set_cons_succ]; rfl)))); (repeat (first | ((with_reducible refine sq (v := ?_) (a' := ?_) ?_ ?_ ?_); rotate_left 2; (focus (intro w' hS; go_simp; (first | done | with_reducible rfl | rfl))); (simp only [Act.put, List.setIfInBounds_toArray, List.set_cons_zero, List.set_cons_succ]; rfl)) | ((with_reducible refine sn (a' := ?_) ?_ ?_ ?_); rotate_left; (focus rfl); (simp only [Act.put, List.setIfInBounds_toArray, List.set_cons_zero, List.set_cons_succ]; rfl)) | ((with_reducible refine sf trivial (a' := ?_) ?_ ?_ ?_); rotate_left; (focus rfl); (simp only [Act.put, List.setIfInBounds_toArray, List.set_cons_zero, List.set_cons_succ]; rfl)) | ((with_reducible refine sqg (v := ?_) (a' := ?_) ?_ ?_ ?_ ?_); rotate_left 2; (focus rfl); (focus (intro w' hS; go_simp; (first | done | with_reducible rfl | rfl))); (simp only [Act.put, List.setIfInBounds_toArray, List.set_cons_zero, List.set_cons_succ]; rfl)))))); (try go_bits)
    first | ((with_reducible refine sc 11 #[.slice A2 L c2, .slice A3 L c3] ?_ ?_); (focus (first | rfl | (go_simp; done) | (go_simp; rfl)))) | ((with_reducible refine scg 11 #[.slice A2 L c2, .slice A3 L c3] ?_ ?_ ?_); (focus rfl); (focus (first | rfl | (go_simp; done) | (go_simp; rfl))))
    refine (sameBytes_m A2 A3 L L c2 c3 ((put r).take L) ((put m).take L) w3.drew (by have := HN.out; rw [List.length_take, ← H2.out.2]; omega) (by have := HN.out; rw [List.length_take, ← H3.out.2.1]; omega) (by have := HN.out; omega) (by have := HN.out; omega) ((H3.out.2.2.take L).below (Below.refl _ _).drew) ((H3.out.1.take L).below (Below.refl _ _).drew)).mono ?_
    rintro e w4 ⟨rfl, b4⟩
    have B4 := Lib.hid (show Below w3.heap.size w3 w4 from (Below.refl _ _).drew.trans b4)
    refine ⟨_, rfl, B4.out, fun a' ha => ?_⟩
    clear b4
    simp only [Act.put, List.setIfInBounds_toArray, List.set_cons_zero, List.set_cons_succ] at ha
    subst ha
    (repeat (first | ((with_reducible refine sq (v := ?_) (a' := ?_) ?_ ?_ ?_); rotate_left 2; (focus (intro w' hS; go_simp; (first | done | with_reducible rfl | rfl))); (simp only [Act.put, List.setIfInBounds_toArray, List.set_cons_zero, List.set_cons_succ]; rfl)) | ((with_reducible refine sn (a' := ?_) ?_ ?_ ?_); rotate_left; (focus rfl); (simp only [Act.put, List.setIfInBounds_toArray, List.set_cons_zero, List.set_cons_succ]; rfl)) | ((with_reducible refine sf trivial (a' := ?_) ?_ ?_ ?_); rotate_left; (focus rfl); (simp only [Act.put, List.setIfInBounds_toArray, List.set_cons_zero, List.set_cons_succ]; rfl)) | ((with_reducible refine sqg (v := ?_) (a' := ?_) ?_ ?_ ?_ ?_); rotate_left 2; (focus rfl); (focus (intro w' hS; go_simp; (first | done | with_reducible rfl | rfl))); (simp only [Act.put, List.setIfInBounds_toArray, List.set_cons_zero, List.set_cons_succ]; rfl)))); (repeat ((go_bits; (first | ((with_reducible refine sq (v := ?_) (a' := ?_) ?_ ?_ ?_); rotate_left 2; (focus (intro w' hS; go_simp; (first | done | with_reducible rfl | rfl))); (simp only [Act.put, List.setIfInBounds_toArray, List.set_cons_zero, List.set_cons_succ]; rfl)) | ((with_reducible refine sn (a' := ?_) ?_ ?_ ?_); rotate_left; (focus rfl); (simp only [Act.put, List.setIfInBounds_toArray, List.set_cons_zero, List.set_cons_succ]; rfl)) | ((with_reducible refine sf trivial (a' := ?_) ?_ ?_ ?_); rotate_left; (focus rfl); (simp only [Act.put, List.setIfInBounds_toArray, List.set_cons_zero, List.set_cons_succ]; rfl)) | ((with_reducible refine sqg (v := ?_) (a' := ?_) ?_ ?_ ?_ ?_); rotate_left 2; (focus rfl); (focus (intro w' hS; go_simp; (first | done | with_reducible rfl | rfl))); (simp only [Act.put, List.setIfInBounds_toArray, List.set_cons_zero, List.set_cons_succ]; rfl)))); (repeat (first | ((with_reducible refine sq (v := ?_) (a' := ?_) ?_ ?_ ?_); rotate_left 2; (focus (intro w' hS; go_simp; (first | done | with_reducible rfl | rfl))); (simp only [Act.put, List.setIfInBounds_toArray, List.set_cons_zero, List.set_cons_succ]; rfl)) | ((with_reducible refine sn (a' := ?_) ?_ ?_ ?_); rotate_left; (focus rfl); (simp only [Act.put, List.setIfInBounds_toArray, List.set_cons_zero, List.set_cons_succ]; rfl)) | ((with_reducible refine sf trivial (a' := ?_) ?_ ?_ ?_); rotate_left; (focus rfl); (simp only [Act.put, List.setIfInBounds_toArray, List.set_cons_zero, List.set_cons_succ]; rfl)) | ((with_reducible refine sqg (v := ?_) (a' := ?_) ?_ ?_ ?_ ?_); rotate_left 2; (focus rfl); (focus (intro w' hS; go_simp; (first | done | with_reducible rfl | rfl))); (simp only [Act.put, List.setIfInBounds_toArray, List.set_cons_zero, List.set_cons_succ]; rfl)))))); (try go_bits)
    first | ((with_reducible refine sc 11 #[.slice A r.length ca, .slice B m.length cb] ?_ ?_); (focus (first | rfl | (go_simp; done) | (go_simp; rfl)))) | ((with_reducible refine scg 11 #[.slice A r.length ca, .slice B m.length cb] ?_ ?_ ?_); (focus rfl); (focus (first | rfl | (go_simp; done) | (go_simp; rfl))))
    refine (sameBytes_m A B r.length m.length ca cb r m w4 rfl rfl (by omega) (by omega) (HA.out.2.below (B3.out.trans (below_weak B3.out.size B4.out))) (HB.out.2.below (B3.out.trans (below_weak B3.out.size B4.out)))).mono ?_
    rintro e w5 ⟨rfl, b5⟩
    have B5 := Lib.hid (show Below w3.heap.size w3 w5 from B4.out.trans (below_weak B4.out.size b5))
    refine ⟨_, rfl, B5.out, fun a' ha => ?_⟩
    clear b5
    simp only [Act.put, List.setIfInBounds_toArray, List.set_cons_zero, List.set_cons_succ] at ha
    subst ha
    (repeat (first | ((with_reducible refine sq (v := ?_) (a' := ?_) ?_ ?_ ?_); rotate_left 2; (focus (intro w' hS; go_simp; (first | done | with_reducible rfl | rfl))); (simp only [Act.put, List.setIfInBounds_toArray, List.set_cons_zero, List.set_cons_succ]; rfl)) | ((with_reducible refine sn (a' := ?_) ?_ ?_ ?_); rotate_left; (focus rfl); (simp only [Act.put, List.setIfInBounds_toArray, List.set_cons_zero, List.set_cons_succ]; rfl)) | ((with_reducible refine sf trivial (a' := ?_) ?_ ?_ ?_); rotate_left; (focus rfl); (simp only [Act.put, List.setIfInBounds_toArray, List.set_cons_zero, List.set_cons_succ]; rfl)) | ((with_reducible refine sqg (v := ?_) (a' := ?_) ?_ ?_ ?_ ?_); rotate_left 2; (focus rfl); (focus (intro w' hS; go_simp; (first | done | with_reducible rfl | rfl))); (simp only [Act.put, List.setIfInBounds_toArray, List.set_cons_zero, List.set_cons_succ]; rfl)))); (repeat ((go_bits; (first | ((with_reducible refine sq (v := ?_) (a' := ?_) ?_ ?_ ?_); rotate_left 2; (focus (intro w' hS; go_simp; (first | done | with_reducible rfl | rfl))); (simp only [Act.put, List.setIfInBounds_toArray, List.set_cons_zero, List.set_cons_succ]; rfl)) | ((with_reducible refine sn (a' := ?_) ?_ ?_ ?_); rotate_left; (focus rfl); (simp only [Act.put, List.setIfInBounds_toArray, List.set_cons_zero, List.set_cons_succ]; rfl)) | ((with_reducible refine sf trivial (a' := ?_) ?_ ?_ ?_); rotate_left; (focus rfl); (simp only [Act.put, List.setIfInBounds_toArray, List.set_cons_zero, List.set_cons_succ]; rfl)) | ((with_reducible refine sqg (v := ?_) (a' := ?_) ?_ ?_ ?_ ?_); rotate_left 2; (focus rfl); (focus (intro w' hS; go_simp; (first | done | with_reducible rfl | rfl))); (simp only [Act.put, List.setIfInBounds_toArray, List.set_cons_zero, List.set_cons_succ]; rfl)))); (repeat (first | ((with_reducible refine sq (v := ?_) (a' := ?_) ?_ ?_ ?_); rotate_left 2; (focus (intro w' hS; go_simp; (first | done | with_reducible rfl | rfl))); (simp only [Act.put, List.setIfInBounds_toArray, List.set_cons_zero, List.set_cons_succ]; rfl)) | ((with_reducible refine sn (a' := ?_) ?_ ?_ ?_); rotate_left; (focus rfl); (simp only [Act.put, List.setIfInBounds_toArray, List.set_cons_zero, List.set_cons_succ]; rfl)) | ((with_reducible refine sf trivial (a' := ?_) ?_ ?_ ?_); rotate_left; (focus rfl); (simp only [Act.put, List.setIfInBounds_toArray, List.set_cons_zero, List.set_cons_succ]; rfl)) | ((with_reducible refine sqg (v := ?_) (a' := ?_) ?_ ?_ ?_ ?_); rotate_left 2; (focus rfl); (focus (intro w' hS; go_simp; (first | done | with_reducible rfl | rfl))); (simp only [Act.put, List.setIfInBounds_toArray, List.set_cons_zero, List.set_cons_succ]; rfl)))))); (try go_bits)
    refine sl_end ?_
    go_wp2
    go_ret
    refine ⟨?_, B3.out.trans (below_weak B3.out.size B5.out)⟩
    show Ending.returned (.bool (decide ((put r).take L = (put m).take L) == decide (r = m))) = _
    by_cases he : r = m
    · subst he; simp
    · have h2 : ¬ (put r).take L = (put m).take L := fun h => he (put_inj r m (by omega) (by omega) L (by rw [← H2.out.2, ← H3.out.2.1]; exact HN.out.2.2.2) h)
      rw [decide_eq_false he, decide_eq_false h2]; rfl
theorem framesUnlike (A : Option Addr) (ca : Nat) (r : List Int) (B : Option Addr) (cb : Nat) (m : List Int) (w : World) (_ : r.length ≤ ca) (hr : r.length ≤ 140737488351232) (wr : ∀ n ∈ r, (Lit.int .u8 n).wf = true) (hrr : Rd .u8 w A r)
    (_ : m.length ≤ cb) (hm : m.length ≤ 140737488351232) (wm : ∀ n ∈ m, (Lit.int .u8 n).wf = true) (hrm : Rd .u8 w B m) :
    Calls Try.prog 6 #[.slice A r.length ca, .slice B m.length cb] w fun e w' => e = .returned (.bool true) ∧ Below w.heap.size w w' :=
  law A ca r B cb m w hr hm (fun x hx => by have := bounds_u8 (wr x hx); omega) (fun x hx => by have := bounds_u8 (wm x hx); omega) hrr hrm
end Go.Proofs.Ytifbmhlnkjcmhaa.LawFUnlike
