/- The twin of a list, and whether it was left as it was. -/
import Derived.Test.YticnjkdaccacaaaDoorProg
import Derived.Test.YticnjkdaccacaaaDoorOwn
import Derived.ProofKit
import Derived.OpenShut
import Derived.KernelRfl
import Derived.Lib.Hide
import Derived.Deep.LoopGhost
import Derived.Deep.QuietTactic
import Derived.BigQuiet
namespace Go.Proofs.YticnjkdaccacaaaDoor.TwinBytes
open Go.RowKit Base Own

/-- A row of the call's own with one number more behind it. -/
def Twn (w : World) (B : Nat) (v : Value) (l : List Int) : Prop :=
  ∃ g c, v = .slice (some ⟨g, 0, none⟩) l.length c ∧ OwnI .u8 w B 5 (.slice (some ⟨g, 0, none⟩) (l.length + 1) c) (l ++ [77])
theorem Twn.new {w w' : World} {B : Nat} {v : Value} {l : List Int} (h : Twn w B v l) (hb : Below w.heap.size w w') : Twn w' B v l := by
  obtain ⟨g, c, h1, h2⟩ := h
  exact ⟨g, c, h1, h2.new hb⟩
theorem Twn.lower {w : World} {B B' : Nat} {v : Value} {l : List Int} (h : Twn w B v l) (hB : B' ≤ B) : Twn w B' v l := by
  obtain ⟨g, c, h1, h2⟩ := h
  exact ⟨g, c, h1, h2.lower hB⟩
theorem Twn.reads {w : World} {B : Nat} {v : Value} {l : List Int} (h : Twn w B v l) : ∃ g c, v = .slice (some ⟨g, 0, none⟩) l.length c ∧ l.length < c ∧ B ≤ g ∧ g < w.heap.size ∧ Rd .u8 w (some ⟨g, 0, none⟩) l := by
  obtain ⟨g, c, h1, h2⟩ := h
  have h3 := h2.cell (j := l.length) (by simp)
  obtain ⟨A, c', e, _, _, hr, _⟩ := h2.slice
  injection e with e1 e2 e3
  subst e1
  have := hr.take l.length
  rw [List.take_left] at this
  exact ⟨g, c, h1, by omega, h3.2.2.1, h3.2.2.2.1, this⟩
theorem tyB : RowTy Tryd.prog 22 5 .u8 := ⟨Tryd.underlying22, 1, by decide, by kernel_rfl⟩
theorem info1 : (Tryd.prog.info? 5).map (·.size) = some 1 := by kernel_rfl
theorem mk0 (n : Nat) (hn : n ≤ 1000000000000) : ∀ W : World, (Instr.makeSlice 22 (.int .i64 0) (.int .i64 ((n : Int) + 1))).run Tryd.prog W = .ok (.slice (some ⟨W.heap.size, 0, none⟩) 0 (n + 1)) (W.alloc (.cells (madeCells #[.int .u8 0] (n + 1)) 5)) := by
  intro W
  obtain ⟨i, hi, hzz⟩ := Option.map_eq_some_iff.1 (show (Tryd.prog.info? 5).map (fun i => (i.zero, i.size, i.bytes)) = some (some (.int .u8 0), 1, 1) by kernel_rfl)
  simp only [Prod.mk.injEq] at hzz
  obtain ⟨hz0, hs, hby⟩ := hzz
  have h := run_make (P := Tryd.prog) W 22 5 i (.int .u8 0) Tryd.underlying22 hi hz0 .i64 .i64 0 ((n : Int) + 1) (by omega) (by omega) (by rw [hby]; omega) (by omega)
  rw [h, hs]
  simp only [Int.toNat_zero]
  have : ((n : Int) + 1).toNat = n + 1 := by omega
  rw [this, Nat.mul_one]
  rfl

set_option maxRecDepth 100000 in
theorem twin (A : Option Addr) (c : Nat) (l : List Int) (w : World) (hl : l.length ≤ 100000000000) (hr : Rd .u8 w A l) :
    Calls Tryd.prog 5 #[.slice A l.length c] w fun e w' => ∃ v, e = .returned v ∧ Twn w' w.heap.size v l ∧ Below w.heap.size w w' := by
  have HR := Lib.hid hr
  clear hr
  have hmk := mk0 l.length (by omega)
  go_enter Tryd.func5, Tryd.ntmps5
  go_wp2
  go_loopw [3, 4] (fun v i wr => ∃ k : Nat, k ≤ l.length ∧ i = .int .i64 k ∧ Hid (OwnI .u8 wr w.heap.size 5 v (l.take k)) ∧ Hid (Below w.heap.size w wr)) (fun _ i _ => l.length - (intOf i).toNat)
  case atStart =>
    refine ⟨0, by omega, rfl, ?_, (Below.refl _ _).alloc (Nat.le_refl _) _⟩
    exact World.ownsRow_made w _ (l.length + 1) (Nat.le_refl _) (by unfold maxLen; omega) (by rw [size_madeCells]; omega)
  case round =>
    clear hmk
    obtain ⟨k, hk, rfl, hown, hbd⟩ := hrel
    by_cases hlt : k < l.length
    · obtain ⟨ad, e, hb, hcell⟩ := (HR.out.below hbd.out).cell hlt
      subst e
      obtain ⟨y, hy⟩ : ∃ y, y = l.getD k 0 := ⟨_, rfl⟩
      rw [← hy] at hcell
      have HY := Lib.hid hy
      clear hy
      go_wp2_with (at_builtin; refine ap_lit rfl tyB hbd.out hown.out [y] rfl (by simp; omega) (.tmp 15) _ 1 1 rfl rfl rfl rfl ?_; clear hown hbd hcell hb; intro v2 w2 own2 bd2 _ _; have H2 := Lib.hid (And.intro own2 bd2); clear own2 bd2)
      go_roundw
      case rel =>
        refine ⟨k + 1, by omega, by go_num, ?_, H2.out.2⟩
        have h1 := H2.out.1
        rw [HY.out] at h1
        have : l.take (k + 1) = l.take k ++ [l.getD k 0] := by rw [List.take_succ_eq_append_getElem hlt, List.getD_eq_getElem?_getD, List.getElem?_eq_getElem hlt]; rfl
        rw [this]
        exact h1
      case measure => simp [intOf]; omega
    · obtain rfl : k = l.length := by omega
      have hown' := hown.out
      rw [List.take_length] at hown'
      have HO := Lib.hid hown'
      clear hown hown'
      go_wp2_with (at_builtin; refine ap_lit rfl tyB hbd.out HO.out [77] rfl (by simp; omega) (.tmp 22) _ 1 1 rfl rfl rfl rfl ?_; clear HO hbd; intro v2 w2 own2 bd2 _ _; obtain ⟨g, cc, rfl⟩ := own2.ptr (by simp); have hcc := (own2.cell (j := l.length) (by simp)).2.2.2.2.2; have hcc' : l.length ≤ cc := Nat.le_trans (by rw [List.length_append]; exact Nat.le_add_right _ _) hcc; have hsl := sl_take (P := Tryd.prog) 22 5 .i64 Tryd.underlying22 info1 (some ⟨g, 0, none⟩) (l ++ [77]).length cc l.length hcc'; have H2 := Lib.hid (And.intro own2 bd2); clear own2 bd2 hcc)
      go_ret
      refine ⟨_, rfl, ⟨g, cc, rfl, ?_⟩, H2.out.2⟩
      have h1 := H2.out.1
      have h2 : (l ++ [77]).length = l.length + 1 := by simp
      rwa [h2] at h1

set_option maxRecDepth 100000 in
theorem left (v : Value) (A : Option Addr) (c B : Nat) (l : List Int) (w : World) (hl : l.length ≤ 100000000000) (ht : Twn w B v l) (hr : Rd .u8 w A l) :
    Calls Tryd.prog 9 #[v, .slice A l.length c] w fun e w' => e = .returned (.bool true) ∧ Below w.heap.size w w' := by
  obtain ⟨g, cc, rfl, hown⟩ := ht
  have hcc0 := (hown.cell (j := l.length) (by simp)).2.2.2.2.2
  have hcc : l.length < cc := hcc0
  clear hcc0
  have hne : ((l.length : Int) != (l.length : Int)) = false := by rw [bne_eq_false_iff_eq]
  have hle : ¬ (cc : Int) ≤ (l.length : Int) := by omega
  have HR := Lib.hid hr
  have HO := Lib.hid hown
  clear hr hown
  go_enter Tryd.func9, Tryd.ntmps9
  go_wp2
  go_loopw [5] (fun i wr => ∃ k : Nat, k ≤ l.length ∧ i = .int .i64 k ∧ Hid (Below w.heap.size w wr)) (fun i _ => l.length - (intOf i).toNat)
  case atStart => exact ⟨0, by omega, rfl, Below.refl _ _⟩
  case round =>
    obtain ⟨k, hk, rfl, hbd⟩ := hrel
    have hown2 := HO.out.new hbd.out
    by_cases hlt : k < l.length
    · obtain ⟨ad, e, hb, hcell⟩ := (HR.out.below hbd.out).cell hlt
      subst e
      have hcell2 := (hown2.cell (j := k) (by simp; omega)).1
      have hk2 : (l ++ [77]).getD k 0 = l.getD k 0 := by rw [List.getD_eq_getElem?_getD, List.getD_eq_getElem?_getD, List.getElem?_append_left hlt]
      rw [hk2] at hcell2
      generalize l.getD k 0 = y at hcell hcell2
      clear hk2
      have HO2 := Lib.hid hown2
      have HC := Lib.hid (And.intro hcell hcell2)
      clear hown2 hcell hcell2 hb
      have ha : (⟨g, 0, none⟩ : Addr).add k = ⟨g, k, none⟩ := by unfold Addr.add; split <;> simp_all
      go_wp2_with fail
      refine wp_region_sl [.one (0, true, some 25), .one (1, true, some 26), .one (2, true, some 27), .one (3, true, some 28), .one (4, true, some 29), .one (5, true, some 30), .one (6, true, some 31), .one (7, true, some 32), .one (8, true, some 33)]
                [.one ⟨true, some 25, (Go.Op.move (Go.Operand.tmp 0)), 22, none⟩,
                .one ⟨true, some 26, (Go.Op.move (Go.Operand.tmp 5)), 3, none⟩,
                .one ⟨true, some 27, (Go.Op.indexAddr 22 (Go.Operand.tmp 25) (Go.Operand.tmp 26)), 0, none⟩,
                .one ⟨true, some 28, (Go.Op.load 5 (Go.Operand.tmp 27)), 5, none⟩,
                .one ⟨true, some 29, (Go.Op.move (Go.Operand.tmp 1)), 22, none⟩,
                .one ⟨true, some 30, (Go.Op.move (Go.Operand.tmp 5)), 3, none⟩,
                .one ⟨true, some 31, (Go.Op.indexAddr 22 (Go.Operand.tmp 29) (Go.Operand.tmp 30)), 0, none⟩,
                .one ⟨true, some 32, (Go.Op.load 5 (Go.Operand.tmp 31)), 5, none⟩,
                .one ⟨true, some 33, (Go.Op.binOp Go.BinOp.neq 5 (Go.Operand.tmp 28) (Go.Operand.tmp 32) 5), 4, none⟩]
                (fun w' => w'.cell? (ad.add k) = some (.int .u8 y) ∧ w'.cell? ⟨g, k, none⟩ = some (.int .u8 y)) rfl (by kernel_rfl) (by kernel_rfl) ?_ ?_
      · exact HC.out
      (repeat (first | ((with_reducible refine sq (v := ?_) (a' := ?_) ?_ ?_ ?_); rotate_left 2; (focus (intro w' hS; go_simp; (first | done | with_reducible rfl | rfl))); (simp only [Act.put, List.setIfInBounds_toArray, List.set_cons_zero, List.set_cons_succ]; rfl)) | ((with_reducible refine sn (a' := ?_) ?_ ?_ ?_); rotate_left; (focus rfl); (simp only [Act.put, List.setIfInBounds_toArray, List.set_cons_zero, List.set_cons_succ]; rfl)) | ((with_reducible refine sf trivial (a' := ?_) ?_ ?_ ?_); rotate_left; (focus rfl); (simp only [Act.put, List.setIfInBounds_toArray, List.set_cons_zero, List.set_cons_succ]; rfl)) | ((with_reducible refine sqg (v := ?_) (a' := ?_) ?_ ?_ ?_ ?_); rotate_left 2; (focus rfl); (focus (intro w' hS; go_simp; (first | done | with_reducible rfl | rfl))); (simp only [Act.put, List.setIfInBounds_toArray, List.set_cons_zero, List.set_cons_succ]; rfl)))); (repeat ((go_bits; (first | ((with_reducible refine sq (v := ?_) (a' := ?_) ?_ ?_ ?_); rotate_left 2; (focus (intro w' hS; go_simp; (first | done | with_reducible rfl | rfl))); (simp only [Act.put, List.setIfInBounds_toArray, List.set_cons_zero, List.set_cons_succ]; rfl)) | ((with_reducible refine sn (a' := ?_) ?_ ?_ ?_); rotate_left; (focus rfl); (simp only [Act.put, List.setIfInBounds_toArray, List.set_cons_zero, List.set_cons_succ]; rfl)) | ((with_reducible refine sf trivial (a' := ?_) ?_ ?_ ?_); rotate_left; (focus rfl); (simp only [Act.put, List.setIfInBounds_toArray, List.set_cons_zero, List.set_cons_succ]; rfl)) | ((with_reducible refine sqg (v := ?_) (a' := ?_) ?_ ?_ ?_ ?_); rotate_left 2; (focus rfl); (focus (intro w' hS; go_simp; (first | done | with_reducible rfl | rfl))); (simp only [Act.put, List.setIfInBounds_toArray, List.set_cons_zero, List.set_cons_succ]; rfl)))); (repeat (first | ((with_reducible refine sq (v := ?_) (a' := ?_) ?_ ?_ ?_); rotate_left 2; (focus (intro w' hS; go_simp; (first | done | with_reducible rfl | rfl))); (simp only [Act.put, List.setIfInBounds_toArray, List.set_cons_zero, List.set_cons_succ]; rfl)) | ((with_reducible refine sn (a' := ?_) ?_ ?_ ?_); rotate_left; (focus rfl); (simp only [Act.put, List.setIfInBounds_toArray, List.set_cons_zero, List.set_cons_succ]; rfl)) | ((with_reducible refine sf trivial (a' := ?_) ?_ ?_ ?_); rotate_left; (focus rfl); (simp only [Act.put, List.setIfInBounds_toArray, List.set_cons_zero, List.set_cons_succ]; rfl)) | ((with_reducible refine sqg (v := ?_) (a' := ?_) ?_ ?_ ?_ ?_); rotate_left 2; (focus rfl); (focus (intro w' hS; go_simp; (first | done | with_reducible rfl | rfl))); (simp only [Act.put, List.setIfInBounds_toArray, List.set_cons_zero, List.set_cons_succ]; rfl)))))); (try go_bits)
      refine sl_end ?_
      go_wp2
      go_roundw
      case rel => exact ⟨k + 1, by omega, by go_num, hbd.out.drew⟩
      case measure => simp [intOf]; omega
    · obtain rfl : k = l.length := by omega
      have hcell := (hown2.cell (j := l.length) (by simp)).1
      have h77 : (l ++ [77]).getD l.length 0 = 77 := by rw [List.getD_eq_getElem?_getD, List.getElem?_append_right (Nat.le_refl _)]; simp
      rw [h77] at hcell
      clear hown2 h77
      have hsl := sl_take (P := Tryd.prog) 22 5 .i64 Tryd.underlying22 info1 (some ⟨g, 0, none⟩) l.length cc (l.length + 1) (by omega)
      rw [show ((l.length + 1 : Nat) : Int) = (l.length : Int) + 1 from by omega] at hsl
      have ha : (⟨g, 0, none⟩ : Addr).add l.length = ⟨g, l.length, none⟩ := by unfold Addr.add; split <;> simp_all
      go_wp2
      go_ret
      exact ⟨rfl, hbd.out⟩
end Go.Proofs.YticnjkdaccacaaaDoor.TwinBytes
