/- Texts of this work, one behind the other. -/
import Derived.Test.YticnjkdaccacaaaGreatDoorVWallsPlay1
import Derived.Lib.SliceRun
import Derived.Laws.BytesArg
section
namespace Go.Proofs.YticnjkdaccacaaaGreatDoor.Frames
open Go.RowKit Crc Sums Base _root_.Go.Proofs.YticnjkdaccacaaaGreatDoor.Own
def byte (n : Int) (k : Nat) : Int := n / (2 : Int) ^ (8 * (3 - k)) % 256
theorem byte0 (n : Int) : byte n 0 = n.fdiv 16777216 % 256 := by unfold byte; rw [Int.fdiv_eq_ediv_of_nonneg _ (by decide)]; rfl
theorem byte1 (n : Int) : byte n 1 = n.fdiv 65536 % 256 := by unfold byte; rw [Int.fdiv_eq_ediv_of_nonneg _ (by decide)]; rfl
theorem byte2 (n : Int) : byte n 2 = n.fdiv 256 % 256 := by unfold byte; rw [Int.fdiv_eq_ediv_of_nonneg _ (by decide)]; rfl
theorem byte3 (n : Int) : byte n 3 = n % 256 := by unfold byte; simp
def head (n : Int) : List Int := [byte n 0, byte n 1, byte n 2, byte n 3]
def told (l : List Int) (at' : Nat) (n : Int) : Nat → List Int
  | 0 => l
  | k + 1 => (told l at' n k).set (at' + k) (byte n k)
theorem told_length (l : List Int) (a : Nat) (n : Int) (k : Nat) : (told l a n k).length = l.length := by
  induction k with
  | zero => rfl
  | succ k ih => rw [told, List.length_set, ih]
set_option maxRecDepth 100000 in
theorem tell (a : Nat) (n : Int) (g g2 c B : Nat) (l : List Int) (w : World) (ha : a + 4 ≤ l.length) (ha2 : l.length ≤ 100000) (hn : 0 ≤ n ∧ n < 4294967296) (hgg : g2 ≠ g) (ho : OwnI .u8 w B 5 (.slice (some ⟨g, 0, none⟩) l.length c) l)
    (hv : w.cell? ⟨g2, 0, none⟩ = some (.slice (some ⟨g, 0, none⟩) l.length c)) :
    Calls Tryz.prog 212 #[.int .i64 a, .int .u32 n, .pointer (some ⟨g2, 0, none⟩)] w fun e w' => e = .returned (.tuple #[]) ∧ OwnI .u8 w' B 5 (.slice (some ⟨g, 0, none⟩) l.length c) (told l a n 4) ∧ Chg (fun k => k = g) w w' := by
  go_enter Tryz.func212, Tryz.ntmps212
  go_wp2
  have HO := Lib.hid ho
  clear ho
  have hvc : ∀ W, Chg (fun k => k = g) w W → W.cell? ⟨g2, 0, none⟩ = some (.slice (some ⟨g, 0, none⟩) l.length c) := by
    intro W hc
    rw [World.cell?_of_block (w := w) (hc.block _ (World.block_lt_of_cell? w _ hv) hgg)]
    exact hv
  have HV := Lib.hid hvc
  clear hv hvc
  go_loopw [6] (fun i wr => ∃ k : Nat, k ≤ 4 ∧ i = .int .i64 k ∧ Hid (OwnI .u8 wr B 5 (.slice (some ⟨g, 0, none⟩) l.length c) (told l a n k)) ∧ Hid (Chg (fun k => k = g) w wr)) (fun i _ => 4 - (intOf i).toNat)
  case atStart => exact ⟨0, by omega, rfl, HO.out, ⟨rfl, rfl, rfl, Nat.le_refl _, fun _ _ _ => rfl⟩⟩
  case round =>
    obtain ⟨k, hk, rfl, hown, hch⟩ := hrel
    by_cases hlt : k < 4
    · have hlen := told_length l a n k
      have hj : a + k < (told l a n k).length := by omega
      obtain ⟨hce, hfr, hgB, hgs, hz, hncc⟩ := hown.out.cell hj
      clear hz hlen
      have hk1 : a + k < l.length := by omega
      have HJ := Lib.hid hj
      clear hj
      have hkk : (k : Int) < 4 := by omega
      have hcv := HV.out wr hch.out
      go_wp2
      refine wp_region_sl [.one (0, true, some 9), .one (1, true, some 10), .one (2, true, some 11), .one (3, true, some 12), .one (4, true, some 13), .one (5, true, some 14), .one (6, true, some 15), .one (7, true, some 16), .one (8, true, some 17), .one (9, true, some 18), .one (10, true, some 19), .one (11, false, none)]
                [.one ⟨true, some 9, (Go.Op.load 45 (Go.Operand.tmp 2)), 45, none⟩,
                .one ⟨true, some 10, (Go.Op.move (Go.Operand.tmp 0)), 3, none⟩,
                .one ⟨true, some 11, (Go.Op.move (Go.Operand.tmp 5)), 3, none⟩,
                .one ⟨true, some 12, (Go.Op.binOp Go.BinOp.add 3 (Go.Operand.tmp 10) (Go.Operand.tmp 11) 3), 3, none⟩,
                .one ⟨true, some 13, (Go.Op.move (Go.Operand.tmp 1)), 86, none⟩,
                .one ⟨true, some 14, (Go.Op.move (Go.Operand.tmp 5)), 3, none⟩,
                .one ⟨true, some 15, (Go.Op.binOp Go.BinOp.sub 3 (Go.Operand.const (Go.Value.int Go.IntKind.i64 3)) (Go.Operand.tmp 14) 3), 3, none⟩,
                .one ⟨true, some 16, (Go.Op.binOp Go.BinOp.mul 3 (Go.Operand.const (Go.Value.int Go.IntKind.i64 8)) (Go.Operand.tmp 15) 3), 3, none⟩,
                .one ⟨true, some 17, (Go.Op.binOp Go.BinOp.shr 86 (Go.Operand.tmp 13) (Go.Operand.tmp 16) 3), 86, none⟩,
                .one ⟨true, some 18, (Go.Op.convert 86 5 (Go.Operand.tmp 17)), 5, none⟩,
                .one ⟨true, some 19, (Go.Op.indexAddr 45 (Go.Operand.tmp 9) (Go.Operand.tmp 12)), 0, none⟩,
                .one ⟨false, none, (Go.Op.store 5 (Go.Operand.tmp 19) (Go.Operand.tmp 18)), 0, none⟩]
                (fun w' => w'.cell? ⟨g2, 0, none⟩ = some (.slice (some ⟨g, 0, none⟩) l.length c)) rfl (by kernel_rfl) (by kernel_rfl) ?_ ?_
      · exact hcv
      rcases (show k = 0 ∨ k = 1 ∨ k = 2 ∨ k = 3 by omega) with rfl | rfl | rfl | rfl
      · have h1 : (a : Int) < l.length := by omega
        simp only [Nat.add_zero] at hce hfr
        (repeat (first | ((with_reducible refine sq (v := ?_) (a' := ?_) ?_ ?_ ?_); rotate_left 2; (focus (intro w' hS; go_simp; (first | done | with_reducible rfl | rfl))); (simp only [Act.put, List.setIfInBounds_toArray, List.set_cons_zero, List.set_cons_succ]; rfl)) | ((with_reducible refine sn (a' := ?_) ?_ ?_ ?_); rotate_left; (focus rfl); (simp only [Act.put, List.setIfInBounds_toArray, List.set_cons_zero, List.set_cons_succ]; rfl)) | ((with_reducible refine sf trivial (a' := ?_) ?_ ?_ ?_); rotate_left; (focus rfl); (simp only [Act.put, List.setIfInBounds_toArray, List.set_cons_zero, List.set_cons_succ]; rfl)) | ((with_reducible refine sqg (v := ?_) (a' := ?_) ?_ ?_ ?_ ?_); rotate_left 2; (focus rfl); (focus (intro w' hS; go_simp; (first | done | with_reducible rfl | rfl))); (simp only [Act.put, List.setIfInBounds_toArray, List.set_cons_zero, List.set_cons_succ]; rfl)))); (repeat ((go_bits; (first | ((with_reducible refine sq (v := ?_) (a' := ?_) ?_ ?_ ?_); rotate_left 2; (focus (intro w' hS; go_simp; (first | done | with_reducible rfl | rfl))); (simp only [Act.put, List.setIfInBounds_toArray, List.set_cons_zero, List.set_cons_succ]; rfl)) | ((with_reducible refine sn (a' := ?_) ?_ ?_ ?_); rotate_left; (focus rfl); (simp only [Act.put, List.setIfInBounds_toArray, List.set_cons_zero, List.set_cons_succ]; rfl)) | ((with_reducible refine sf trivial (a' := ?_) ?_ ?_ ?_); rotate_left; (focus rfl); (simp only [Act.put, List.setIfInBounds_toArray, List.set_cons_zero, List.set_cons_succ]; rfl)) | ((with_reducible refine sqg (v := ?_) (a' := ?_) ?_ ?_ ?_ ?_); rotate_left 2; (focus rfl); (focus (intro w' hS; go_simp; (first | done | with_reducible rfl | rfl))); (simp only [Act.put, List.setIfInBounds_toArray, List.set_cons_zero, List.set_cons_succ]; rfl)))); (repeat (first | ((with_reducible refine sq (v := ?_) (a' := ?_) ?_ ?_ ?_); rotate_left 2; (focus (intro w' hS; go_simp; (first | done | with_reducible rfl | rfl))); (simp only [Act.put, List.setIfInBounds_toArray, List.set_cons_zero, List.set_cons_succ]; rfl)) | ((with_reducible refine sn (a' := ?_) ?_ ?_ ?_); rotate_left; (focus rfl); (simp only [Act.put, List.setIfInBounds_toArray, List.set_cons_zero, List.set_cons_succ]; rfl)) | ((with_reducible refine sf trivial (a' := ?_) ?_ ?_ ?_); rotate_left; (focus rfl); (simp only [Act.put, List.setIfInBounds_toArray, List.set_cons_zero, List.set_cons_succ]; rfl)) | ((with_reducible refine sqg (v := ?_) (a' := ?_) ?_ ?_ ?_ ?_); rotate_left 2; (focus rfl); (focus (intro w' hS; go_simp; (first | done | with_reducible rfl | rfl))); (simp only [Act.put, List.setIfInBounds_toArray, List.set_cons_zero, List.set_cons_succ]; rfl)))))); (try go_bits)
        refine se fun K hK => ?_
        go_simp
        refine hK _ _ (HV.out _ ((hch.out.trans (Chg.setCell _ _ _) (fun _ _ h => h)).trans (Chg.drew _) (fun _ _ h => h.elim))) ?_
        refine sl_end ?_
        go_wp2
        go_roundw
        case rel =>
          refine ⟨1, by omega, rfl, ?_, ?_⟩
          · have hs := hown.out.set (x := byte n 0) HJ.out
            rw [← byte0 n]
            exact hs.kept (Chg.drew _) (fun _ _ h => h)
          · exact (hch.out.trans (Chg.setCell _ _ _) (fun _ _ h => h)).trans (Chg.drew _) (fun _ _ h => h.elim)
        case measure => simp [intOf]
      · have h1 : (a : Int) + 1 < l.length := by omega
        have h2 : 0 ≤ (a : Int) + 1 := by omega
        have h3 : ((a : Int) + 1).toNat = a + 1 := by omega
        (repeat (first | ((with_reducible refine sq (v := ?_) (a' := ?_) ?_ ?_ ?_); rotate_left 2; (focus (intro w' hS; go_simp; (first | done | with_reducible rfl | rfl))); (simp only [Act.put, List.setIfInBounds_toArray, List.set_cons_zero, List.set_cons_succ]; rfl)) | ((with_reducible refine sn (a' := ?_) ?_ ?_ ?_); rotate_left; (focus rfl); (simp only [Act.put, List.setIfInBounds_toArray, List.set_cons_zero, List.set_cons_succ]; rfl)) | ((with_reducible refine sf trivial (a' := ?_) ?_ ?_ ?_); rotate_left; (focus rfl); (simp only [Act.put, List.setIfInBounds_toArray, List.set_cons_zero, List.set_cons_succ]; rfl)) | ((with_reducible refine sqg (v := ?_) (a' := ?_) ?_ ?_ ?_ ?_); rotate_left 2; (focus rfl); (focus (intro w' hS; go_simp; (first | done | with_reducible rfl | rfl))); (simp only [Act.put, List.setIfInBounds_toArray, List.set_cons_zero, List.set_cons_succ]; rfl)))); (repeat ((go_bits; (first | ((with_reducible refine sq (v := ?_) (a' := ?_) ?_ ?_ ?_); rotate_left 2; (focus (intro w' hS; go_simp; (first | done | with_reducible rfl | rfl))); (simp only [Act.put, List.setIfInBounds_toArray, List.set_cons_zero, List.set_cons_succ]; rfl)) | ((with_reducible refine sn (a' := ?_) ?_ ?_ ?_); rotate_left; (focus rfl); (simp only [Act.put, List.setIfInBounds_toArray, List.set_cons_zero, List.set_cons_succ]; rfl)) | ((with_reducible refine sf trivial (a' := ?_) ?_ ?_ ?_); rotate_left; (focus rfl); (simp only [Act.put, List.setIfInBounds_toArray, List.set_cons_zero, List.set_cons_succ]; rfl)) | ((with_reducible refine sqg (v := ?_) (a' := ?_) ?_ ?_ ?_ ?_); rotate_left 2; (focus rfl); (focus (intro w' hS; go_simp; (first | done | with_reducible rfl | rfl))); (simp only [Act.put, List.setIfInBounds_toArray, List.set_cons_zero, List.set_cons_succ]; rfl)))); (repeat (first | ((with_reducible refine sq (v := ?_) (a' := ?_) ?_ ?_ ?_); rotate_left 2; (focus (intro w' hS; go_simp; (first | done | with_reducible rfl | rfl))); (simp only [Act.put, List.setIfInBounds_toArray, List.set_cons_zero, List.set_cons_succ]; rfl)) | ((with_reducible refine sn (a' := ?_) ?_ ?_ ?_); rotate_left; (focus rfl); (simp only [Act.put, List.setIfInBounds_toArray, List.set_cons_zero, List.set_cons_succ]; rfl)) | ((with_reducible refine sf trivial (a' := ?_) ?_ ?_ ?_); rotate_left; (focus rfl); (simp only [Act.put, List.setIfInBounds_toArray, List.set_cons_zero, List.set_cons_succ]; rfl)) | ((with_reducible refine sqg (v := ?_) (a' := ?_) ?_ ?_ ?_ ?_); rotate_left 2; (focus rfl); (focus (intro w' hS; go_simp; (first | done | with_reducible rfl | rfl))); (simp only [Act.put, List.setIfInBounds_toArray, List.set_cons_zero, List.set_cons_succ]; rfl)))))); (try go_bits)
        refine se fun K hK => ?_
        go_simp
        refine hK _ _ (HV.out _ ((hch.out.trans (Chg.setCell _ _ _) (fun _ _ h => h)).trans (Chg.drew _) (fun _ _ h => h.elim))) ?_
        refine sl_end ?_
        go_wp2
        go_roundw
        case rel =>
          refine ⟨2, by omega, rfl, ?_, ?_⟩
          · have hs := hown.out.set (x := byte n 1) HJ.out
            rw [← byte1 n]
            exact hs.kept (Chg.drew _) (fun _ _ h => h)
          · exact (hch.out.trans (Chg.setCell _ _ _) (fun _ _ h => h)).trans (Chg.drew _) (fun _ _ h => h.elim)
        case measure => simp [intOf]
      · have h1 : (a : Int) + 2 < l.length := by omega
        have h2 : 0 ≤ (a : Int) + 2 := by omega
        have h3 : ((a : Int) + 2).toNat = a + 2 := by omega
        (repeat (first | ((with_reducible refine sq (v := ?_) (a' := ?_) ?_ ?_ ?_); rotate_left 2; (focus (intro w' hS; go_simp; (first | done | with_reducible rfl | rfl))); (simp only [Act.put, List.setIfInBounds_toArray, List.set_cons_zero, List.set_cons_succ]; rfl)) | ((with_reducible refine sn (a' := ?_) ?_ ?_ ?_); rotate_left; (focus rfl); (simp only [Act.put, List.setIfInBounds_toArray, List.set_cons_zero, List.set_cons_succ]; rfl)) | ((with_reducible refine sf trivial (a' := ?_) ?_ ?_ ?_); rotate_left; (focus rfl); (simp only [Act.put, List.setIfInBounds_toArray, List.set_cons_zero, List.set_cons_succ]; rfl)) | ((with_reducible refine sqg (v := ?_) (a' := ?_) ?_ ?_ ?_ ?_); rotate_left 2; (focus rfl); (focus (intro w' hS; go_simp; (first | done | with_reducible rfl | rfl))); (simp only [Act.put, List.setIfInBounds_toArray, List.set_cons_zero, List.set_cons_succ]; rfl)))); (repeat ((go_bits; (first | ((with_reducible refine sq (v := ?_) (a' := ?_) ?_ ?_ ?_); rotate_left 2; (focus (intro w' hS; go_simp; (first | done | with_reducible rfl | rfl))); (simp only [Act.put, List.setIfInBounds_toArray, List.set_cons_zero, List.set_cons_succ]; rfl)) | ((with_reducible refine sn (a' := ?_) ?_ ?_ ?_); rotate_left; (focus rfl); (simp only [Act.put, List.setIfInBounds_toArray, List.set_cons_zero, List.set_cons_succ]; rfl)) | ((with_reducible refine sf trivial (a' := ?_) ?_ ?_ ?_); rotate_left; (focus rfl); (simp only [Act.put, List.setIfInBounds_toArray, List.set_cons_zero, List.set_cons_succ]; rfl)) | ((with_reducible refine sqg (v := ?_) (a' := ?_) ?_ ?_ ?_ ?_); rotate_left 2; (focus rfl); (focus (intro w' hS; go_simp; (first | done | with_reducible rfl | rfl))); (simp only [Act.put, List.setIfInBounds_toArray, List.set_cons_zero, List.set_cons_succ]; rfl)))); (repeat (first | ((with_reducible refine sq (v := ?_) (a' := ?_) ?_ ?_ ?_); rotate_left 2; (focus (intro w' hS; go_simp; (first | done | with_reducible rfl | rfl))); (simp only [Act.put, List.setIfInBounds_toArray, List.set_cons_zero, List.set_cons_succ]; rfl)) | ((with_reducible refine sn (a' := ?_) ?_ ?_ ?_); rotate_left; (focus rfl); (simp only [Act.put, List.setIfInBounds_toArray, List.set_cons_zero, List.set_cons_succ]; rfl)) | ((with_reducible refine sf trivial (a' := ?_) ?_ ?_ ?_); rotate_left; (focus rfl); (simp only [Act.put, List.setIfInBounds_toArray, List.set_cons_zero, List.set_cons_succ]; rfl)) | ((with_reducible refine sqg (v := ?_) (a' := ?_) ?_ ?_ ?_ ?_); rotate_left 2; (focus rfl); (focus (intro w' hS; go_simp; (first | done | with_reducible rfl | rfl))); (simp only [Act.put, List.setIfInBounds_toArray, List.set_cons_zero, List.set_cons_succ]; rfl)))))); (try go_bits)
        refine se fun K hK => ?_
        go_simp
        refine hK _ _ (HV.out _ ((hch.out.trans (Chg.setCell _ _ _) (fun _ _ h => h)).trans (Chg.drew _) (fun _ _ h => h.elim))) ?_
        refine sl_end ?_
        go_wp2
        go_roundw
        case rel =>
          refine ⟨3, by omega, rfl, ?_, ?_⟩
          · have hs := hown.out.set (x := byte n 2) HJ.out
            rw [← byte2 n]
            exact hs.kept (Chg.drew _) (fun _ _ h => h)
          · exact (hch.out.trans (Chg.setCell _ _ _) (fun _ _ h => h)).trans (Chg.drew _) (fun _ _ h => h.elim)
        case measure => simp [intOf]
      · have h1 : (a : Int) + 3 < l.length := by omega
        have h2 : 0 ≤ (a : Int) + 3 := by omega
        have h3 : ((a : Int) + 3).toNat = a + 3 := by omega
        (repeat (first | ((with_reducible refine sq (v := ?_) (a' := ?_) ?_ ?_ ?_); rotate_left 2; (focus (intro w' hS; go_simp; (first | done | with_reducible rfl | rfl))); (simp only [Act.put, List.setIfInBounds_toArray, List.set_cons_zero, List.set_cons_succ]; rfl)) | ((with_reducible refine sn (a' := ?_) ?_ ?_ ?_); rotate_left; (focus rfl); (simp only [Act.put, List.setIfInBounds_toArray, List.set_cons_zero, List.set_cons_succ]; rfl)) | ((with_reducible refine sf trivial (a' := ?_) ?_ ?_ ?_); rotate_left; (focus rfl); (simp only [Act.put, List.setIfInBounds_toArray, List.set_cons_zero, List.set_cons_succ]; rfl)) | ((with_reducible refine sqg (v := ?_) (a' := ?_) ?_ ?_ ?_ ?_); rotate_left 2; (focus rfl); (focus (intro w' hS; go_simp; (first | done | with_reducible rfl | rfl))); (simp only [Act.put, List.setIfInBounds_toArray, List.set_cons_zero, List.set_cons_succ]; rfl)))); (repeat ((go_bits; (first | ((with_reducible refine sq (v := ?_) (a' := ?_) ?_ ?_ ?_); rotate_left 2; (focus (intro w' hS; go_simp; (first | done | with_reducible rfl | rfl))); (simp only [Act.put, List.setIfInBounds_toArray, List.set_cons_zero, List.set_cons_succ]; rfl)) | ((with_reducible refine sn (a' := ?_) ?_ ?_ ?_); rotate_left; (focus rfl); (simp only [Act.put, List.setIfInBounds_toArray, List.set_cons_zero, List.set_cons_succ]; rfl)) | ((with_reducible refine sf trivial (a' := ?_) ?_ ?_ ?_); rotate_left; (focus rfl); (simp only [Act.put, List.setIfInBounds_toArray, List.set_cons_zero, List.set_cons_succ]; rfl)) | ((with_reducible refine sqg (v := ?_) (a' := ?_) ?_ ?_ ?_ ?_); rotate_left 2; (focus rfl); (focus (intro w' hS; go_simp; (first | done | with_reducible rfl | rfl))); (simp only [Act.put, List.setIfInBounds_toArray, List.set_cons_zero, List.set_cons_succ]; rfl)))); (repeat (first | ((with_reducible refine sq (v := ?_) (a' := ?_) ?_ ?_ ?_); rotate_left 2; (focus (intro w' hS; go_simp; (first | done | with_reducible rfl | rfl))); (simp only [Act.put, List.setIfInBounds_toArray, List.set_cons_zero, List.set_cons_succ]; rfl)) | ((with_reducible refine sn (a' := ?_) ?_ ?_ ?_); rotate_left; (focus rfl); (simp only [Act.put, List.setIfInBounds_toArray, List.set_cons_zero, List.set_cons_succ]; rfl)) | ((with_reducible refine sf trivial (a' := ?_) ?_ ?_ ?_); rotate_left; (focus rfl); (simp only [Act.put, List.setIfInBounds_toArray, List.set_cons_zero, List.set_cons_succ]; rfl)) | ((with_reducible refine sqg (v := ?_) (a' := ?_) ?_ ?_ ?_ ?_); rotate_left 2; (focus rfl); (focus (intro w' hS; go_simp; (first | done | with_reducible rfl | rfl))); (simp only [Act.put, List.setIfInBounds_toArray, List.set_cons_zero, List.set_cons_succ]; rfl)))))); (try go_bits)
        refine se fun K hK => ?_
        go_simp
        refine hK _ _ (HV.out _ ((hch.out.trans (Chg.setCell _ _ _) (fun _ _ h => h)).trans (Chg.drew _) (fun _ _ h => h.elim))) ?_
        refine sl_end ?_
        go_wp2
        go_roundw
        case rel =>
          refine ⟨4, by omega, rfl, ?_, ?_⟩
          · have hs := hown.out.set (x := byte n 3) HJ.out
            rw [← byte3 n]
            exact hs.kept (Chg.drew _) (fun _ _ h => h)
          · exact (hch.out.trans (Chg.setCell _ _ _) (fun _ _ h => h)).trans (Chg.drew _) (fun _ _ h => h.elim)
        case measure => simp [intOf]
    · obtain rfl : k = 4 := by omega
      go_wp2
      go_end0
      exact ⟨rfl, hown.out, hch.out⟩
def nsec (n : Nat) : Nat := (n + 71) / 64
theorem sectors (n : Nat) (hn : n ≤ 1000000000) (w : World) : Calls Tryz.prog 211 #[.int .i64 n] w fun e w' => e = .returned (.int .i64 (nsec n)) ∧ w' = w := by
  go_enter Tryz.func211, Tryz.ntmps211
  go_wp2
  go_ret
  refine ⟨?_, rfl⟩
  show Ending.returned (.int .i64 ((8 + (n : Int) + 64 - 1) / 64)) = _
  have : (8 + (n : Int) + 64 - 1) / 64 = (nsec n : Int) := by unfold nsec; omega
  rw [this]
theorem mk (M : Nat) (x : Int) (hx : x = M) (hn : M ≤ 1000000000000) : ∀ W : World, (Instr.makeSlice 45 (.int .i64 x) (.int .i64 x)).run Tryz.prog W = .ok (.slice (some ⟨W.heap.size, 0, none⟩) M M) (W.alloc (.cells (Array.replicate M (.int .u8 0)) 5)) := by
  intro W
  subst hx
  exact mk_run 45 5 (.int .u8 0) 1 Tryz.underlying45 (by kernel_rfl) rfl .i64 .i64 M (by omega) (by omega) W
theorem made_own (M B : Nat) (w : World) (hB : B ≤ w.heap.size) (hM : M ≤ 100000) : OwnI .u8 (w.alloc (.cells (Array.replicate M (.int .u8 0)) 5)) B 5 (.slice (some ⟨w.heap.size, 0, none⟩) M M) (List.replicate M 0) := by
  have h := OwnI.made (B := B) w .u8 (List.replicate M (0 : Int)) 5 (Array.replicate M (.int .u8 0)) (by simp) hB (by simp [maxLen]; omega)
  rwa [List.length_replicate] at h
theorem tell_m (a : Nat) (n : Int) (g g2 c B m : Nat) (l : List Int) (w : World) (hm : l.length = m) (ha : a + 4 ≤ m) (ha2 : m ≤ 100000) (hn : 0 ≤ n ∧ n < 4294967296) (hgg : g2 ≠ g) (ho : OwnI .u8 w B 5 (.slice (some ⟨g, 0, none⟩) m c) l)
    (hv : w.cell? ⟨g2, 0, none⟩ = some (.slice (some ⟨g, 0, none⟩) m c)) :
    Calls Tryz.prog 212 #[.int .i64 a, .int .u32 n, .pointer (some ⟨g2, 0, none⟩)] w fun e w' => e = .returned (.tuple #[]) ∧ OwnI .u8 w' B 5 (.slice (some ⟨g, 0, none⟩) m c) (told l a n 4) ∧ Chg (fun k => k = g) w w' := by
  subst hm
  exact tell a n g g2 c B l w ha ha2 hn hgg ho hv
theorem var_cell (W : World) (v : Value) (t : TypeId) (i : Nat) (hi : i = W.heap.size) : (W.alloc (.cells #[v] t)).cell? ⟨i, 0, none⟩ = some v := by
  subst hi
  rw [cell_of_row _ _ _ _ _ _ (heap_alloc_new _ _)]; rfl
theorem byte_range (n : Int) (k : Nat) : 0 ≤ byte n k ∧ byte n k < 256 := by unfold byte; omega
theorem head_bts (n : Int) : Bts (head n) := by
  intro x hx
  simp only [head, List.mem_cons, List.not_mem_nil, or_false] at hx
  rcases hx with rfl | rfl | rfl | rfl <;> exact byte_range _ _
theorem told_four (n : Int) (l : List Int) (hl : 4 ≤ l.length) : (told l 0 n 4).take 4 = head n := by
  match l, hl with
  | a :: b :: c :: d :: r, _ => simp [told, head]
def put (r : List Int) : List Int :=
  splice (told (told (List.replicate (nsec r.length * 64) 0) 0 r.length 4) 4 (num (on (on 0#32 (head r.length)) r)) 4) 8 r
set_option maxRecDepth 100000 in
theorem put_any (A : Option Addr) (c : Nat) (l : List Int) (w : World) (hl : l.length ≤ 16384) (hb : Bts l) (hr : Rd .u8 w A l) :
    Calls Tryz.prog 124 #[.slice A l.length c] w fun e w' => ∃ v, e = .returned (.tuple #[v, .int .i64 0]) ∧ OwnI .u8 w' w.heap.size 5 v (put l) ∧ Below w.heap.size w w' := by
  have HR := Lib.hid hr
  have HB := Lib.hid hb
  clear hr hb
  go_enter Tryz.func124, Tryz.ntmps124
  go_wp2_with fail
  refine (sectors l.length (by omega) _).mono ?_
  rintro e w1 ⟨rfl, h⟩
  subst h
  obtain ⟨S, hS⟩ : ∃ S, S = nsec l.length := ⟨_, rfl⟩
  have hSb : S ≤ 258 ∧ 1 ≤ S ∧ l.length + 8 ≤ S * 64 := by subst hS; unfold nsec; omega
  obtain ⟨M, hM⟩ : ∃ M, M = S * 64 := ⟨_, rfl⟩
  have hMb : 64 ≤ M ∧ M ≤ 20000 ∧ l.length + 8 ≤ M := by omega
  have HM := Lib.hid (show M = nsec l.length * 64 by rw [← hS]; exact hM)
  rw [← hS]
  have hmk := mk M ((S : Int) * 64) (by omega) (by omega)
  have hS2 : (S : Int) ≤ 258 := by omega
  clear hS hM hSb
  go_wp2_with fail
  have o1 : OwnI .u8 _ w1.heap.size 5 (.slice (some ⟨w1.heap.size, 0, none⟩) M M) (List.replicate M 0) := (made_own M w1.heap.size w1 (Nat.le_refl _) (by omega)).alloc (.cells #[.slice (some ⟨w1.heap.size, 0, none⟩) M M] 45)
  have b1 : Below w1.heap.size w1 ((w1.alloc (.cells (Array.replicate M (.int .u8 0)) 5)).alloc (.cells #[.slice (some ⟨w1.heap.size, 0, none⟩) M M] 45)) :=
    ((Below.refl _ _).alloc (Nat.le_refl _) _).alloc (by simp) _
  have hvc : ∀ W, Chg (fun k => k = w1.heap.size) ((w1.alloc (.cells (Array.replicate M (.int .u8 0)) 5)).alloc (.cells #[.slice (some ⟨w1.heap.size, 0, none⟩) M M] 45)) W → W.cell? ⟨w1.heap.size + 1, 0, none⟩ = some (.slice (some ⟨w1.heap.size, 0, none⟩) M M) := by
    intro W hc
    have h1 := var_cell (w1.alloc (.cells (Array.replicate M (.int .u8 0)) 5)) (.slice (some ⟨w1.heap.size, 0, none⟩) M M) 45 (w1.heap.size + 1) (by simp)
    rw [World.cell?_of_block (w := (w1.alloc (.cells (Array.replicate M (.int .u8 0)) 5)).alloc (.cells #[.slice (some ⟨w1.heap.size, 0, none⟩) M M] 45)) (hc.block _ (World.block_lt_of_cell? _ _ h1) (by show ¬ w1.heap.size + 1 = w1.heap.size; omega))]
    exact h1
  have HV := Lib.hid hvc
  have HB1 := Lib.hid b1
  clear hvc b1 hmk
  refine (tell_m 0 (l.length : Int) w1.heap.size (w1.heap.size + 1) M w1.heap.size M (List.replicate M 0) _ (by simp) (by omega) (by omega) (by omega) (by omega) o1 (HV.out _ (Chg.refl _ _))).mono ?_
  clear o1
  rintro e w2 ⟨rfl, o2, c2⟩
  have O2 := Lib.hid o2
  have C2 := Lib.hid c2
  have hcv := HV.out _ c2
  have hM1 : 4 ≤ M := by omega
  have hM2 : (4 : Int) ≤ M := by omega
  clear o2 c2
  go_wp2_with fail
  have hhd : Rd .u8 w2 (some ⟨w1.heap.size, 0, none⟩) (head l.length) := by
    obtain ⟨A', c', e, _, _, hr, _⟩ := O2.out.slice
    injection e with e1 e2 e3
    have h1 := hr.take 4
    rw [← e1, told_four _ _ (by simp; omega)] at h1
    exact h1
  refine (of_any (some ⟨w1.heap.size, 0, none⟩) 4 (head l.length) w2 (by simp [head]) ?_ hhd).mono ?_
  · exact head_bts _
  clear hhd
  rintro e w3 ⟨rfl, b3⟩
  have hb3 := (C2.out.below HB1.out (by simp; omega) (fun _ h => by omega)).trans (below_weak (by have := C2.out.size; simp at this; omega) b3)
  have HB3 := Lib.hid b3
  have HBB3 := Lib.hid hb3
  clear b3 hb3 hcv
  go_wp2_with fail
  refine (on_any _ A c l w3 (by omega) HB.out (HR.out.below HBB3.out)).mono ?_
  rintro e w4 ⟨rfl, b4⟩
  have c4 := (C2.out.trans (Chg.of_new HB3.out) (fun _ _ h => h.elim)).trans (Chg.of_new b4) (fun _ _ h => h.elim)
  have HO4 := Lib.hid ((O2.out.new HB3.out).new b4)
  have HBB4 := Lib.hid (HBB3.out.trans (below_weak HBB3.out.size b4))
  have HC4 := Lib.hid c4
  have hcv4 := HV.out _ c4
  have HN := Lib.hid (num_range (on (on 0#32 (head l.length)) l))
  clear b4 c4 O2 C2 HB3 HBB3
  obtain ⟨N, hN⟩ : ∃ N, N = num (on (on 0#32 (head l.length)) l) := ⟨_, rfl⟩
  rw [← hN] at HN ⊢
  have HNE := Lib.hid hN
  clear hN
  go_wp2_with fail
  refine (tell_m 4 N w1.heap.size (w1.heap.size + 1) M w1.heap.size M _ w4 (by rw [told_length]; simp) (by omega) (by omega) HN.out (by omega) HO4.out hcv4).mono ?_
  clear hcv4
  rintro e w5 ⟨rfl, o5, c5⟩
  have hcv5 := HV.out _ (HC4.out.trans c5 (fun _ _ h => h))
  have HO5 := Lib.hid o5
  have HBB5 := Lib.hid (c5.below HBB4.out HBB4.out.size (fun _ h => by omega))
  have HC5 := Lib.hid c5
  clear o5 c5
  have hM8 : ¬ M = 8 := by omega
  have hM9 : (8 : Int) ≤ M := by omega
  have hM10 : 8 ≤ M := by omega
  go_wp2_with (refine copy_list_m (m := M) (by rw [told_length, told_length]; simp) rfl (.tmp 28) (.tmp 29) _ _ 5 rfl Tryz.underlying45 Sums.info1 HO5.out 8 _ _ _ _ _ _ l rfl rfl (fun _ => rfl) (HR.out.below HBB5.out) (by show _ = min _ _; omega) (by omega) ?_; clear hcv5; intro w6 o6 c6; have hcv6 := HV.out _ ((HC4.out.trans HC5.out (fun _ _ h => h)).trans c6 (fun _ _ h => h)); have HO6 := Lib.hid o6; have HBB6 := Lib.hid (c6.below HBB5.out HBB5.out.size (fun _ h => by omega)); clear o6 c6)
  go_ret2
  refine ⟨_, rfl, ?_, HBB6.out⟩
  have h1 := HO6.out
  unfold put
  rw [← HM.out, ← HNE.out]
  exact h1
theorem put_own {e : TypeId} {v : Value} {B : Nat} {l : List Int} {w : World} (ho : OwnI .u8 w B e v l) (hl : l.length ≤ 16384) (hb : Bts l) :
    Calls Tryz.prog 124 #[v] w fun e w' => ∃ v, e = .returned (.tuple #[v, .int .i64 0]) ∧ OwnI .u8 w' w.heap.size 5 v (put l) ∧ Below w.heap.size w w' := by
  obtain ⟨A, c, rfl, _, _, hr, _⟩ := ho.slice
  exact put_any A c l w hl hb hr
theorem put_big (A : Option Addr) (n c : Nat) (w : World) (hl : 16384 < n) (h2 : n ≤ 1000000000) :
    Calls Tryz.prog 124 #[.slice A n c] w fun e w' => e = .returned (.tuple #[.slice none 0 0, .int .i64 3]) ∧ Below w.heap.size w w' := by
  go_enter Tryz.func124, Tryz.ntmps124
  go_wp2
  go_ret2
  exact ⟨rfl, Below.refl _ _⟩
theorem put_length (r : List Int) : (put r).length = nsec r.length * 64 := by
  unfold put
  rw [length_splice _ _ _ (by rw [told_length, told_length, List.length_replicate]; unfold nsec; omega), told_length, told_length, List.length_replicate]
end Go.Proofs.YticnjkdaccacaaaGreatDoor.Frames
end
section
namespace Go.Proofs.YticnjkdaccacaaaGreatDoor.Same
open Go.RowKit Base _root_.Go.Proofs.YticnjkdaccacaaaGreatDoor.Own Sums
theorem take_next {a b : List Int} {k : Nat} (hl : a.length = b.length) (hk : k < a.length) (h : a.take k = b.take k) (he : a.getD k 0 = b.getD k 0) : a.take (k + 1) = b.take (k + 1) := by
  rw [List.take_succ_eq_append_getElem hk, List.take_succ_eq_append_getElem (by omega), h]
  rw [List.getD_eq_getElem?_getD, List.getD_eq_getElem?_getD, List.getElem?_eq_getElem hk, List.getElem?_eq_getElem (by omega)] at he
  simp only [Option.getD_some] at he
  rw [he]
theorem ne_of_cell {a b : List Int} {k : Nat} (he : ¬ a.getD k 0 = b.getD k 0) : decide (a = b) = false := by
  rw [decide_eq_false_iff_not]
  rintro rfl
  exact he rfl
theorem conv_str (P : Program) (w : World) (src e : TypeId) (hs : P.underlying src = some (.slice e)) (he : P.underlying e = some (.int .u8)) (A : Option Addr) (n c : Nat) (l : List Int) (hn : l.length = n) (h : Rd .u8 w A l) (dst : TypeId) (hd : P.underlying dst = some .string) :
    (convert src dst (.slice A n c)).run P w = .ok (.string (strOfNums l)) w := by
  cases A with
  | none =>
    obtain rfl := h.empty rfl
    exact run_convert_bytes_nil w src e hs he n c dst hd
  | some ad =>
    have hl : (loadCells ad n).run P w = .ok (l.map (Value.int .u8)).toArray w := by
      have := run_loadCells_list (P := P) w ad (l.map (Value.int .u8)) (fun j v hj => by
        have hjl : j < l.length := by
          rcases Nat.lt_or_ge j l.length with h | h
          · exact h
          · simp [List.getElem?_eq_none (show (l.map (Value.int .u8)).length ≤ j by simpa using h)] at hj
        obtain ⟨ad', e', _, hc⟩ := h.cell hjl
        cases e'
        rw [hc]
        simp [List.getElem?_eq_getElem hjl] at hj
        subst hj
        simp [List.getD, List.getElem?_eq_getElem hjl])
      simpa [hn] using this
    rw [run_convert_bytes_string w src dst e _ n c hs he hd, run_bytesToString w _ n c l hl, foldl_push_bytes]
    simp [strOfNums, ByteArray.empty, ByteArray.emptyWithCapacity]
    rfl
theorem str_inj : ∀ (l m : List Int), Bts l → Bts m → strOfNums l = strOfNums m → l = m := by
  intro l m hl hm h
  have h1 := congrArg (fun s : ByteArray => s.data.toList) h
  simp only [strOfNums_data] at h1
  clear h
  induction l generalizing m with
  | nil => cases m with
    | nil => rfl
    | cons y m => simp at h1
  | cons x l ih => cases m with
    | nil => simp at h1
    | cons y m =>
      simp only [List.map_cons, List.cons.injEq] at h1
      have hx := hl x (List.mem_cons_self)
      have hy := hm y (List.mem_cons_self)
      have h2 := congrArg UInt8.toNat h1.1
      rw [UInt8.toNat_ofNat', UInt8.toNat_ofNat'] at h2
      rw [ih m (fun z hz => hl z (List.mem_cons_of_mem _ hz)) (fun z hz => hm z (List.mem_cons_of_mem _ hz)) h1.2]
      congr 1
      omega
set_option maxRecDepth 100000 in
theorem sameBytes (A B : Option Addr) (ca cb : Nat) (a b : List Int) (w : World) (hla : a.length ≤ 1000000000) (hlb : b.length ≤ 1000000000) (ha : Rd .u8 w A a) (hb : Rd .u8 w B b) :
    Calls Tryz.prog 18 #[.slice A a.length ca, .slice B b.length cb] w fun e w' => e = .returned (.bool (decide (a = b))) ∧ Below w.heap.size w w' := by
  have HA := Lib.hid ha
  have HB := Lib.hid hb
  clear ha hb
  by_cases hlen : a.length = b.length
  · have hz : ((a.length : Int) == b.length) = true := by rw [beq_iff_eq]; omega
    have HL := Lib.hid hlen
    obtain ⟨n, hn⟩ : ∃ n, n = a.length := ⟨_, rfl⟩
    have HN := Lib.hid hn
    rw [← hlen, ← hn]
    rw [← hn] at hla
    clear hlen hlb hz hn
    go_enter Tryz.func18, Tryz.ntmps18
    go_wp2
    go_loopw [5] (fun i wr => ∃ k : Nat, k ≤ n ∧ i = .int .i64 k ∧ Hid (a.take k = b.take k) ∧ Hid (Below w.heap.size w wr)) (fun i _ => n - (intOf i).toNat)
    case atStart => exact ⟨0, by omega, rfl, by simp [Hid], Below.refl _ _⟩
    case round =>
      obtain ⟨k, hk, rfl, hat, hbd⟩ := hrel
      by_cases hlt : k < n
      · obtain ⟨x, rfl, hxb, hxc⟩ := (HA.out.below hbd.out).cell (j := k) (by rw [← HN.out]; exact hlt)
        obtain ⟨y, rfl, hyb, hyc⟩ := (HB.out.below hbd.out).cell (j := k) (by rw [← HL.out, ← HN.out]; exact hlt)
        by_cases he : a.getD k 0 = b.getD k 0
        · have HE := Lib.hid he
          rw [← he] at hyc
          clear he
          obtain ⟨z, hz⟩ : ∃ z, z = a.getD k 0 := ⟨_, rfl⟩
          rw [← hz] at hxc hyc
          clear hz
          go_wp2
          refine wp_region_sl [.one (0, true, some 17), .one (1, true, some 18), .one (2, true, some 19), .one (3, true, some 20), .one (4, true, some 21), .one (5, true, some 22), .one (6, true, some 23), .one (7, true, some 24), .one (8, true, some 25)]
                [.one ⟨true, some 17, (Go.Op.move (Go.Operand.tmp 0)), 45, none⟩,
                .one ⟨true, some 18, (Go.Op.move (Go.Operand.tmp 5)), 3, none⟩,
                .one ⟨true, some 19, (Go.Op.indexAddr 45 (Go.Operand.tmp 17) (Go.Operand.tmp 18)), 0, none⟩,
                .one ⟨true, some 20, (Go.Op.load 5 (Go.Operand.tmp 19)), 5, none⟩,
                .one ⟨true, some 21, (Go.Op.move (Go.Operand.tmp 1)), 45, none⟩,
                .one ⟨true, some 22, (Go.Op.move (Go.Operand.tmp 5)), 3, none⟩,
                .one ⟨true, some 23, (Go.Op.indexAddr 45 (Go.Operand.tmp 21) (Go.Operand.tmp 22)), 0, none⟩,
                .one ⟨true, some 24, (Go.Op.load 5 (Go.Operand.tmp 23)), 5, none⟩,
                .one ⟨true, some 25, (Go.Op.binOp Go.BinOp.neq 5 (Go.Operand.tmp 20) (Go.Operand.tmp 24) 5), 4, none⟩]
                (fun w' => w'.cell? (x.add k) = some (.int .u8 z) ∧ w'.cell? (y.add k) = some (.int .u8 z)) rfl (by kernel_rfl) (by kernel_rfl) ?_ ?_
          · exact ⟨hxc, hyc⟩
          (repeat (first | ((with_reducible refine sq (v := ?_) (a' := ?_) ?_ ?_ ?_); rotate_left 2; (focus (intro w' hS; go_simp; (first | done | with_reducible rfl | rfl))); (simp only [Act.put, List.setIfInBounds_toArray, List.set_cons_zero, List.set_cons_succ]; rfl)) | ((with_reducible refine sn (a' := ?_) ?_ ?_ ?_); rotate_left; (focus rfl); (simp only [Act.put, List.setIfInBounds_toArray, List.set_cons_zero, List.set_cons_succ]; rfl)) | ((with_reducible refine sf trivial (a' := ?_) ?_ ?_ ?_); rotate_left; (focus rfl); (simp only [Act.put, List.setIfInBounds_toArray, List.set_cons_zero, List.set_cons_succ]; rfl)) | ((with_reducible refine sqg (v := ?_) (a' := ?_) ?_ ?_ ?_ ?_); rotate_left 2; (focus rfl); (focus (intro w' hS; go_simp; (first | done | with_reducible rfl | rfl))); (simp only [Act.put, List.setIfInBounds_toArray, List.set_cons_zero, List.set_cons_succ]; rfl)))); (repeat ((go_bits; (first | ((with_reducible refine sq (v := ?_) (a' := ?_) ?_ ?_ ?_); rotate_left 2; (focus (intro w' hS; go_simp; (first | done | with_reducible rfl | rfl))); (simp only [Act.put, List.setIfInBounds_toArray, List.set_cons_zero, List.set_cons_succ]; rfl)) | ((with_reducible refine sn (a' := ?_) ?_ ?_ ?_); rotate_left; (focus rfl); (simp only [Act.put, List.setIfInBounds_toArray, List.set_cons_zero, List.set_cons_succ]; rfl)) | ((with_reducible refine sf trivial (a' := ?_) ?_ ?_ ?_); rotate_left; (focus rfl); (simp only [Act.put, List.setIfInBounds_toArray, List.set_cons_zero, List.set_cons_succ]; rfl)) | ((with_reducible refine sqg (v := ?_) (a' := ?_) ?_ ?_ ?_ ?_); rotate_left 2; (focus rfl); (focus (intro w' hS; go_simp; (first | done | with_reducible rfl | rfl))); (simp only [Act.put, List.setIfInBounds_toArray, List.set_cons_zero, List.set_cons_succ]; rfl)))); (repeat (first | ((with_reducible refine sq (v := ?_) (a' := ?_) ?_ ?_ ?_); rotate_left 2; (focus (intro w' hS; go_simp; (first | done | with_reducible rfl | rfl))); (simp only [Act.put, List.setIfInBounds_toArray, List.set_cons_zero, List.set_cons_succ]; rfl)) | ((with_reducible refine sn (a' := ?_) ?_ ?_ ?_); rotate_left; (focus rfl); (simp only [Act.put, List.setIfInBounds_toArray, List.set_cons_zero, List.set_cons_succ]; rfl)) | ((with_reducible refine sf trivial (a' := ?_) ?_ ?_ ?_); rotate_left; (focus rfl); (simp only [Act.put, List.setIfInBounds_toArray, List.set_cons_zero, List.set_cons_succ]; rfl)) | ((with_reducible refine sqg (v := ?_) (a' := ?_) ?_ ?_ ?_ ?_); rotate_left 2; (focus rfl); (focus (intro w' hS; go_simp; (first | done | with_reducible rfl | rfl))); (simp only [Act.put, List.setIfInBounds_toArray, List.set_cons_zero, List.set_cons_succ]; rfl)))))); (try go_bits)
          refine sl_end ?_
          go_wp2
          go_roundw
          case rel => exact ⟨k + 1, by omega, rfl, take_next HL.out (by rw [← HN.out]; exact hlt) hat.out HE.out, hbd.out.drew⟩
          case measure => simp [intOf]; omega
        · have HE := Lib.hid he
          obtain ⟨z, hz⟩ : ∃ z, z = a.getD k 0 := ⟨_, rfl⟩
          obtain ⟨z2, hz2⟩ : ∃ z, z = b.getD k 0 := ⟨_, rfl⟩
          rw [← hz, ← hz2] at he
          rw [← hz] at hxc
          rw [← hz2] at hyc
          clear hz hz2
          have hne : (z == z2) = false := by rw [beq_eq_false_iff_ne]; exact he
          clear he
          go_wp2
          refine wp_region_sl [.one (0, true, some 17), .one (1, true, some 18), .one (2, true, some 19), .one (3, true, some 20), .one (4, true, some 21), .one (5, true, some 22), .one (6, true, some 23), .one (7, true, some 24), .one (8, true, some 25)]
                [.one ⟨true, some 17, (Go.Op.move (Go.Operand.tmp 0)), 45, none⟩,
                .one ⟨true, some 18, (Go.Op.move (Go.Operand.tmp 5)), 3, none⟩,
                .one ⟨true, some 19, (Go.Op.indexAddr 45 (Go.Operand.tmp 17) (Go.Operand.tmp 18)), 0, none⟩,
                .one ⟨true, some 20, (Go.Op.load 5 (Go.Operand.tmp 19)), 5, none⟩,
                .one ⟨true, some 21, (Go.Op.move (Go.Operand.tmp 1)), 45, none⟩,
                .one ⟨true, some 22, (Go.Op.move (Go.Operand.tmp 5)), 3, none⟩,
                .one ⟨true, some 23, (Go.Op.indexAddr 45 (Go.Operand.tmp 21) (Go.Operand.tmp 22)), 0, none⟩,
                .one ⟨true, some 24, (Go.Op.load 5 (Go.Operand.tmp 23)), 5, none⟩,
                .one ⟨true, some 25, (Go.Op.binOp Go.BinOp.neq 5 (Go.Operand.tmp 20) (Go.Operand.tmp 24) 5), 4, none⟩]
                (fun w' => w'.cell? (x.add k) = some (.int .u8 z) ∧ w'.cell? (y.add k) = some (.int .u8 z2)) rfl (by kernel_rfl) (by kernel_rfl) ?_ ?_
          · exact ⟨hxc, hyc⟩
          (repeat (first | ((with_reducible refine sq (v := ?_) (a' := ?_) ?_ ?_ ?_); rotate_left 2; (focus (intro w' hS; go_simp; (first | done | with_reducible rfl | rfl))); (simp only [Act.put, List.setIfInBounds_toArray, List.set_cons_zero, List.set_cons_succ]; rfl)) | ((with_reducible refine sn (a' := ?_) ?_ ?_ ?_); rotate_left; (focus rfl); (simp only [Act.put, List.setIfInBounds_toArray, List.set_cons_zero, List.set_cons_succ]; rfl)) | ((with_reducible refine sf trivial (a' := ?_) ?_ ?_ ?_); rotate_left; (focus rfl); (simp only [Act.put, List.setIfInBounds_toArray, List.set_cons_zero, List.set_cons_succ]; rfl)) | ((with_reducible refine sqg (v := ?_) (a' := ?_) ?_ ?_ ?_ ?_); rotate_left 2; (focus rfl); (focus (intro w' hS; go_simp; (first | done | with_reducible rfl | rfl))); (simp only [Act.put, List.setIfInBounds_toArray, List.set_cons_zero, List.set_cons_succ]; rfl)))); (repeat ((go_bits; (first | ((with_reducible refine sq (v := ?_) (a' := ?_) ?_ ?_ ?_); rotate_left 2; (focus (intro w' hS; go_simp; (first | done | with_reducible rfl | rfl))); (simp only [Act.put, List.setIfInBounds_toArray, List.set_cons_zero, List.set_cons_succ]; rfl)) | ((with_reducible refine sn (a' := ?_) ?_ ?_ ?_); rotate_left; (focus rfl); (simp only [Act.put, List.setIfInBounds_toArray, List.set_cons_zero, List.set_cons_succ]; rfl)) | ((with_reducible refine sf trivial (a' := ?_) ?_ ?_ ?_); rotate_left; (focus rfl); (simp only [Act.put, List.setIfInBounds_toArray, List.set_cons_zero, List.set_cons_succ]; rfl)) | ((with_reducible refine sqg (v := ?_) (a' := ?_) ?_ ?_ ?_ ?_); rotate_left 2; (focus rfl); (focus (intro w' hS; go_simp; (first | done | with_reducible rfl | rfl))); (simp only [Act.put, List.setIfInBounds_toArray, List.set_cons_zero, List.set_cons_succ]; rfl)))); (repeat (first | ((with_reducible refine sq (v := ?_) (a' := ?_) ?_ ?_ ?_); rotate_left 2; (focus (intro w' hS; go_simp; (first | done | with_reducible rfl | rfl))); (simp only [Act.put, List.setIfInBounds_toArray, List.set_cons_zero, List.set_cons_succ]; rfl)) | ((with_reducible refine sn (a' := ?_) ?_ ?_ ?_); rotate_left; (focus rfl); (simp only [Act.put, List.setIfInBounds_toArray, List.set_cons_zero, List.set_cons_succ]; rfl)) | ((with_reducible refine sf trivial (a' := ?_) ?_ ?_ ?_); rotate_left; (focus rfl); (simp only [Act.put, List.setIfInBounds_toArray, List.set_cons_zero, List.set_cons_succ]; rfl)) | ((with_reducible refine sqg (v := ?_) (a' := ?_) ?_ ?_ ?_ ?_); rotate_left 2; (focus rfl); (focus (intro w' hS; go_simp; (first | done | with_reducible rfl | rfl))); (simp only [Act.put, List.setIfInBounds_toArray, List.set_cons_zero, List.set_cons_succ]; rfl)))))); (try go_bits)
          refine sl_end ?_
          go_wp2
          go_ret
          exact ⟨by rw [ne_of_cell HE.out]; rfl, hbd.out.drew⟩
      · obtain rfl : k = n := by omega
        go_wp2
        go_ret
        have e : a = b := by
          have h := hat.out
          rw [HN.out, List.take_length, HL.out, List.take_length] at h
          exact h
        exact ⟨by rw [decide_eq_true e]; rfl, hbd.out⟩
  · have hz : ((a.length : Int) == b.length) = false := by rw [beq_eq_false_iff_ne]; omega
    have e : decide (a = b) = false := by rw [decide_eq_false_iff_not]; rintro rfl; exact hlen rfl
    rw [e]
    go_enter Tryz.func18, Tryz.ntmps18
    go_wp2
    go_ret
    exact ⟨rfl, Below.refl _ _⟩
theorem sameBytes_m (A B : Option Addr) (n m ca cb : Nat) (a b : List Int) (w : World) (hn : a.length = n) (hm : b.length = m) (hla : n ≤ 1000000000) (hlb : m ≤ 1000000000) (ha : Rd .u8 w A a) (hb : Rd .u8 w B b) :
    Calls Tryz.prog 18 #[.slice A n ca, .slice B m cb] w fun e w' => e = .returned (.bool (decide (a = b))) ∧ Below w.heap.size w w' := by
  subst hn hm
  exact sameBytes A B ca cb a b w hla hlb ha hb
set_option maxRecDepth 100000 in
theorem equal (A B : Option Addr) (ca cb : Nat) (a b : List Int) (w : World) (hla : a.length ≤ 1000000000) (hlb : b.length ≤ 1000000000) (ha : Rd .u8 w A a) (hb : Rd .u8 w B b) :
    Calls Tryz.prog 248 #[.slice A a.length ca, .slice B b.length cb] w fun e w' => e = .returned (.bool (decide (a = b))) ∧ Below w.heap.size w w' := by
  have HA := Lib.hid ha
  have HB := Lib.hid hb
  clear ha hb
  by_cases hlen : a.length = b.length
  · have hz : ((a.length : Int) == b.length) = true := by rw [beq_iff_eq]; omega
    have HL := Lib.hid hlen
    obtain ⟨n, hn⟩ : ∃ n, n = a.length := ⟨_, rfl⟩
    have HN := Lib.hid hn
    rw [← hlen, ← hn]
    rw [← hn] at hla
    clear hlen hlb hz hn
    go_enter Tryz.func248, Tryz.ntmps248
    go_wp2
    go_loopw [13] (fun i wr => ∃ k : Nat, k ≤ n ∧ i = .int .i64 k ∧ Hid (a.take k = b.take k) ∧ Hid (Below w.heap.size w wr)) (fun i _ => n - (intOf i).toNat)
    case atStart => exact ⟨0, by omega, rfl, by simp [Hid], Below.refl _ _⟩
    case round =>
      obtain ⟨k, hk, rfl, hat, hbd⟩ := hrel
      by_cases hlt : k < n
      · obtain ⟨x, rfl, hxb, hxc⟩ := (HA.out.below hbd.out).cell (j := k) (by rw [← HN.out]; exact hlt)
        obtain ⟨y, rfl, hyb, hyc⟩ := (HB.out.below hbd.out).cell (j := k) (by rw [← HL.out, ← HN.out]; exact hlt)
        by_cases he : a.getD k 0 = b.getD k 0
        · have HE := Lib.hid he
          rw [← he] at hyc
          clear he
          obtain ⟨z, hz⟩ : ∃ z, z = a.getD k 0 := ⟨_, rfl⟩
          rw [← hz] at hxc hyc
          clear hz
          go_wp2
          refine wp_region_sl [.one (0, true, some 16), .one (1, true, some 17), .one (2, true, some 18), .one (3, true, some 19), .one (4, true, some 20), .one (5, true, some 21), .one (6, true, some 22), .one (7, true, some 23), .one (8, true, some 24)]
                [.one ⟨true, some 16, (Go.Op.move (Go.Operand.tmp 0)), 45, none⟩,
                .one ⟨true, some 17, (Go.Op.move (Go.Operand.tmp 5)), 3, none⟩,
                .one ⟨true, some 18, (Go.Op.indexAddr 45 (Go.Operand.tmp 16) (Go.Operand.tmp 17)), 0, none⟩,
                .one ⟨true, some 19, (Go.Op.load 5 (Go.Operand.tmp 18)), 5, none⟩,
                .one ⟨true, some 20, (Go.Op.move (Go.Operand.tmp 1)), 45, none⟩,
                .one ⟨true, some 21, (Go.Op.move (Go.Operand.tmp 5)), 3, none⟩,
                .one ⟨true, some 22, (Go.Op.indexAddr 45 (Go.Operand.tmp 20) (Go.Operand.tmp 21)), 0, none⟩,
                .one ⟨true, some 23, (Go.Op.load 5 (Go.Operand.tmp 22)), 5, none⟩,
                .one ⟨true, some 24, (Go.Op.binOp Go.BinOp.neq 5 (Go.Operand.tmp 19) (Go.Operand.tmp 23) 5), 4, none⟩]
                (fun w' => w'.cell? (x.add k) = some (.int .u8 z) ∧ w'.cell? (y.add k) = some (.int .u8 z)) rfl (by kernel_rfl) (by kernel_rfl) ?_ ?_
          · exact ⟨hxc, hyc⟩
          (repeat (first | ((with_reducible refine sq (v := ?_) (a' := ?_) ?_ ?_ ?_); rotate_left 2; (focus (intro w' hS; go_simp; (first | done | with_reducible rfl | rfl))); (simp only [Act.put, List.setIfInBounds_toArray, List.set_cons_zero, List.set_cons_succ]; rfl)) | ((with_reducible refine sn (a' := ?_) ?_ ?_ ?_); rotate_left; (focus rfl); (simp only [Act.put, List.setIfInBounds_toArray, List.set_cons_zero, List.set_cons_succ]; rfl)) | ((with_reducible refine sf trivial (a' := ?_) ?_ ?_ ?_); rotate_left; (focus rfl); (simp only [Act.put, List.setIfInBounds_toArray, List.set_cons_zero, List.set_cons_succ]; rfl)) | ((with_reducible refine sqg (v := ?_) (a' := ?_) ?_ ?_ ?_ ?_); rotate_left 2; (focus rfl); (focus (intro w' hS; go_simp; (first | done | with_reducible rfl | rfl))); (simp only [Act.put, List.setIfInBounds_toArray, List.set_cons_zero, List.set_cons_succ]; rfl)))); (repeat ((go_bits; (first | ((with_reducible refine sq (v := ?_) (a' := ?_) ?_ ?_ ?_); rotate_left 2; (focus (intro w' hS; go_simp; (first | done | with_reducible rfl | rfl))); (simp only [Act.put, List.setIfInBounds_toArray, List.set_cons_zero, List.set_cons_succ]; rfl)) | ((with_reducible refine sn (a' := ?_) ?_ ?_ ?_); rotate_left; (focus rfl); (simp only [Act.put, List.setIfInBounds_toArray, List.set_cons_zero, List.set_cons_succ]; rfl)) | ((with_reducible refine sf trivial (a' := ?_) ?_ ?_ ?_); rotate_left; (focus rfl); (simp only [Act.put, List.setIfInBounds_toArray, List.set_cons_zero, List.set_cons_succ]; rfl)) | ((with_reducible refine sqg (v := ?_) (a' := ?_) ?_ ?_ ?_ ?_); rotate_left 2; (focus rfl); (focus (intro w' hS; go_simp; (first | done | with_reducible rfl | rfl))); (simp only [Act.put, List.setIfInBounds_toArray, List.set_cons_zero, List.set_cons_succ]; rfl)))); (repeat (first | ((with_reducible refine sq (v := ?_) (a' := ?_) ?_ ?_ ?_); rotate_left 2; (focus (intro w' hS; go_simp; (first | done | with_reducible rfl | rfl))); (simp only [Act.put, List.setIfInBounds_toArray, List.set_cons_zero, List.set_cons_succ]; rfl)) | ((with_reducible refine sn (a' := ?_) ?_ ?_ ?_); rotate_left; (focus rfl); (simp only [Act.put, List.setIfInBounds_toArray, List.set_cons_zero, List.set_cons_succ]; rfl)) | ((with_reducible refine sf trivial (a' := ?_) ?_ ?_ ?_); rotate_left; (focus rfl); (simp only [Act.put, List.setIfInBounds_toArray, List.set_cons_zero, List.set_cons_succ]; rfl)) | ((with_reducible refine sqg (v := ?_) (a' := ?_) ?_ ?_ ?_ ?_); rotate_left 2; (focus rfl); (focus (intro w' hS; go_simp; (first | done | with_reducible rfl | rfl))); (simp only [Act.put, List.setIfInBounds_toArray, List.set_cons_zero, List.set_cons_succ]; rfl)))))); (try go_bits)
          refine sl_end ?_
          go_wp2
          go_roundw
          case rel => exact ⟨k + 1, by omega, rfl, take_next HL.out (by rw [← HN.out]; exact hlt) hat.out HE.out, hbd.out.drew⟩
          case measure => simp [intOf]; omega
        · have HE := Lib.hid he
          obtain ⟨z, hz⟩ : ∃ z, z = a.getD k 0 := ⟨_, rfl⟩
          obtain ⟨z2, hz2⟩ : ∃ z, z = b.getD k 0 := ⟨_, rfl⟩
          rw [← hz, ← hz2] at he
          rw [← hz] at hxc
          rw [← hz2] at hyc
          clear hz hz2
          have hne : (z == z2) = false := by rw [beq_eq_false_iff_ne]; exact he
          clear he
          go_wp2
          refine wp_region_sl [.one (0, true, some 16), .one (1, true, some 17), .one (2, true, some 18), .one (3, true, some 19), .one (4, true, some 20), .one (5, true, some 21), .one (6, true, some 22), .one (7, true, some 23), .one (8, true, some 24)]
                [.one ⟨true, some 16, (Go.Op.move (Go.Operand.tmp 0)), 45, none⟩,
                .one ⟨true, some 17, (Go.Op.move (Go.Operand.tmp 5)), 3, none⟩,
                .one ⟨true, some 18, (Go.Op.indexAddr 45 (Go.Operand.tmp 16) (Go.Operand.tmp 17)), 0, none⟩,
                .one ⟨true, some 19, (Go.Op.load 5 (Go.Operand.tmp 18)), 5, none⟩,
                .one ⟨true, some 20, (Go.Op.move (Go.Operand.tmp 1)), 45, none⟩,
                .one ⟨true, some 21, (Go.Op.move (Go.Operand.tmp 5)), 3, none⟩,
                .one ⟨true, some 22, (Go.Op.indexAddr 45 (Go.Operand.tmp 20) (Go.Operand.tmp 21)), 0, none⟩,
                .one ⟨true, some 23, (Go.Op.load 5 (Go.Operand.tmp 22)), 5, none⟩,
                .one ⟨true, some 24, (Go.Op.binOp Go.BinOp.neq 5 (Go.Operand.tmp 19) (Go.Operand.tmp 23) 5), 4, none⟩]
                (fun w' => w'.cell? (x.add k) = some (.int .u8 z) ∧ w'.cell? (y.add k) = some (.int .u8 z2)) rfl (by kernel_rfl) (by kernel_rfl) ?_ ?_
          · exact ⟨hxc, hyc⟩
          (repeat (first | ((with_reducible refine sq (v := ?_) (a' := ?_) ?_ ?_ ?_); rotate_left 2; (focus (intro w' hS; go_simp; (first | done | with_reducible rfl | rfl))); (simp only [Act.put, List.setIfInBounds_toArray, List.set_cons_zero, List.set_cons_succ]; rfl)) | ((with_reducible refine sn (a' := ?_) ?_ ?_ ?_); rotate_left; (focus rfl); (simp only [Act.put, List.setIfInBounds_toArray, List.set_cons_zero, List.set_cons_succ]; rfl)) | ((with_reducible refine sf trivial (a' := ?_) ?_ ?_ ?_); rotate_left; (focus rfl); (simp only [Act.put, List.setIfInBounds_toArray, List.set_cons_zero, List.set_cons_succ]; rfl)) | ((with_reducible refine sqg (v := ?_) (a' := ?_) ?_ ?_ ?_ ?_); rotate_left 2; (focus rfl); (focus (intro w' hS; go_simp; (first | done | with_reducible rfl | rfl))); (simp only [Act.put, List.setIfInBounds_toArray, List.set_cons_zero, List.set_cons_succ]; rfl)))); (repeat ((go_bits; (first | ((with_reducible refine sq (v := ?_) (a' := ?_) ?_ ?_ ?_); rotate_left 2; (focus (intro w' hS; go_simp; (first | done | with_reducible rfl | rfl))); (simp only [Act.put, List.setIfInBounds_toArray, List.set_cons_zero, List.set_cons_succ]; rfl)) | ((with_reducible refine sn (a' := ?_) ?_ ?_ ?_); rotate_left; (focus rfl); (simp only [Act.put, List.setIfInBounds_toArray, List.set_cons_zero, List.set_cons_succ]; rfl)) | ((with_reducible refine sf trivial (a' := ?_) ?_ ?_ ?_); rotate_left; (focus rfl); (simp only [Act.put, List.setIfInBounds_toArray, List.set_cons_zero, List.set_cons_succ]; rfl)) | ((with_reducible refine sqg (v := ?_) (a' := ?_) ?_ ?_ ?_ ?_); rotate_left 2; (focus rfl); (focus (intro w' hS; go_simp; (first | done | with_reducible rfl | rfl))); (simp only [Act.put, List.setIfInBounds_toArray, List.set_cons_zero, List.set_cons_succ]; rfl)))); (repeat (first | ((with_reducible refine sq (v := ?_) (a' := ?_) ?_ ?_ ?_); rotate_left 2; (focus (intro w' hS; go_simp; (first | done | with_reducible rfl | rfl))); (simp only [Act.put, List.setIfInBounds_toArray, List.set_cons_zero, List.set_cons_succ]; rfl)) | ((with_reducible refine sn (a' := ?_) ?_ ?_ ?_); rotate_left; (focus rfl); (simp only [Act.put, List.setIfInBounds_toArray, List.set_cons_zero, List.set_cons_succ]; rfl)) | ((with_reducible refine sf trivial (a' := ?_) ?_ ?_ ?_); rotate_left; (focus rfl); (simp only [Act.put, List.setIfInBounds_toArray, List.set_cons_zero, List.set_cons_succ]; rfl)) | ((with_reducible refine sqg (v := ?_) (a' := ?_) ?_ ?_ ?_ ?_); rotate_left 2; (focus rfl); (focus (intro w' hS; go_simp; (first | done | with_reducible rfl | rfl))); (simp only [Act.put, List.setIfInBounds_toArray, List.set_cons_zero, List.set_cons_succ]; rfl)))))); (try go_bits)
          refine sl_end ?_
          go_wp2
          go_ret
          exact ⟨by rw [ne_of_cell HE.out]; rfl, hbd.out.drew⟩
      · obtain rfl : k = n := by omega
        go_wp2
        go_ret
        have e : a = b := by
          have h := hat.out
          rw [HN.out, List.take_length, HL.out, List.take_length] at h
          exact h
        exact ⟨by rw [decide_eq_true e]; rfl, hbd.out⟩
  · have hz : ((a.length : Int) == b.length) = false := by rw [beq_eq_false_iff_ne]; omega
    have e : decide (a = b) = false := by rw [decide_eq_false_iff_not]; rintro rfl; exact hlen rfl
    rw [e]
    go_enter Tryz.func248, Tryz.ntmps248
    go_wp2
    go_ret
    exact ⟨rfl, Below.refl _ _⟩
theorem equal_m (A B : Option Addr) (n m ca cb : Nat) (a b : List Int) (w : World) (hn : a.length = n) (hm : b.length = m) (hla : n ≤ 1000000000) (hlb : m ≤ 1000000000) (ha : Rd .u8 w A a) (hb : Rd .u8 w B b) :
    Calls Tryz.prog 248 #[.slice A n ca, .slice B m cb] w fun e w' => e = .returned (.bool (decide (a = b))) ∧ Below w.heap.size w w' := by
  subst hn hm
  exact equal A B ca cb a b w hla hlb ha hb
theorem clone (A : Option Addr) (n c : Nat) (l : List Int) (w : World) (hn : l.length = n) (hl : n ≤ 1000000000) (hA : A ≠ none ∨ n = 0 ∧ c = 0) (hr : Rd .u8 w A l) :
    Calls Tryz.prog 80 #[.slice A n c] w fun e w' => ∃ v, e = .returned v ∧ OwnI .u8 w' w.heap.size 5 v l ∧ Below w.heap.size w w' := by
  have hq : ∀ (W : World) (a : Option Addr) (n c n' c' : Nat), (binOp .eql 45 (.slice a n c) (.slice none n' c')).run Tryz.prog W = .ok (.bool a.isNone) W := fun W a n c n' c' => Lib.run_eql_slice_nil W _ _ a n c n' c' Tryz.underlying45
  cases A with
  | none =>
    obtain rfl := hr.empty rfl
    obtain ⟨rfl, rfl⟩ : n = 0 ∧ c = 0 := hA.elim (fun h => absurd rfl h) id
    go_enter Tryz.func80, Tryz.ntmps80
    go_wp2
    go_ret
    exact ⟨_, rfl, OwnI.nil _ _ _ _, Below.refl _ _⟩
  | some ad =>
    have HR := Lib.hid hr
    clear hr
    go_enter Tryz.func80, Tryz.ntmps80
    have H0 := Lib.hid (show Below w.heap.size w (w.alloc (.cells #[] 5)) ∧ OwnI .u8 (w.alloc (.cells #[] 5)) w.heap.size 5 (.slice (some ⟨w.heap.size, 0, none⟩) 0 0) [] from
      ⟨(Below.refl _ _).alloc (Nat.le_refl _) _, OwnI.made w .u8 [] 5 #[] rfl (Nat.le_refl _) (Nat.zero_le _)⟩)
    go_wp2_with (at_builtin; refine ap_list rfl Sums.tyB H0.out.1 H0.out.2 (HR.out.below H0.out.1) (fun e => by cases e) (by simp; omega) (.tmp 5) (.tmp 6) n c rfl rfl rfl hn ?_; intro v2 w2 own2 bd2 _ _; have H2 := Lib.hid (And.intro own2 bd2); clear own2 bd2)
    go_ret
    refine ⟨_, rfl, ?_, H2.out.2⟩
    have h := H2.out.1
    rwa [List.nil_append] at h
end Go.Proofs.YticnjkdaccacaaaGreatDoor.Same
end
section
namespace Go.Proofs.YticnjkdaccacaaaGreatDoor.Frames
open Go.RowKit Crc Sums Base _root_.Go.Proofs.YticnjkdaccacaaaGreatDoor.Own
def val (b : List Int) : Nat → Int
  | 0 => 0
  | k + 1 => val b k * 256 + b.getD k 0
theorem val_range {b : List Int} (hb : Bts b) : ∀ k, k ≤ b.length → 0 ≤ val b k ∧ val b k < 256 ^ k := by
  intro k
  induction k with
  | zero => intro _; exact ⟨Int.le_refl _, by unfold val; decide⟩
  | succ k ih =>
    intro hk
    have h1 := ih (by omega)
    have h2 := hb.getD (j := k) (by omega)
    unfold val
    rw [Int.pow_succ]
    omega
def get (b : List Int) : Option (List Int × Nat) :=
  if b.length < 8 then none else
  if 16384 < val b 4 then none else
  if b.length < nsec (val b 4).toNat * 64 then none else
  if put ((b.drop 8).take (val b 4).toNat) = b.take (nsec (val b 4).toNat * 64) then some ((b.drop 8).take (val b 4).toNat, nsec (val b 4).toNat) else none
def Got (w' : World) (B : Nat) (e : Ending) : Option (List Int × Nat) → Prop
  | none => e = .returned (.tuple #[.slice none 0 0, .int .i64 0, .int .i64 4])
  | some (r, k) => ∃ v, e = .returned (.tuple #[v, .int .i64 k, .int .i64 0]) ∧ OwnI .u8 w' B 5 v r
theorem or_low (n y : Int) (h0 : 0 ≤ n) (h1 : n < 16777216) (h2 : 0 ≤ y) (h3 : y < 256) : bits .or .u32 (n * 256) y = n * 256 + y := by
  have e1 : ∀ x : Int, 0 ≤ x → x < 4294967296 → (BitVec.ofInt 32 x).toNat = x.toNat := fun x a b => by rw [BitVec.toNat_ofInt]; simp; omega
  have h5 := Nat.shiftLeft_add_eq_or_of_lt (show y.toNat < 2 ^ 8 by omega) n.toNat
  unfold bits; show IntKind.u32.wrap ((BitVec.ofInt 32 (n * 256) ||| BitVec.ofInt 32 y).toNat : Int) = _
  rw [BitVec.toNat_or, e1 _ (by omega) (by omega), e1 _ (by omega) (by omega), show (n * 256).toNat = n.toNat <<< 8 by rw [Nat.shiftLeft_eq]; omega, ← h5, IntKind.wrap_u32', Nat.shiftLeft_eq]
  omega
set_option maxRecDepth 100000 in
theorem get_any (A : Option Addr) (c : Nat) (b : List Int) (w : World) (hl : b.length ≤ 100000000) (hb : Bts b) (hr : Rd .u8 w A b) (hc : b.length ≤ c) :
    Calls Tryz.prog 210 #[.slice A b.length c] w fun e w' => Got w' w.heap.size e (get b) ∧ Below w.heap.size w w' := by
  by_cases h8 : b.length < 8
  · have : get b = none := by unfold get; rw [if_pos h8]
    rw [this]
    go_enter Tryz.func210, Tryz.ntmps210
    go_wp2
    go_ret3
    exact ⟨rfl, Below.refl _ _⟩
  · have HR := Lib.hid hr
    have HB := Lib.hid hb
    clear hr hb
    have h4 : (4 : Int) ≤ c := by omega
    have h4' : 4 ≤ c := by omega
    go_enter Tryz.func210, Tryz.ntmps210
    go_wp2
    go_loopw [5, 17] (fun n i wr => ∃ (k : Nat) (N : Int), k ≤ 4 ∧ i = .int .i64 k ∧ n = .int .u32 N ∧ Hid (N = val b k) ∧ Hid (Below w.heap.size w wr)) (fun _ i _ => 4 - (intOf i).toNat)
    case atStart => exact ⟨0, 0, by omega, rfl, rfl, rfl, Below.refl _ _⟩
    case round =>
      obtain ⟨k, N, hk, rfl, rfl, hN, hbd⟩ := hrel
      by_cases hlt : k < 4
      · obtain ⟨x, rfl, hxb, hxc⟩ := (HR.out.below hbd.out).cell (j := k) (by omega)
        have hv := val_range HB.out k (by omega)
        have hy := HB.out.getD (j := k) (by omega)
        have hN1 : 0 ≤ N ∧ N < 16777216 := by
          rw [hN.out]
          have : (256 : Int) ^ k ≤ 16777216 := by
            rcases (show k = 0 ∨ k = 1 ∨ k = 2 ∨ k = 3 by omega) with rfl | rfl | rfl | rfl <;> decide
          omega
        clear hv
        obtain ⟨y, hye⟩ : ∃ y, y = b.getD k 0 := ⟨_, rfl⟩
        rw [← hye] at hxc hy
        have HY := Lib.hid hye
        clear hye
        go_wp2
        go_roundw
        case rel =>
          refine ⟨k + 1, N * 256 + y, by omega, rfl, by rw [or_low N y hN1.1 hN1.2 hy.1 hy.2], ?_, hbd⟩
          show _ = val b k * 256 + b.getD k 0
          rw [hN.out, HY.out]
        case measure => simp [intOf]; omega
      · obtain rfl : k = 4 := by omega
        have hNr : 0 ≤ N := by rw [hN.out]; exact (val_range HB.out 4 (by omega)).1
        by_cases hbig : 16384 < N
        · have : get b = none := by unfold get; rw [if_neg h8, if_pos (by rw [← hN.out]; exact hbig)]
          have HG := Lib.hid this
          clear this
          go_wp2
          go_ret3
          exact ⟨by rw [HG.out]; rfl, hbd.out⟩
        · obtain ⟨n, rfl⟩ : ∃ n : Nat, N = n := ⟨N.toNat, by omega⟩
          have hn : n ≤ 16384 := by omega
          have hval : (val b 4).toNat = n := by rw [← hN.out]; simp
          have hval2 : ¬ 16384 < val b 4 := by rw [← hN.out]; exact hbig
          have HVA := Lib.hid (And.intro hval hval2)
          clear hval hval2 hN hNr
          go_wp2_with fail
          refine (sectors n (by omega) _).mono ?_
          rintro e w1 ⟨rfl, h⟩
          subst h
          have hSb : nsec n ≤ 258 ∧ n + 8 ≤ nsec n * 64 := by unfold nsec; omega
          by_cases hlen : b.length < nsec n * 64
          · have : get b = none := by unfold get; rw [if_neg h8, if_neg (Int.not_lt.2 HVA.out.2), HVA.out.1, if_pos hlen]
            have HG := Lib.hid this
            clear this HVA
            obtain ⟨S, hS⟩ : ∃ S, S = nsec n := ⟨_, rfl⟩
            rw [← hS] at hlen hSb ⊢
            have hS2 : (S : Int) ≤ 258 := by omega
            have hlt : (b.length : Int) < S * 64 := by omega
            clear hS hSb
            go_wp2
            go_ret3
            exact ⟨by rw [HG.out]; rfl, hbd.out⟩
          · obtain ⟨S, hS⟩ : ∃ S, S = nsec n := ⟨_, rfl⟩
            have HS := Lib.hid hS
            rw [← hS] at hlen hSb ⊢
            clear hS
            have hS2 : (S : Int) ≤ 258 := by omega
            have hlt : ¬ (b.length : Int) < S * 64 := by omega
            have hcut := sl_cut (P := Tryz.prog) 45 5 .i64 .i64 .i64 Tryz.underlying45 Sums.info1 A b.length c 8 (8 + n) (8 + n) 8 (8 + (n : Int)) (8 + (n : Int)) (by omega) (by omega) (by omega) (by omega) (by omega) (by omega)
            rw [show 8 + n - 8 = n by omega] at hcut
            go_wp2_with fail
            have hrr : Rd .u8 w1 (dropA A (8 + n) 8) ((b.drop 8).take n) := by
              have h1 := (((HR.out.below hbd.out).take (8 + n)).drop (n := 8) (c := 8 + n) (by rw [List.length_take]; omega))
              rwa [List.drop_take, show 8 + n - 8 = n by omega] at h1
            refine (Same.clone (dropA A (8 + n) 8) n n ((b.drop 8).take n) w1 (by rw [List.length_take, List.length_drop]; omega) (by omega) ?_ hrr).mono ?_
            · left; obtain ⟨x, rfl, _⟩ := HR.out.cell (j := 0) (by omega); unfold dropA; split <;> simp
            rintro e w2 ⟨v, rfl, own2, bd2⟩
            obtain ⟨r, hrE⟩ : ∃ r, r = (b.drop 8).take n := ⟨_, rfl⟩
            have HRE := Lib.hid hrE
            rw [← hrE] at own2
            clear hrr hrE
            have hrl : r.length = n := by rw [HRE.out, List.length_take, List.length_drop]; omega
            have hrb : Bts r := by rw [HRE.out]; exact (HB.out.drop 8).take n
            have H2 := Lib.hid (And.intro own2 (And.intro bd2 (And.intro hrl hrb)))
            clear own2 bd2 hrl hrb
            go_wp2_with fail
            refine (put_own H2.out.1 (by rw [H2.out.2.2.1]; omega) H2.out.2.2.2).mono ?_
            rintro e w3 ⟨v3, rfl, own3, bd3⟩
            have hput := put_length r
            rw [H2.out.2.2.1, ← HS.out] at hput
            have HP := Lib.hid hput
            have H3 := Lib.hid (And.intro own3 (And.intro bd3 (H2.out.1.new bd3)))
            clear own3 bd3 hput hcut
            have hcut2 : ∀ W, (Instr.slice 45 (.slice A b.length c) none (some (.int .i64 ((S : Int) * 64))) none).run Tryz.prog W = .ok (.slice A (S * 64) c) W := by
              have h := sl_take (P := Tryz.prog) 45 5 .i64 Tryz.underlying45 Sums.info1 A b.length c (S * 64) (by omega)
              rwa [show ((S * 64 : Nat) : Int) = (S : Int) * 64 by omega] at h
            obtain ⟨A3, c3, hv3, _, _, hr3, _⟩ := H3.out.1.slice
            rw [HP.out] at hv3
            subst hv3
            have HR3 := Lib.hid hr3
            clear hr3
            go_wp2_with fail
            have hbd3 : Below w1.heap.size w1 w3 := H2.out.2.1.trans (below_weak H2.out.2.1.size H3.out.2.1)
            have hbd4 := hbd.out.trans (below_weak hbd.out.size hbd3)
            have HB4 := Lib.hid hbd4
            refine (Same.equal_m A3 A (S * 64) (S * 64) c3 c (put r) (b.take (S * 64)) w3 HP.out (by rw [List.length_take]; omega) (by omega) (by omega) HR3.out ((HR.out.below hbd4).take _)).mono ?_
            clear hbd3 hbd4
            rintro e w4 ⟨rfl, bd4⟩
            have HB5 := Lib.hid (HB4.out.trans (below_weak HB4.out.size bd4))
            have H5 := Lib.hid (H3.out.2.2.new bd4)
            clear bd4
            by_cases heq : put r = b.take (S * 64)
            · have hg : get b = some (r, S) := by
                unfold get; rw [if_neg h8, if_neg (Int.not_lt.2 HVA.out.2), HVA.out.1, ← HS.out, if_neg hlen, ← HRE.out, if_pos heq]
              have HG := Lib.hid hg
              rw [decide_eq_true heq]
              clear hg heq
              go_wp2
              go_ret3
              exact ⟨by rw [HG.out]; exact ⟨_, rfl, H5.out.lower hbd.out.size⟩, HB5.out⟩
            · have hg : get b = none := by
                unfold get; rw [if_neg h8, if_neg (Int.not_lt.2 HVA.out.2), HVA.out.1, ← HS.out, if_neg hlen, ← HRE.out, if_neg heq]
              have HG := Lib.hid hg
              rw [decide_eq_false heq]
              clear hg heq
              go_wp2
              go_ret3
              exact ⟨by rw [HG.out]; rfl, HB5.out⟩
end Go.Proofs.YticnjkdaccacaaaGreatDoor.Frames
end
section
namespace Go.Proofs.YticnjkdaccacaaaGreatDoor.Frames
open Go.RowKit Crc Sums Base _root_.Go.Proofs.YticnjkdaccacaaaGreatDoor.Own
theorem head_eq (n : Int) : head n = [n / 16777216 % 256, n / 65536 % 256, n / 256 % 256, n % 256] := by
  unfold head
  rw [byte3]
  simp [byte]
theorem head_length (n : Int) : (head n).length = 4 := rfl
theorem nsec_ge (n : Nat) : n + 8 ≤ nsec n * 64 := by unfold nsec; omega
theorem put_eq (r : List Int) : put r = head r.length ++ (head (num (on (on 0#32 (head r.length)) r)) ++ (r ++ List.replicate (nsec r.length * 64 - 8 - r.length) 0)) := by
  have h := nsec_ge r.length
  obtain ⟨M, hM⟩ : ∃ M, nsec r.length * 64 = 8 + M := ⟨nsec r.length * 64 - 8, by omega⟩
  unfold put
  rw [hM]
  have e : List.replicate (8 + M) (0 : Int) = 0 :: 0 :: 0 :: 0 :: 0 :: 0 :: 0 :: 0 :: List.replicate M 0 := by
    rw [Nat.add_comm]; rfl
  rw [e]
  simp only [told, Nat.zero_add, List.set_cons_zero, List.set_cons_succ, splice, Nat.reduceAdd]
  have e2 : ∀ (a b c d e f g h : Int) (l : List Int) (k : Nat), (a :: b :: c :: d :: e :: f :: g :: h :: l).drop (8 + k) = l.drop k := by
    intro a b c d e f g h l k
    rw [show 8 + k = k + 8 by omega]; rfl
  rw [e2, show 8 + M - 8 - r.length = M - r.length by omega, List.drop_replicate]
  rfl
theorem val_head (n : Int) (l : List Int) (h0 : 0 ≤ n) (h1 : n < 4294967296) : val (head n ++ l) 4 = n := by
  rw [head_eq]
  simp only [val, List.cons_append, List.getD_cons_zero, List.getD_cons_succ]
  omega
theorem head_drop (n : Int) (l : List Int) : (head n ++ l).drop 4 = l := rfl
theorem drop8 (m n : Int) (l : List Int) : (head m ++ (head n ++ l)).drop 8 = l := rfl
theorem put_bts {r : List Int} (hb : Bts r) : Bts (put r) := by
  rw [put_eq]
  refine (head_bts _).append ((head_bts _).append (hb.append ?_))
  intro x hx
  rw [List.eq_of_mem_replicate hx]; decide
theorem put_drop (r m : List Int) : ((put r ++ m).drop 8).take r.length = r := by
  rw [put_eq, List.append_assoc, List.append_assoc, drop8, List.append_assoc, List.take_left]
theorem put_val (r m : List Int) (hr : r.length ≤ 16384) : val (put r ++ m) 4 = r.length := by
  rw [put_eq, List.append_assoc]
  exact val_head _ _ (by omega) (by omega)
theorem get_put (r m : List Int) (hr : r.length ≤ 16384) : get (put r ++ m) = some (r, nsec r.length) := by
  have h := put_length r
  have h2 := nsec_ge r.length
  unfold get
  rw [if_neg (by rw [List.length_append]; omega), put_val r m hr, if_neg (by omega), Int.toNat_natCast, if_neg (by rw [List.length_append]; omega), put_drop, if_pos (by rw [← h, List.take_left])]
theorem get_some {b r : List Int} {k : Nat} (h : get b = some (r, k)) : k = nsec r.length ∧ r.length ≤ 16384 ∧ put r = b.take (k * 64) ∧ k * 64 ≤ b.length ∧ r = (b.drop 8).take r.length := by
  unfold get at h
  split at h
  · cases h
  split at h
  · cases h
  split at h
  · cases h
  split at h
  · rename_i h1 h2 h3 h4
    simp only [Option.some.injEq, Prod.mk.injEq] at h
    obtain ⟨hr, hk⟩ := h
    have h5 := nsec_ge (val b 4).toNat
    have h6 : r.length = (val b 4).toNat := by rw [← hr, List.length_take, List.length_drop]; omega
    rw [hr] at h4
    refine ⟨by rw [h6, hk], by omega, by rw [h4, hk], by omega, by rw [h6, hr]⟩
  · cases h
theorem get_short {b : List Int} (h : b.length < 64) : get b = none := by
  unfold get
  split
  · rfl
  split
  · rfl
  · rw [if_pos]; unfold nsec; omega
theorem put_inj (a b : List Int) (ha : a.length ≤ 16384) (hb : b.length ≤ 16384) (n : Nat) (hn : n = min (put a).length (put b).length) (h : (put a).take n = (put b).take n) : a = b := by
  have h1 := put_val a [] ha
  have h2 := put_val b [] hb
  rw [List.append_nil] at h1 h2
  have la := put_length a
  have lb := put_length b
  have ga := nsec_ge a.length
  have gb := nsec_ge b.length
  have h4 : ∀ l : List Int, 4 ≤ n → val (l.take n) 4 = val l 4 := by
    intro l h
    have : ∀ j, j < 4 → (l.take n).getD j 0 = l.getD j 0 := by
      intro j hj
      rw [List.getD_eq_getElem?_getD, List.getD_eq_getElem?_getD, List.getElem?_take, if_pos (by omega)]
    simp only [val, this 0 (by omega), this 1 (by omega), this 2 (by omega), this 3 (by omega)]
  have h5 : a.length = b.length := by
    have := h4 (put a) (by omega)
    rw [h, h4 (put b) (by omega)] at this
    omega
  have h6 : n = (put a).length := by rw [hn, la, lb, h5]; omega
  have h7 : n = (put b).length := by rw [hn, la, lb, h5]; omega
  rw [h6, List.take_length, ← h6, h7, List.take_length] at h
  have e1 := put_drop a []
  have e2 := put_drop b []
  rw [List.append_nil] at e1 e2
  rw [← e1, h, h5, e2]
end Go.Proofs.YticnjkdaccacaaaGreatDoor.Frames
end
section
namespace Go.Proofs.YticnjkdaccacaaaGreatDoor.Base
open Go Go.RowKit
section
variable {P : Program} {ops : Array Oper} {Q : Exit → Act → World → Prop} {S1 S2 : World → Prop} {Y : Nat → Nat} {l : Array Bool}
def cnd (S1 S2 : World → Prop) (y : Nat) (w w' : World) : Prop := if y = 0 then w' = w else if y = 1 then S1 w' else S2 w'
def wpAnyP (P : Program) (ops : Array Oper) (Q : Exit → Act → World → Prop) (S1 S2 : World → Prop) (Y : Nat → Nat) : Nat → Array Bool → Act → World → Prop
  | 0, l, a, w => Region.ready .any ops l = [] ∧ Q .normal a w
  | n + 1, l, a, w => (Region.ready .any ops l = [] → Q .normal a w) ∧ ∀ i ∈ Region.ready .any ops l, wpOp P ops Q i (fun a' w' => cnd S1 S2 (Y i) w w' ∧ wpAnyP P ops Q S1 S2 Y n (l.setIfInBounds i true) a' w') a w
theorem wpAny_of_P : ∀ (n : Nat) (l : Array Bool) (a : Act) (w : World), wpAnyP P ops Q S1 S2 Y n l a w → wpAny P .any ops Q n l a w
  | 0, _, _, _, h => h
  | n + 1, _, _, _, h => ⟨h.1, fun i hi => wpOp_mono (fun a' w' h' => wpAny_of_P n _ a' w' h'.2) (h.2 i hi)⟩
theorem unset {i j : Nat} (h : (l.setIfInBounds i true).getD j true = false) : l.getD j true = false ∧ i ≠ j := by
  by_cases hij : i = j
  · subst hij
    rw [Array.getD_eq_getD_getElem?] at h
    by_cases hl : i < l.size
    · simp [hl] at h
    · simp [hl] at h
  · rw [getD_set_ne true hij] at h; exact ⟨h, hij⟩
theorem P_of_H : ∀ (n : Nat) (l : Array Bool) (a : Act) (w : World), (∀ i, l.getD i true = false → Y i = 2) → wpAnyH P .any ops Q S2 n l a w → wpAnyP P ops Q S1 S2 Y n l a w
  | 0, _, _, _, _, h => h
  | n + 1, l, a, w, hy, h => ⟨h.1, fun i hi => wpOp_mono (fun a' w' h' => ⟨by rw [hy i (mem_ready.1 hi).1]; exact h'.1, P_of_H n _ a' w' (fun j hj => hy j (unset hj).1) h'.2⟩) (h.2 i hi)⟩
def Clo (ops : Array Oper) (l : Array Bool) : Prop := ∀ j o, l.getD j false = true → ops[j]? = some o → ∀ e ∈ o.after, Region.binds .any e = true → l.getD e.on false = true
theorem Clo.set {i : Nat} (h : Clo ops l) (hi : i ∈ Region.ready .any ops l) : Clo ops (l.setIfInBounds i true) := by
  intro j o hj ho e he hb
  by_cases hij : i = j
  · subst hij
    obtain ⟨_, o', ho', hall⟩ := mem_ready.1 hi
    rw [ho] at ho'; injection ho' with ho'; subst ho'
    exact getD_set_true (hall e he hb)
  · rw [getD_set_ne false hij] at hj
    exact getD_set_true (h j o hj ho e he hb)
def deps (ops : Array Oper) : Nat → Nat → Nat → Bool
  | 0, _, _ => false
  | n + 1, k, i => match ops[k]? with
    | none => false
    | some o => o.after.toList.any (fun e => Region.binds .any e && e.on == i) || o.after.toList.any (fun e => Region.binds .any e && deps ops n e.on i)
theorem deps_spec : ∀ (n k i : Nat) (o : Oper), Clo ops l → ops[k]? = some o → (∀ e ∈ o.after, Region.binds .any e = true → l.getD e.on false = true) → deps ops n k i = true → l.getD i false = true := by
  intro n
  induction n with
  | zero => intro k i o _ _ _ h; cases h
  | succ n ih =>
    intro k i o hc ho hall h
    unfold deps at h
    rw [ho] at h
    simp only [Bool.or_eq_true, List.any_eq_true, Array.mem_toList_iff] at h
    rcases h with ⟨e, he, h⟩ | ⟨e, he, h⟩
    · simp only [Bool.and_eq_true, beq_iff_eq] at h
      rw [← h.2]; exact hall e he h.1
    · simp only [Bool.and_eq_true] at h
      have h1 := hall e he h.1
      cases ho' : ops[e.on]? with
      | none =>
        have h2 := h.2
        cases n with
        | zero => cases h2
        | succ n => unfold deps at h2; rw [ho'] at h2; cases h2
      | some o' => exact ih e.on i o' hc ho' (hc e.on o' h1 ho') h.2
theorem P_first {i : Nat} {oi : Oper} {v : Value} (hi : ops[i]? = some oi) (hsel : Region.noSelect ops = true) (hQ : ∀ c a w, Q (.panic c) (a.put oi.dst v) w → Q (.panic c) a w) (hcl : ∀ k, Y k ≠ 0 → Y k ≠ 1 → Y k = 2) (hYi : Y i = 1) (hY : ∀ k, k < ops.size → Y k = 2 → deps ops 8 k i = true) :
    ∀ (n : Nat) (l : Array Bool) (a : Act) (w : World), Clo ops l → (∀ j oj, ops[j]? = some oj → j ≠ i → l.getD j true = false → (∀ e ∈ oj.after, Region.binds .any e = true → e.on ≠ i) → oi.apart ops oj = true) →
      i ∈ Region.ready .any ops l → YieldsIf P ops S1 oi v a → S1 w → wpAnyP P ops Q S1 S2 Y n (l.setIfInBounds i true) (a.put oi.dst v) w → wpAnyP P ops Q S1 S2 Y (n + 1) l a w := by
  have hno : ∀ {l : Array Bool} {j : Nat}, Clo ops l → i ∈ Region.ready .any ops l → j ∈ Region.ready .any ops l → Y j ≠ 2 := by
    intro l j hc hr hj hyj
    · obtain ⟨_, o, ho, hall⟩ := mem_ready.1 hj
      have h1 := deps_spec 8 j i o hc ho hall (hY j (Array.getElem?_eq_some_iff.1 ho).1 hyj)
      have h2 := (mem_ready.1 hr).1
      rw [Array.getD_eq_getD_getElem?] at h1 h2
      cases hl : l[i]? with
      | none => rw [hl] at h1; cases h1
      | some b => rw [hl] at h1 h2; simp only [Option.getD_some] at h1 h2; rw [h1] at h2; cases h2
  intro n
  induction n with
  | zero =>
    intro l a w hc _ hr hy hS H
    refine ⟨fun h => (by rw [h] at hr; cases hr), fun j hj => ?_⟩
    by_cases hji : j = i
    · subst hji; exact hy.wpOp hi hS ⟨by rw [hYi]; exact hS, H⟩
    · have h1 := ready_mono hj hji
      rw [H.1] at h1
      cases h1
  | succ n ih =>
    intro l a w hc hfree hr hy hS H
    refine ⟨fun h => (by rw [h] at hr; cases hr), fun j hj => ?_⟩
    by_cases hji : j = i
    · subst hji; exact hy.wpOp hi hS ⟨by rw [hYi]; exact hS, H⟩
    · have hYj := hno hc hr hj
      have h1 := H.2 j (ready_mono hj hji)
      obtain ⟨hjun, oj, hoj, hall⟩ := mem_ready.1 hj
      have hnot : ∀ e ∈ oj.after, Region.binds .any e = true → e.on ≠ i := fun e he hb heq => by
        have g1 := hall e he hb
        have g0 := (mem_ready.1 hr).1
        rw [heq, Array.getD_eq_getD_getElem?] at g1
        rw [Array.getD_eq_getD_getElem?] at g0
        cases hl : l[i]? with
        | none => rw [hl] at g1; cases g1
        | some b => rw [hl] at g1 g0; simp only [Option.getD_some] at g1 g0; rw [g1] at g0; cases g0
      have h2 := wpOp_putIf hoj (hfree j oj hoj hji hjun hnot) (fun cs b => Region.noSelect_spec hsel i oi cs b hi) (fun cs b => Region.noSelect_spec hsel j oj cs b hoj) hQ hy h1
      refine wpOp_mono (fun a' w' h3 => ?_) h2
      obtain ⟨h3, h4, h5⟩ := h3
      have h6 : S1 w' := by
        unfold cnd at h4
        split at h4
        · rw [h4]; exact hS
        · split at h4
          · exact h4
          · rename_i q1 q2; exact (hYj (hcl _ q1 q2)).elim
      refine ⟨h4, ih _ a' w' (hc.set hj) (fun k ok hk hki hun hno' => hfree k ok hk hki (unset hun).1 hno') (ready_mono hr (Ne.symm hji)) h3 h6 ?_⟩
      rw [Array.setIfInBounds_comm _ _ hji]
      exact h5
theorem P_zero {i : Nat} {oi : Oper} {v : Value} (hi : ops[i]? = some oi) (hsel : Region.noSelect ops = true) (hQ : ∀ c a w, Q (.panic c) (a.put oi.dst v) w → Q (.panic c) a w) (hYi : Y i = 0) (h12 : ∀ w, S1 w → S2 w) :
    ∀ (n : Nat) (l : Array Bool) (a : Act) (w : World), Clo ops l → (∀ j oj, ops[j]? = some oj → j ≠ i → l.getD j true = false → (∀ e ∈ oj.after, Region.binds .any e = true → e.on ≠ i) → oi.apart ops oj = true) →
      i ∈ Region.ready .any ops l → YieldsIf P ops S2 oi v a → S2 w → wpAnyP P ops Q S1 S2 Y n (l.setIfInBounds i true) (a.put oi.dst v) w → wpAnyP P ops Q S1 S2 Y (n + 1) l a w := by
  intro n
  induction n with
  | zero =>
    intro l a w hc _ hr hy hS H
    refine ⟨fun h => (by rw [h] at hr; cases hr), fun j hj => ?_⟩
    by_cases hji : j = i
    · subst hji; exact hy.wpOp hi hS ⟨by rw [hYi]; rfl, H⟩
    · have h1 := ready_mono hj hji
      rw [H.1] at h1
      cases h1
  | succ n ih =>
    intro l a w hc hfree hr hy hS H
    refine ⟨fun h => (by rw [h] at hr; cases hr), fun j hj => ?_⟩
    by_cases hji : j = i
    · subst hji; exact hy.wpOp hi hS ⟨by rw [hYi]; rfl, H⟩
    · have h1 := H.2 j (ready_mono hj hji)
      obtain ⟨hjun, oj, hoj, hall⟩ := mem_ready.1 hj
      have hnot : ∀ e ∈ oj.after, Region.binds .any e = true → e.on ≠ i := fun e he hb heq => by
        have g1 := hall e he hb
        have g0 := (mem_ready.1 hr).1
        rw [heq, Array.getD_eq_getD_getElem?] at g1
        rw [Array.getD_eq_getD_getElem?] at g0
        cases hl : l[i]? with
        | none => rw [hl] at g1; cases g1
        | some b => rw [hl] at g1 g0; simp only [Option.getD_some] at g1 g0; rw [g1] at g0; cases g0
      have h2 := wpOp_putIf hoj (hfree j oj hoj hji hjun hnot) (fun cs b => Region.noSelect_spec hsel i oi cs b hi) (fun cs b => Region.noSelect_spec hsel j oj cs b hoj) hQ hy h1
      refine wpOp_mono (fun a' w' h3 => ?_) h2
      obtain ⟨h3, h4, h5⟩ := h3
      have h6 : S2 w' := by
        unfold cnd at h4
        split at h4
        · rw [h4]; exact hS
        · split at h4
          · exact h12 _ h4
          · exact h4
      refine ⟨h4, ih _ a' w' (hc.set hj) (fun k ok hk hki hun hno' => hfree k ok hk hki (unset hun).1 hno') (ready_mono hr (Ne.symm hji)) h3 h6 ?_⟩
      rw [Array.setIfInBounds_comm _ _ hji]
      exact h5
def okP (ops : Array Oper) (Y : Nat → Nat) (σ2 : List Sg) : Array Bool → List Sg → Bool
  | l, [] => okS ops l σ2 && (List.range ops.size).all (fun i => l.getD i true || Y i == 2)
  | l, .one (i, true, _) :: r => Y i == 1 && (List.range ops.size).all (fun k => !(Y k == 2) || deps ops 8 k i) && Region.free .any ops l i && (Region.ready .any ops l).contains i && okP ops Y σ2 (l.setIfInBounds i true) r
  | l, .one (i, false, _) :: r => Y i == 1 && (Region.ready .any ops l == [i]) && okP ops Y σ2 (l.setIfInBounds i true) r
  | _, .two _ _ _ _ :: _ => false
def okZ (ops : Array Oper) (Y : Nat → Nat) (σ1 σ2 : List Sg) : Array Bool → List Sg → Bool
  | l, [] => okP ops Y σ2 l σ1
  | l, .one (i, true, _) :: r => Y i == 0 && Region.free .any ops l i && (Region.ready .any ops l).contains i && okZ ops Y σ1 σ2 (l.setIfInBounds i true) r
  | _, _ => false
theorem phase_held {Q1 : Exit → Act → World → Prop} {σ2 : List Sg} (hsel : Region.noSelect ops = true) (hcl : ∀ k, Y k ≠ 0 → Y k ≠ 1 → Y k = 2) (h12 : ∀ w, S1 w → S2 w) (hQ1 : ∀ a w, Q1 .normal a w → Sched P ops Q S2 σ2 a w) :
    ∀ (σ1 : List Sg) (l : Array Bool) (a : Act) (w : World), l.size = ops.size → Clo ops l → okP ops Y σ2 l σ1 = true → S1 w → Sched P ops Q1 S1 σ1 a w → wpAnyP P ops (np Q) S1 S2 Y (cost σ1 + cost σ2) l a w := by
  intro σ1
  induction σ1 with
  | nil =>
    intro l a w hl _ hok hS h
    simp only [okP, Bool.and_eq_true, List.all_eq_true, List.mem_range, Bool.or_eq_true, beq_iff_eq] at hok
    rw [show cost [] + cost σ2 = cost σ2 from Nat.zero_add _]
    refine P_of_H _ _ _ _ (fun i hi => ?_) (sched_held hsel σ2 l a w hok.1 (h12 w hS) (hQ1 a w h))
    by_cases hlt : i < ops.size
    · rcases hok.2 i hlt with h1 | h1
      · rw [hi] at h1; cases h1
      · exact h1
    · rw [Array.getD_eq_getD_getElem?, Array.getElem?_eq_none (by omega)] at hi; cases hi
  | cons x r ih =>
    cases x with
    | two i j N M => intro l a w _ _ hok _ _; simp [okP] at hok
    | one x =>
      obtain ⟨i, b, N⟩ := x
      intro l a w hl hc hok hS h
      rw [show cost (.one (i, b, N) :: r) + cost σ2 = (cost r + cost σ2) + 1 from by simp only [cost]; omega]
      cases b with
      | true =>
        obtain ⟨o, v, ho, rfl, hy, h⟩ := h
        simp only [okP, Bool.and_eq_true, Bool.not_eq_true', List.all_eq_true, List.mem_range, Bool.or_eq_true, List.contains_iff_mem, beq_iff_eq, beq_eq_false_iff_ne] at hok
        obtain ⟨⟨⟨⟨h1, h2⟩, h3⟩, h4⟩, h5⟩ := hok
        exact P_first ho hsel (fun _ _ _ hp => hp) hcl h1 (fun k hk hy => (h2 k hk).resolve_left (fun hn => hn hy)) _ l a w hc (Region.free_spec ho h3) h4 hy hS (ih _ _ _ (by simpa using hl) (hc.set h4) h5 hS h)
      | false =>
        obtain ⟨o, ho, rfl, h⟩ := h
        simp only [okP, Bool.and_eq_true, beq_iff_eq] at hok
        obtain ⟨⟨h1, h2⟩, h3⟩ := hok
        refine ⟨fun h0 => (by rw [h2] at h0; cases h0), fun j hj => ?_⟩
        have hr : i ∈ Region.ready .any ops l := by rw [h2]; simp
        rw [h2] at hj
        simp only [List.mem_singleton] at hj
        subst hj
        have h' := h (fun a' w' => cnd S1 S2 (Y j) w w' ∧ wpAnyP P ops (np Q) S1 S2 Y (cost r + cost σ2) (l.setIfInBounds j true) a' w') (fun a' w' hS' hh => ⟨by rw [h1]; exact hS', ih _ _ _ (by simpa using hl) (hc.set hr) h3 hS' hh⟩)
        unfold wpOp
        simp only [ho]
        split
        · rename_i hw; rw [if_pos hw] at h'; exact .inl (upon_weaken _ h')
        · rename_i hw; rw [if_neg hw] at h'; exact h'
theorem zero_held {Q0 Q1 : Exit → Act → World → Prop} {σ1 σ2 : List Sg} (hsel : Region.noSelect ops = true) (hcl : ∀ k, Y k ≠ 0 → Y k ≠ 1 → Y k = 2) (h12 : ∀ w, S1 w → S2 w) (hQ1 : ∀ a w, Q1 .normal a w → Sched P ops Q S2 σ2 a w) (hQ0 : ∀ a w, Q0 .normal a w → Sched P ops Q1 S1 σ1 a w) :
    ∀ (σ0 : List Sg) (l : Array Bool) (a : Act) (w : World), l.size = ops.size → Clo ops l → okZ ops Y σ1 σ2 l σ0 = true → S1 w → Sched P ops Q0 S2 σ0 a w → wpAnyP P ops (np Q) S1 S2 Y (cost σ0 + (cost σ1 + cost σ2)) l a w := by
  intro σ0
  induction σ0 with
  | nil =>
    intro l a w hl hc hok hS h
    rw [show cost [] + (cost σ1 + cost σ2) = cost σ1 + cost σ2 from Nat.zero_add _]
    exact phase_held hsel hcl h12 hQ1 σ1 l a w hl hc hok hS (hQ0 a w h)
  | cons x r ih =>
    cases x with
    | two i j N M => intro l a w _ _ hok _ _; simp [okZ] at hok
    | one x =>
      obtain ⟨i, b, N⟩ := x
      intro l a w hl hc hok hS h
      rw [show cost (.one (i, b, N) :: r) + (cost σ1 + cost σ2) = (cost r + (cost σ1 + cost σ2)) + 1 from by simp only [cost]; omega]
      cases b with
      | true =>
        obtain ⟨o, v, ho, rfl, hy, h⟩ := h
        simp only [okZ, Bool.and_eq_true, List.contains_iff_mem, beq_iff_eq] at hok
        obtain ⟨⟨⟨h1, h3⟩, h4⟩, h5⟩ := hok
        exact P_zero ho hsel (fun _ _ _ hp => hp) h1 h12 _ l a w hc (Region.free_spec ho h3) h4 hy (h12 w hS) (ih _ _ _ (by simpa using hl) (hc.set h4) h5 hS h)
      | false => simp [okZ] at hok
def phL (P : Program) (Q : Exit → Act → World → Prop) (S2 : World → Prop) (L2 : List Itm) : Exit → Act → World → Prop
  | .normal, a, w => SL P Q S2 L2 a w
  | _, _, _ => False
theorem sl_next {L2 : List Itm} {a : Act} {w : World} (h : SL P Q S2 L2 a w) : SL P (phL P Q S2 L2) S1 [] a w := h
def cls (xs ys : List Nat) (i : Nat) : Nat := if ys.contains i then 2 else if xs.contains i then 0 else 1
theorem wp_region_ph {id : Nat} {a : Act} {w : World} (xs ys : List Nat) (σ0 : List Sg) (L0 : List Itm) (σ1 : List Sg) (L1 : List Itm) (σ2 : List Sg) (L2 : List Itm) (S1 S2 : World → Prop) (hm : P.follows .mixedOrders = true)
    (hok : (Region.noSelect ops && (ops.size == cost σ0 + (cost σ1 + cost σ2)) && okZ ops (cls xs ys) σ1 σ2 (Array.replicate ops.size false) σ0 && dstsOk ops σ0 && dstsOk ops σ1 && dstsOk ops σ2) = true) (hL0 : strips ops σ0 = some L0) (hL1 : strips ops σ1 = some L1) (hL2 : strips ops σ2 = some L2) (hS : S1 w.drew) (h12 : ∀ w, S1 w → S2 w)
    (h : SL P (phL P (phL P Q S2 L2) S1 L1) S2 L0 a w.drew) : (Code.region id ops true).wp P Q a w := by
  simp only [Bool.and_eq_true, beq_iff_eq] at hok
  obtain ⟨⟨⟨⟨⟨h1, h2⟩, h3⟩, h4⟩, h5⟩, h6⟩ := hok
  refine np_mono (wp_region_any hm (wpAny_of_P (S1 := S1) (S2 := S2) (Y := cls xs ys) _ _ _ _ ?_))
  rw [h2]
  exact zero_held h1 (fun k q1 q2 => by unfold cls at q1 q2 ⊢; split; rfl; rename_i q3; rw [if_neg q3] at q1 q2; split at q1 <;> simp_all) h12 (fun a w hh => sl_sched σ2 L2 a w hL2 h6 hh) (fun a w hh => sl_sched σ1 L1 a w hL1 h5 hh) σ0 _ a _ (by simp [h2]) (fun j o hj => by
    rw [Array.getD_eq_getD_getElem?] at hj
    simp [Array.getElem?_replicate] at hj
    split at hj <;> cases hj) (by rw [h2] at h3; exact h3) hS (sl_sched σ0 L0 a _ hL0 h4 h)
end
end Go.Proofs.YticnjkdaccacaaaGreatDoor.Base
end
