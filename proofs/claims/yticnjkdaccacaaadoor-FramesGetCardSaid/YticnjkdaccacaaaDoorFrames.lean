/- The walks of package frames. -/
import Derived.Test.YticnjkdaccacaaaDoorSums
import Derived.Test.YticnjkdaccacaaaDoorTwinBytes
namespace Go.Proofs.YticnjkdaccacaaaDoor.Frames
open Go.RowKit Crc Sums Base Own

def byte (n : Int) (k : Nat) : Int := n / (2 : Int) ^ (8 * (3 - k)) % 256
theorem byte0 (n : Int) : byte n 0 = n.fdiv 16777216 % 256 := by unfold byte; rw [Int.fdiv_eq_ediv_of_nonneg _ (by decide)]; rfl
theorem byte1 (n : Int) : byte n 1 = n.fdiv 65536 % 256 := by unfold byte; rw [Int.fdiv_eq_ediv_of_nonneg _ (by decide)]; rfl
theorem byte2 (n : Int) : byte n 2 = n.fdiv 256 % 256 := by unfold byte; rw [Int.fdiv_eq_ediv_of_nonneg _ (by decide)]; rfl
theorem byte3 (n : Int) : byte n 3 = n % 256 := by unfold byte; simp
def head (n : Int) : List Int := [byte n 0, byte n 1, byte n 2, byte n 3]
def told (l : List Int) (at' : Nat) (n : Int) : Nat → List Int
  | 0 => l
  | k + 1 => (told l at' n k).set (at' + k) (byte n k)
theorem told_length (l : List Int) (a : Nat) (n : Int) (k : Nat) : (told l a n k).length = l.length := by
  induction k with
  | zero => rfl
  | succ k ih => rw [told, List.length_set, ih]

set_option maxRecDepth 100000 in
theorem tell (a : Nat) (n : Int) (g g2 c B : Nat) (l : List Int) (w : World) (ha : a + 4 ≤ l.length) (ha2 : l.length ≤ 100000) (hn : 0 ≤ n ∧ n < 4294967296) (hgg : g2 ≠ g) (ho : OwnI .u8 w B 5 (.slice (some ⟨g, 0, none⟩) l.length c) l)
    (hv : w.cell? ⟨g2, 0, none⟩ = some (.slice (some ⟨g, 0, none⟩) l.length c)) :
    Calls Tryd.prog 15 #[.int .i64 a, .int .u32 n, .pointer (some ⟨g2, 0, none⟩)] w fun e w' => e = .returned (.tuple #[]) ∧ OwnI .u8 w' B 5 (.slice (some ⟨g, 0, none⟩) l.length c) (told l a n 4) ∧ Chg (fun k => k = g) w w' := by
  go_enter Tryd.func15, Tryd.ntmps15
  go_wp2
  have HO := Lib.hid ho
  clear ho
  have hvc : ∀ W, Chg (fun k => k = g) w W → W.cell? ⟨g2, 0, none⟩ = some (.slice (some ⟨g, 0, none⟩) l.length c) := by
    intro W hc
    rw [World.cell?_of_block (w := w) (hc.block _ (World.block_lt_of_cell? w _ hv) hgg)]
    exact hv
  have HV := Lib.hid hvc
  clear hv hvc
  go_loopw [6] (fun i wr => ∃ k : Nat, k ≤ 4 ∧ i = .int .i64 k ∧ Hid (OwnI .u8 wr B 5 (.slice (some ⟨g, 0, none⟩) l.length c) (told l a n k)) ∧ Hid (Chg (fun k => k = g) w wr)) (fun i _ => 4 - (intOf i).toNat)
  case atStart => exact ⟨0, by omega, rfl, HO.out, ⟨rfl, rfl, rfl, Nat.le_refl _, fun _ _ _ => rfl⟩⟩
  case round =>
    obtain ⟨k, hk, rfl, hown, hch⟩ := hrel
    by_cases hlt : k < 4
    · have hlen := told_length l a n k
      have hj : a + k < (told l a n k).length := by omega
      obtain ⟨hce, hfr, hgB, hgs, hz, hncc⟩ := hown.out.cell hj
      clear hz hlen
      have hk1 : a + k < l.length := by omega
      have HJ := Lib.hid hj
      clear hj
      have hkk : (k : Int) < 4 := by omega
      have hcv := HV.out wr hch.out
      go_wp2
      refine wp_region_sl [.one (0, true, some 9), .one (1, true, some 10), .one (2, true, some 11), .one (3, true, some 12), .one (4, true, some 13), .one (5, true, some 14), .one (6, true, some 15), .one (7, true, some 16), .one (8, true, some 17), .one (9, true, some 18), .one (10, true, some 19), .one (11, false, none)]
                [.one ⟨true, some 9, (Go.Op.load 22 (Go.Operand.tmp 2)), 22, none⟩,
                .one ⟨true, some 10, (Go.Op.move (Go.Operand.tmp 0)), 3, none⟩,
                .one ⟨true, some 11, (Go.Op.move (Go.Operand.tmp 5)), 3, none⟩,
                .one ⟨true, some 12, (Go.Op.binOp Go.BinOp.add 3 (Go.Operand.tmp 10) (Go.Operand.tmp 11) 3), 3, none⟩,
                .one ⟨true, some 13, (Go.Op.move (Go.Operand.tmp 1)), 48, none⟩,
                .one ⟨true, some 14, (Go.Op.move (Go.Operand.tmp 5)), 3, none⟩,
                .one ⟨true, some 15, (Go.Op.binOp Go.BinOp.sub 3 (Go.Operand.const (Go.Value.int Go.IntKind.i64 3)) (Go.Operand.tmp 14) 3), 3, none⟩,
                .one ⟨true, some 16, (Go.Op.binOp Go.BinOp.mul 3 (Go.Operand.const (Go.Value.int Go.IntKind.i64 8)) (Go.Operand.tmp 15) 3), 3, none⟩,
                .one ⟨true, some 17, (Go.Op.binOp Go.BinOp.shr 48 (Go.Operand.tmp 13) (Go.Operand.tmp 16) 3), 48, none⟩,
                .one ⟨true, some 18, (Go.Op.convert 48 5 (Go.Operand.tmp 17)), 5, none⟩,
                .one ⟨true, some 19, (Go.Op.indexAddr 22 (Go.Operand.tmp 9) (Go.Operand.tmp 12)), 0, none⟩,
                .one ⟨false, none, (Go.Op.store 5 (Go.Operand.tmp 19) (Go.Operand.tmp 18)), 0, none⟩]
                (fun w' => w'.cell? ⟨g2, 0, none⟩ = some (.slice (some ⟨g, 0, none⟩) l.length c)) rfl (by kernel_rfl) (by kernel_rfl) ?_ ?_
      · exact hcv
      rcases (show k = 0 ∨ k = 1 ∨ k = 2 ∨ k = 3 by omega) with rfl | rfl | rfl | rfl
      · have h1 : (a : Int) < l.length := by omega
        simp only [Nat.add_zero] at hce hfr
        (repeat (first | ((with_reducible refine sq (v := ?_) (a' := ?_) ?_ ?_ ?_); rotate_left 2; (focus (intro w' hS; go_simp; (first | done | with_reducible rfl | rfl))); (simp only [Act.put, List.setIfInBounds_toArray, List.set_cons_zero, List.set_cons_succ]; rfl)) | ((with_reducible refine sn (a' := ?_) ?_ ?_ ?_); rotate_left; (focus rfl); (simp only [Act.put, List.setIfInBounds_toArray, List.set_cons_zero, List.set_cons_succ]; rfl)) | ((with_reducible refine sf trivial (a' := ?_) ?_ ?_ ?_); rotate_left; (focus rfl); (simp only [Act.put, List.setIfInBounds_toArray, List.set_cons_zero, List.set_cons_succ]; rfl)) | ((with_reducible refine sqg (v := ?_) (a' := ?_) ?_ ?_ ?_ ?_); rotate_left 2; (focus rfl); (focus (intro w' hS; go_simp; (first | done | with_reducible rfl | rfl))); (simp only [Act.put, List.setIfInBounds_toArray, List.set_cons_zero, List.set_cons_succ]; rfl)))); (repeat ((go_bits; (first | ((with_reducible refine sq (v := ?_) (a' := ?_) ?_ ?_ ?_); rotate_left 2; (focus (intro w' hS; go_simp; (first | done | with_reducible rfl | rfl))); (simp only [Act.put, List.setIfInBounds_toArray, List.set_cons_zero, List.set_cons_succ]; rfl)) | ((with_reducible refine sn (a' := ?_) ?_ ?_ ?_); rotate_left; (focus rfl); (simp only [Act.put, List.setIfInBounds_toArray, List.set_cons_zero, List.set_cons_succ]; rfl)) | ((with_reducible refine sf trivial (a' := ?_) ?_ ?_ ?_); rotate_left; (focus rfl); (simp only [Act.put, List.setIfInBounds_toArray, List.set_cons_zero, List.set_cons_succ]; rfl)) | ((with_reducible refine sqg (v := ?_) (a' := ?_) ?_ ?_ ?_ ?_); rotate_left 2; (focus rfl); (focus (intro w' hS; go_simp; (first | done | with_reducible rfl | rfl))); (simp only [Act.put, List.setIfInBounds_toArray, List.set_cons_zero, List.set_cons_succ]; rfl)))); (repeat (first | ((with_reducible refine sq (v := ?_) (a' := ?_) ?_ ?_ ?_); rotate_left 2; (focus (intro w' hS; go_simp; (first | done | with_reducible rfl | rfl))); (simp only [Act.put, List.setIfInBounds_toArray, List.set_cons_zero, List.set_cons_succ]; rfl)) | ((with_reducible refine sn (a' := ?_) ?_ ?_ ?_); rotate_left; (focus rfl); (simp only [Act.put, List.setIfInBounds_toArray, List.set_cons_zero, List.set_cons_succ]; rfl)) | ((with_reducible refine sf trivial (a' := ?_) ?_ ?_ ?_); rotate_left; (focus rfl); (simp only [Act.put, List.setIfInBounds_toArray, List.set_cons_zero, List.set_cons_succ]; rfl)) | ((with_reducible refine sqg (v := ?_) (a' := ?_) ?_ ?_ ?_ ?_); rotate_left 2; (focus rfl); (focus (intro w' hS; go_simp; (first | done | with_reducible rfl | rfl))); (simp only [Act.put, List.setIfInBounds_toArray, List.set_cons_zero, List.set_cons_succ]; rfl)))))); (try go_bits)
        refine se fun K hK => ?_
        go_simp
        refine hK _ _ (HV.out _ ((hch.out.trans (Chg.setCell _ _ _) (fun _ _ h => h)).trans (Chg.drew _) (fun _ _ h => h.elim))) ?_
        refine sl_end ?_
        go_wp2
        go_roundw
        case rel =>
          refine ⟨1, by omega, rfl, ?_, ?_⟩
          · have hs := hown.out.set (x := byte n 0) HJ.out
            rw [← byte0 n]
            exact hs.kept (Chg.drew _) (fun _ _ h => h)
          · exact (hch.out.trans (Chg.setCell _ _ _) (fun _ _ h => h)).trans (Chg.drew _) (fun _ _ h => h.elim)
        case measure => simp [intOf]
      · have h1 : (a : Int) + 1 < l.length := by omega
        have h2 : 0 ≤ (a : Int) + 1 := by omega
        have h3 : ((a : Int) + 1).toNat = a + 1 := by omega
        (repeat (first | ((with_reducible refine sq (v := ?_) (a' := ?_) ?_ ?_ ?_); rotate_left 2; (focus (intro w' hS; go_simp; (first | done | with_reducible rfl | rfl))); (simp only [Act.put, List.setIfInBounds_toArray, List.set_cons_zero, List.set_cons_succ]; rfl)) | ((with_reducible refine sn (a' := ?_) ?_ ?_ ?_); rotate_left; (focus rfl); (simp only [Act.put, List.setIfInBounds_toArray, List.set_cons_zero, List.set_cons_succ]; rfl)) | ((with_reducible refine sf trivial (a' := ?_) ?_ ?_ ?_); rotate_left; (focus rfl); (simp only [Act.put, List.setIfInBounds_toArray, List.set_cons_zero, List.set_cons_succ]; rfl)) | ((with_reducible refine sqg (v := ?_) (a' := ?_) ?_ ?_ ?_ ?_); rotate_left 2; (focus rfl); (focus (intro w' hS; go_simp; (first | done | with_reducible rfl | rfl))); (simp only [Act.put, List.setIfInBounds_toArray, List.set_cons_zero, List.set_cons_succ]; rfl)))); (repeat ((go_bits; (first | ((with_reducible refine sq (v := ?_) (a' := ?_) ?_ ?_ ?_); rotate_left 2; (focus (intro w' hS; go_simp; (first | done | with_reducible rfl | rfl))); (simp only [Act.put, List.setIfInBounds_toArray, List.set_cons_zero, List.set_cons_succ]; rfl)) | ((with_reducible refine sn (a' := ?_) ?_ ?_ ?_); rotate_left; (focus rfl); (simp only [Act.put, List.setIfInBounds_toArray, List.set_cons_zero, List.set_cons_succ]; rfl)) | ((with_reducible refine sf trivial (a' := ?_) ?_ ?_ ?_); rotate_left; (focus rfl); (simp only [Act.put, List.setIfInBounds_toArray, List.set_cons_zero, List.set_cons_succ]; rfl)) | ((with_reducible refine sqg (v := ?_) (a' := ?_) ?_ ?_ ?_ ?_); rotate_left 2; (focus rfl); (focus (intro w' hS; go_simp; (first | done | with_reducible rfl | rfl))); (simp only [Act.put, List.setIfInBounds_toArray, List.set_cons_zero, List.set_cons_succ]; rfl)))); (repeat (first | ((with_reducible refine sq (v := ?_) (a' := ?_) ?_ ?_ ?_); rotate_left 2; (focus (intro w' hS; go_simp; (first | done | with_reducible rfl | rfl))); (simp only [Act.put, List.setIfInBounds_toArray, List.set_cons_zero, List.set_cons_succ]; rfl)) | ((with_reducible refine sn (a' := ?_) ?_ ?_ ?_); rotate_left; (focus rfl); (simp only [Act.put, List.setIfInBounds_toArray, List.set_cons_zero, List.set_cons_succ]; rfl)) | ((with_reducible refine sf trivial (a' := ?_) ?_ ?_ ?_); rotate_left; (focus rfl); (simp only [Act.put, List.setIfInBounds_toArray, List.set_cons_zero, List.set_cons_succ]; rfl)) | ((with_reducible refine sqg (v := ?_) (a' := ?_) ?_ ?_ ?_ ?_); rotate_left 2; (focus rfl); (focus (intro w' hS; go_simp; (first | done | with_reducible rfl | rfl))); (simp only [Act.put, List.setIfInBounds_toArray, List.set_cons_zero, List.set_cons_succ]; rfl)))))); (try go_bits)
        refine se fun K hK => ?_
        go_simp
        refine hK _ _ (HV.out _ ((hch.out.trans (Chg.setCell _ _ _) (fun _ _ h => h)).trans (Chg.drew _) (fun _ _ h => h.elim))) ?_
        refine sl_end ?_
        go_wp2
        go_roundw
        case rel =>
          refine ⟨2, by omega, rfl, ?_, ?_⟩
          · have hs := hown.out.set (x := byte n 1) HJ.out
            rw [← byte1 n]
            exact hs.kept (Chg.drew _) (fun _ _ h => h)
          · exact (hch.out.trans (Chg.setCell _ _ _) (fun _ _ h => h)).trans (Chg.drew _) (fun _ _ h => h.elim)
        case measure => simp [intOf]
      · have h1 : (a : Int) + 2 < l.length := by omega
        have h2 : 0 ≤ (a : Int) + 2 := by omega
        have h3 : ((a : Int) + 2).toNat = a + 2 := by omega
        (repeat (first | ((with_reducible refine sq (v := ?_) (a' := ?_) ?_ ?_ ?_); rotate_left 2; (focus (intro w' hS; go_simp; (first | done | with_reducible rfl | rfl))); (simp only [Act.put, List.setIfInBounds_toArray, List.set_cons_zero, List.set_cons_succ]; rfl)) | ((with_reducible refine sn (a' := ?_) ?_ ?_ ?_); rotate_left; (focus rfl); (simp only [Act.put, List.setIfInBounds_toArray, List.set_cons_zero, List.set_cons_succ]; rfl)) | ((with_reducible refine sf trivial (a' := ?_) ?_ ?_ ?_); rotate_left; (focus rfl); (simp only [Act.put, List.setIfInBounds_toArray, List.set_cons_zero, List.set_cons_succ]; rfl)) | ((with_reducible refine sqg (v := ?_) (a' := ?_) ?_ ?_ ?_ ?_); rotate_left 2; (focus rfl); (focus (intro w' hS; go_simp; (first | done | with_reducible rfl | rfl))); (simp only [Act.put, List.setIfInBounds_toArray, List.set_cons_zero, List.set_cons_succ]; rfl)))); (repeat ((go_bits; (first | ((with_reducible refine sq (v := ?_) (a' := ?_) ?_ ?_ ?_); rotate_left 2; (focus (intro w' hS; go_simp; (first | done | with_reducible rfl | rfl))); (simp only [Act.put, List.setIfInBounds_toArray, List.set_cons_zero, List.set_cons_succ]; rfl)) | ((with_reducible refine sn (a' := ?_) ?_ ?_ ?_); rotate_left; (focus rfl); (simp only [Act.put, List.setIfInBounds_toArray, List.set_cons_zero, List.set_cons_succ]; rfl)) | ((with_reducible refine sf trivial (a' := ?_) ?_ ?_ ?_); rotate_left; (focus rfl); (simp only [Act.put, List.setIfInBounds_toArray, List.set_cons_zero, List.set_cons_succ]; rfl)) | ((with_reducible refine sqg (v := ?_) (a' := ?_) ?_ ?_ ?_ ?_); rotate_left 2; (focus rfl); (focus (intro w' hS; go_simp; (first | done | with_reducible rfl | rfl))); (simp only [Act.put, List.setIfInBounds_toArray, List.set_cons_zero, List.set_cons_succ]; rfl)))); (repeat (first | ((with_reducible refine sq (v := ?_) (a' := ?_) ?_ ?_ ?_); rotate_left 2; (focus (intro w' hS; go_simp; (first | done | with_reducible rfl | rfl))); (simp only [Act.put, List.setIfInBounds_toArray, List.set_cons_zero, List.set_cons_succ]; rfl)) | ((with_reducible refine sn (a' := ?_) ?_ ?_ ?_); rotate_left; (focus rfl); (simp only [Act.put, List.setIfInBounds_toArray, List.set_cons_zero, List.set_cons_succ]; rfl)) | ((with_reducible refine sf trivial (a' := ?_) ?_ ?_ ?_); rotate_left; (focus rfl); (simp only [Act.put, List.setIfInBounds_toArray, List.set_cons_zero, List.set_cons_succ]; rfl)) | ((with_reducible refine sqg (v := ?_) (a' := ?_) ?_ ?_ ?_ ?_); rotate_left 2; (focus rfl); (focus (intro w' hS; go_simp; (first | done | with_reducible rfl | rfl))); (simp only [Act.put, List.setIfInBounds_toArray, List.set_cons_zero, List.set_cons_succ]; rfl)))))); (try go_bits)
        refine se fun K hK => ?_
        go_simp
        refine hK _ _ (HV.out _ ((hch.out.trans (Chg.setCell _ _ _) (fun _ _ h => h)).trans (Chg.drew _) (fun _ _ h => h.elim))) ?_
        refine sl_end ?_
        go_wp2
        go_roundw
        case rel =>
          refine ⟨3, by omega, rfl, ?_, ?_⟩
          · have hs := hown.out.set (x := byte n 2) HJ.out
            rw [← byte2 n]
            exact hs.kept (Chg.drew _) (fun _ _ h => h)
          · exact (hch.out.trans (Chg.setCell _ _ _) (fun _ _ h => h)).trans (Chg.drew _) (fun _ _ h => h.elim)
        case measure => simp [intOf]
      · have h1 : (a : Int) + 3 < l.length := by omega
        have h2 : 0 ≤ (a : Int) + 3 := by omega
        have h3 : ((a : Int) + 3).toNat = a + 3 := by omega
        (repeat (first | ((with_reducible refine sq (v := ?_) (a' := ?_) ?_ ?_ ?_); rotate_left 2; (focus (intro w' hS; go_simp; (first | done | with_reducible rfl | rfl))); (simp only [Act.put, List.setIfInBounds_toArray, List.set_cons_zero, List.set_cons_succ]; rfl)) | ((with_reducible refine sn (a' := ?_) ?_ ?_ ?_); rotate_left; (focus rfl); (simp only [Act.put, List.setIfInBounds_toArray, List.set_cons_zero, List.set_cons_succ]; rfl)) | ((with_reducible refine sf trivial (a' := ?_) ?_ ?_ ?_); rotate_left; (focus rfl); (simp only [Act.put, List.setIfInBounds_toArray, List.set_cons_zero, List.set_cons_succ]; rfl)) | ((with_reducible refine sqg (v := ?_) (a' := ?_) ?_ ?_ ?_ ?_); rotate_left 2; (focus rfl); (focus (intro w' hS; go_simp; (first | done | with_reducible rfl | rfl))); (simp only [Act.put, List.setIfInBounds_toArray, List.set_cons_zero, List.set_cons_succ]; rfl)))); (repeat ((go_bits; (first | ((with_reducible refine sq (v := ?_) (a' := ?_) ?_ ?_ ?_); rotate_left 2; (focus (intro w' hS; go_simp; (first | done | with_reducible rfl | rfl))); (simp only [Act.put, List.setIfInBounds_toArray, List.set_cons_zero, List.set_cons_succ]; rfl)) | ((with_reducible refine sn (a' := ?_) ?_ ?_ ?_); rotate_left; (focus rfl); (simp only [Act.put, List.setIfInBounds_toArray, List.set_cons_zero, List.set_cons_succ]; rfl)) | ((with_reducible refine sf trivial (a' := ?_) ?_ ?_ ?_); rotate_left; (focus rfl); (simp only [Act.put, List.setIfInBounds_toArray, List.set_cons_zero, List.set_cons_succ]; rfl)) | ((with_reducible refine sqg (v := ?_) (a' := ?_) ?_ ?_ ?_ ?_); rotate_left 2; (focus rfl); (focus (intro w' hS; go_simp; (first | done | with_reducible rfl | rfl))); (simp only [Act.put, List.setIfInBounds_toArray, List.set_cons_zero, List.set_cons_succ]; rfl)))); (repeat (first | ((with_reducible refine sq (v := ?_) (a' := ?_) ?_ ?_ ?_); rotate_left 2; (focus (intro w' hS; go_simp; (first | done | with_reducible rfl | rfl))); (simp only [Act.put, List.setIfInBounds_toArray, List.set_cons_zero, List.set_cons_succ]; rfl)) | ((with_reducible refine sn (a' := ?_) ?_ ?_ ?_); rotate_left; (focus rfl); (simp only [Act.put, List.setIfInBounds_toArray, List.set_cons_zero, List.set_cons_succ]; rfl)) | ((with_reducible refine sf trivial (a' := ?_) ?_ ?_ ?_); rotate_left; (focus rfl); (simp only [Act.put, List.setIfInBounds_toArray, List.set_cons_zero, List.set_cons_succ]; rfl)) | ((with_reducible refine sqg (v := ?_) (a' := ?_) ?_ ?_ ?_ ?_); rotate_left 2; (focus rfl); (focus (intro w' hS; go_simp; (first | done | with_reducible rfl | rfl))); (simp only [Act.put, List.setIfInBounds_toArray, List.set_cons_zero, List.set_cons_succ]; rfl)))))); (try go_bits)
        refine se fun K hK => ?_
        go_simp
        refine hK _ _ (HV.out _ ((hch.out.trans (Chg.setCell _ _ _) (fun _ _ h => h)).trans (Chg.drew _) (fun _ _ h => h.elim))) ?_
        refine sl_end ?_
        go_wp2
        go_roundw
        case rel =>
          refine ⟨4, by omega, rfl, ?_, ?_⟩
          · have hs := hown.out.set (x := byte n 3) HJ.out
            rw [← byte3 n]
            exact hs.kept (Chg.drew _) (fun _ _ h => h)
          · exact (hch.out.trans (Chg.setCell _ _ _) (fun _ _ h => h)).trans (Chg.drew _) (fun _ _ h => h.elim)
        case measure => simp [intOf]
    · obtain rfl : k = 4 := by omega
      go_wp2
      go_end0
      exact ⟨rfl, hown.out, hch.out⟩

def nsec (n : Nat) : Nat := (n + 71) / 64
theorem sectors (n : Nat) (hn : n ≤ 1000000000) (w : World) : Calls Tryd.prog 14 #[.int .i64 n] w fun e w' => e = .returned (.int .i64 (nsec n)) ∧ w' = w := by
  go_enter Tryd.func14, Tryd.ntmps14
  go_wp2
  go_ret
  refine ⟨?_, rfl⟩
  show Ending.returned (.int .i64 ((8 + (n : Int) + 64 - 1) / 64)) = _
  have : (8 + (n : Int) + 64 - 1) / 64 = (nsec n : Int) := by unfold nsec; omega
  rw [this]
theorem mk (M : Nat) (x : Int) (hx : x = M) (hn : M ≤ 1000000000000) : ∀ W : World, (Instr.makeSlice 22 (.int .i64 x) (.int .i64 x)).run Tryd.prog W = .ok (.slice (some ⟨W.heap.size, 0, none⟩) M M) (W.alloc (.cells (Array.replicate M (.int .u8 0)) 5)) := by
  intro W
  subst hx
  exact mk_run 22 5 (.int .u8 0) 1 Tryd.underlying22 (by kernel_rfl) rfl .i64 .i64 M (by omega) (by omega) W
theorem made_own (M B : Nat) (w : World) (hB : B ≤ w.heap.size) (hM : M ≤ 100000) : OwnI .u8 (w.alloc (.cells (Array.replicate M (.int .u8 0)) 5)) B 5 (.slice (some ⟨w.heap.size, 0, none⟩) M M) (List.replicate M 0) := by
  have h := OwnI.made (B := B) w .u8 (List.replicate M (0 : Int)) 5 (Array.replicate M (.int .u8 0)) (by simp) hB (by simp [maxLen]; omega)
  rwa [List.length_replicate] at h
theorem tell_m (a : Nat) (n : Int) (g g2 c B m : Nat) (l : List Int) (w : World) (hm : l.length = m) (ha : a + 4 ≤ m) (ha2 : m ≤ 100000) (hn : 0 ≤ n ∧ n < 4294967296) (hgg : g2 ≠ g) (ho : OwnI .u8 w B 5 (.slice (some ⟨g, 0, none⟩) m c) l)
    (hv : w.cell? ⟨g2, 0, none⟩ = some (.slice (some ⟨g, 0, none⟩) m c)) :
    Calls Tryd.prog 15 #[.int .i64 a, .int .u32 n, .pointer (some ⟨g2, 0, none⟩)] w fun e w' => e = .returned (.tuple #[]) ∧ OwnI .u8 w' B 5 (.slice (some ⟨g, 0, none⟩) m c) (told l a n 4) ∧ Chg (fun k => k = g) w w' := by
  subst hm
  exact tell a n g g2 c B l w ha ha2 hn hgg ho hv
theorem var_cell (W : World) (v : Value) (t : TypeId) (i : Nat) (hi : i = W.heap.size) : (W.alloc (.cells #[v] t)).cell? ⟨i, 0, none⟩ = some v := by
  subst hi
  rw [cell_of_row _ _ _ _ _ _ (heap_alloc_new _ _)]; rfl
theorem byte_range (n : Int) (k : Nat) : 0 ≤ byte n k ∧ byte n k < 256 := by unfold byte; omega
theorem head_bts (n : Int) : Bts (head n) := by
  intro x hx
  simp only [head, List.mem_cons, List.not_mem_nil, or_false] at hx
  rcases hx with rfl | rfl | rfl | rfl <;> exact byte_range _ _
theorem told_four (n : Int) (l : List Int) (hl : 4 ≤ l.length) : (told l 0 n 4).take 4 = head n := by
  match l, hl with
  | a :: b :: c :: d :: r, _ => simp [told, head]

/-- A frame. -/
def put (r : List Int) : List Int :=
  splice (told (told (List.replicate (nsec r.length * 64) 0) 0 r.length 4) 4 (num (on (on 0#32 (head r.length)) r)) 4) 8 r

set_option maxRecDepth 100000 in
theorem put_any (A : Option Addr) (c : Nat) (l : List Int) (w : World) (hl : l.length ≤ 16384) (hb : Bts l) (hr : Rd .u8 w A l) :
    Calls Tryd.prog 6 #[.slice A l.length c] w fun e w' => ∃ v, e = .returned (.tuple #[v, .int .i64 0]) ∧ OwnI .u8 w' w.heap.size 5 v (put l) ∧ Below w.heap.size w w' := by
  have HR := Lib.hid hr
  have HB := Lib.hid hb
  clear hr hb
  go_enter Tryd.func6, Tryd.ntmps6
  go_wp2_with fail
  refine (sectors l.length (by omega) _).mono ?_
  rintro e w1 ⟨rfl, h⟩
  subst h
  obtain ⟨S, hS⟩ : ∃ S, S = nsec l.length := ⟨_, rfl⟩
  have hSb : S ≤ 258 ∧ 1 ≤ S ∧ l.length + 8 ≤ S * 64 := by subst hS; unfold nsec; omega
  obtain ⟨M, hM⟩ : ∃ M, M = S * 64 := ⟨_, rfl⟩
  have hMb : 64 ≤ M ∧ M ≤ 20000 ∧ l.length + 8 ≤ M := by omega
  have HM := Lib.hid (show M = nsec l.length * 64 by rw [← hS]; exact hM)
  rw [← hS]
  have hmk := mk M ((S : Int) * 64) (by omega) (by omega)
  have hS2 : (S : Int) ≤ 258 := by omega
  clear hS hM hSb
  go_wp2_with fail
  have o1 : OwnI .u8 _ w1.heap.size 5 (.slice (some ⟨w1.heap.size, 0, none⟩) M M) (List.replicate M 0) := (made_own M w1.heap.size w1 (Nat.le_refl _) (by omega)).alloc (.cells #[.slice (some ⟨w1.heap.size, 0, none⟩) M M] 22)
  have b1 : Below w1.heap.size w1 ((w1.alloc (.cells (Array.replicate M (.int .u8 0)) 5)).alloc (.cells #[.slice (some ⟨w1.heap.size, 0, none⟩) M M] 22)) :=
    ((Below.refl _ _).alloc (Nat.le_refl _) _).alloc (by simp) _
  have hvc : ∀ W, Chg (fun k => k = w1.heap.size) ((w1.alloc (.cells (Array.replicate M (.int .u8 0)) 5)).alloc (.cells #[.slice (some ⟨w1.heap.size, 0, none⟩) M M] 22)) W → W.cell? ⟨w1.heap.size + 1, 0, none⟩ = some (.slice (some ⟨w1.heap.size, 0, none⟩) M M) := by
    intro W hc
    have h1 := var_cell (w1.alloc (.cells (Array.replicate M (.int .u8 0)) 5)) (.slice (some ⟨w1.heap.size, 0, none⟩) M M) 22 (w1.heap.size + 1) (by simp)
    rw [World.cell?_of_block (w := (w1.alloc (.cells (Array.replicate M (.int .u8 0)) 5)).alloc (.cells #[.slice (some ⟨w1.heap.size, 0, none⟩) M M] 22)) (hc.block _ (World.block_lt_of_cell? _ _ h1) (by show ¬ w1.heap.size + 1 = w1.heap.size; omega))]
    exact h1
  have HV := Lib.hid hvc
  have HB1 := Lib.hid b1
  clear hvc b1 hmk
  refine (tell_m 0 (l.length : Int) w1.heap.size (w1.heap.size + 1) M w1.heap.size M (List.replicate M 0) _ (by simp) (by omega) (by omega) (by omega) (by omega) o1 (HV.out _ (Chg.refl _ _))).mono ?_
  clear o1
  rintro e w2 ⟨rfl, o2, c2⟩
  have O2 := Lib.hid o2
  have C2 := Lib.hid c2
  have hcv := HV.out _ c2
  have hM1 : 4 ≤ M := by omega
  have hM2 : (4 : Int) ≤ M := by omega
  clear o2 c2
  go_wp2_with fail
  have hhd : Rd .u8 w2 (some ⟨w1.heap.size, 0, none⟩) (head l.length) := by
    obtain ⟨A', c', e, _, _, hr, _⟩ := O2.out.slice
    injection e with e1 e2 e3
    have h1 := hr.take 4
    rw [← e1, told_four _ _ (by simp; omega)] at h1
    exact h1
  refine (of_any (some ⟨w1.heap.size, 0, none⟩) 4 (head l.length) w2 (by simp [head]) ?_ hhd).mono ?_
  · exact head_bts _
  clear hhd
  rintro e w3 ⟨rfl, b3⟩
  have hb3 := (C2.out.below HB1.out (by simp; omega) (fun _ h => by omega)).trans (below_weak (by have := C2.out.size; simp at this; omega) b3)
  have HB3 := Lib.hid b3
  have HBB3 := Lib.hid hb3
  clear b3 hb3 hcv
  go_wp2_with fail
  refine (on_any _ A c l w3 (by omega) HB.out (HR.out.below HBB3.out)).mono ?_
  rintro e w4 ⟨rfl, b4⟩
  have c4 := (C2.out.trans (Chg.of_new HB3.out) (fun _ _ h => h.elim)).trans (Chg.of_new b4) (fun _ _ h => h.elim)
  have HO4 := Lib.hid ((O2.out.new HB3.out).new b4)
  have HBB4 := Lib.hid (HBB3.out.trans (below_weak HBB3.out.size b4))
  have HC4 := Lib.hid c4
  have hcv4 := HV.out _ c4
  have HN := Lib.hid (num_range (on (on 0#32 (head l.length)) l))
  clear b4 c4 O2 C2 HB3 HBB3
  obtain ⟨N, hN⟩ : ∃ N, N = num (on (on 0#32 (head l.length)) l) := ⟨_, rfl⟩
  rw [← hN] at HN ⊢
  have HNE := Lib.hid hN
  clear hN
  go_wp2_with fail
  refine (tell_m 4 N w1.heap.size (w1.heap.size + 1) M w1.heap.size M _ w4 (by rw [told_length]; simp) (by omega) (by omega) HN.out (by omega) HO4.out hcv4).mono ?_
  clear hcv4
  rintro e w5 ⟨rfl, o5, c5⟩
  have hcv5 := HV.out _ (HC4.out.trans c5 (fun _ _ h => h))
  have HO5 := Lib.hid o5
  have HBB5 := Lib.hid (c5.below HBB4.out HBB4.out.size (fun _ h => by omega))
  have HC5 := Lib.hid c5
  clear o5 c5
  have hM8 : ¬ M = 8 := by omega
  have hM9 : (8 : Int) ≤ M := by omega
  have hM10 : 8 ≤ M := by omega
  go_wp2_with (refine copy_list_m (m := M) (by rw [told_length, told_length]; simp) rfl (.tmp 28) (.tmp 29) _ _ 5 rfl Tryd.underlying22 Sums.info1 HO5.out 8 _ _ _ _ _ _ l rfl rfl (fun _ => rfl) (HR.out.below HBB5.out) (by show _ = min _ _; omega) (by omega) ?_; clear hcv5; intro w6 o6 c6; have hcv6 := HV.out _ ((HC4.out.trans HC5.out (fun _ _ h => h)).trans c6 (fun _ _ h => h)); have HO6 := Lib.hid o6; have HBB6 := Lib.hid (c6.below HBB5.out HBB5.out.size (fun _ h => by omega)); clear o6 c6)
  go_ret2
  refine ⟨_, rfl, ?_, HBB6.out⟩
  have h1 := HO6.out
  unfold put
  rw [← HM.out, ← HNE.out]
  exact h1
theorem put_own {e : TypeId} {v : Value} {B : Nat} {l : List Int} {w : World} (ho : OwnI .u8 w B e v l) (hl : l.length ≤ 16384) (hb : Bts l) :
    Calls Tryd.prog 6 #[v] w fun e w' => ∃ v, e = .returned (.tuple #[v, .int .i64 0]) ∧ OwnI .u8 w' w.heap.size 5 v (put l) ∧ Below w.heap.size w w' := by
  obtain ⟨A, c, rfl, _, _, hr, _⟩ := ho.slice
  exact put_any A c l w hl hb hr
theorem put_big (A : Option Addr) (n c : Nat) (w : World) (hl : 16384 < n) (h2 : n ≤ 1000000000) :
    Calls Tryd.prog 6 #[.slice A n c] w fun e w' => e = .returned (.tuple #[.slice none 0 0, .int .i64 3]) ∧ Below w.heap.size w w' := by
  go_enter Tryd.func6, Tryd.ntmps6
  go_wp2
  go_ret2
  exact ⟨rfl, Below.refl _ _⟩
theorem put_length (r : List Int) : (put r).length = nsec r.length * 64 := by
  unfold put
  rw [length_splice _ _ _ (by rw [told_length, told_length, List.length_replicate]; unfold nsec; omega), told_length, told_length, List.length_replicate]
end Go.Proofs.YticnjkdaccacaaaDoor.Frames
