/- The walk of written. -/
import Derived.Test.YtkokdpnnmkphmaaAlive04
namespace Go.Proofs.Ytkokdpnnmkphmaa.Disk
open Go.RowKit Base Own OwnV Bytes

def wrOne (D : Dk) (sure : Int) (i : Nat) (y : Int) : Dk := (if (i : Int) = sure then D.sync else D).write ((y % 8).toNat : Nat) (pad [(i : Int) % 256, y % 256])
def wrK (l : List Int) (sure : Int) : Nat → Dk
  | 0 => blank 8
  | k + 1 => wrOne (wrK l sure k) sure k (l.getD k 0)
theorem wrK_len (l : List Int) (sure : Int) : ∀ k, (wrK l sure k).seen.length = 8 ∧ (wrK l sure k).waits.length ≤ k := by
  intro k
  induction k with
  | zero => exact ⟨by simp [wrK, blank], by simp [wrK, blank]⟩
  | succ k ih =>
    unfold wrK wrOne
    split
    · exact ⟨by simp [Dk.write, Dk.sync]; exact ih.1, by simp [Dk.write, Dk.sync]⟩
    · exact ⟨by simp [Dk.write]; exact ih.1, by simp [Dk.write]; exact ih.2⟩

set_option maxHeartbeats 2000000 in
set_option maxRecDepth 100000 in
theorem written (A : Option Addr) (c : Nat) (l : List Int) (sure : Int) (w : World) (hl : l.length ≤ 100000) (hu : ∀ y ∈ l, 0 ≤ y ∧ y < 65536) (hr : Rd .u16 w A l) :
    Calls Try.prog 17 #[.int .i64 8, .slice A l.length c, .int .i64 sure] w fun e w' => ∃ d, e = .returned (.pointer (some ⟨d, 0, none⟩)) ∧ St w w' d (wrK l sure l.length) := by
  have HR := Lib.hid (And.intro hr hu)
  clear hr hu
  go_enter Try.func17, Try.ntmps17
  go_wp2_with fail
  refine (St.made (w0 := w) 8 (by decide) (Below.refl _ _)).mono ?_
  rintro e w1 ⟨d, rfl, s1⟩
  have S1 := Lib.hid (show St w w1 d (wrK l sure 0) from s1)
  clear s1
  go_wp2
  go_loopw [9] (fun i wr => ∃ k : Nat, k ≤ l.length ∧ i = .int .i64 k ∧ Hid (St w wr d (wrK l sure k))) (fun i _ => l.length - (intOf i).toNat)
  case atStart => exact ⟨0, by omega, rfl, S1.out⟩
  case round =>
    obtain ⟨k, hk, rfl, hst⟩ := hrel
    by_cases hlt : k < l.length
    · obtain ⟨ad, rfl, hadb, hcell⟩ := HR.out.1.cell hlt
      obtain ⟨y, hy⟩ : ∃ y, y = l.getD k 0 := ⟨_, rfl⟩
      rw [← hy] at hcell
      have hyr : 0 ≤ y ∧ y < 65536 := by rw [hy, List.getD_eq_getElem?_getD, List.getElem?_eq_getElem hlt]; exact HR.out.2 _ (List.getElem_mem hlt)
      have hcl : ∀ W, Below w.heap.size w W → W.cell? (ad.add k) = some (.int .u16 y) := fun W hb => by rw [hb.cell (p := ad.add k) (by rw [add_block]; exact hadb)]; exact hcell
      obtain ⟨r, hrr⟩ : ∃ r : Nat, y % 8 = r := ⟨(y % 8).toNat, by omega⟩
      have hr8 : r < 8 := by omega
      have hre : (y % 8).toNat = r := by omega
      have HC := Lib.hid (And.intro hcl (And.intro hy hre))
      have hc0 := hcl wr hst.out.2
      clear hcl hy hcell hre
      by_cases hs : (k : Int) = sure
      · have hs' : ((k : Int) == sure) = true := by rw [beq_iff_eq]; exact hs
        have HS := Lib.hid hs
        clear hs
        go_wp2
        refine wp_region_sl [.one (0, true, some 23), .one (1, true, some 24), .one (2, true, some 25), .one (3, true, some 26), .one (4, true, some 27), .one (5, false, some 28), .one (6, true, some 29), .one (7, true, some 30), .one (8, true, some 31), .one (9, true, some 32), .one (10, true, some 33), .one (11, true, some 34), .one (12, true, some 35), .one (13, true, some 36), .one (14, true, some 37), .one (15, true, some 38), .one (16, true, some 39), .one (17, true, some 40), .one (18, true, some 41), .one (19, true, some 42), .one (20, true, some 43), .one (21, true, some 44), .one (22, true, some 45), .one (23, true, some 46), .one (24, false, some 47), .one (25, false, some 48), .one (26, true, some 49), .one (27, true, some 50)]
                [.one ⟨true, some 23, (Go.Op.move (Go.Operand.tmp 9)), 3, none⟩,
                .one ⟨true, some 24, (Go.Op.move (Go.Operand.tmp 2)), 3, none⟩,
                .one ⟨true, some 25, (Go.Op.binOp Go.BinOp.eql 3 (Go.Operand.tmp 23) (Go.Operand.tmp 24) 3), 4, none⟩,
                .one ⟨true, some 26, (Go.Op.move (Go.Operand.tmp 25)), 4, none⟩,
                .one ⟨true, some 27, (Go.Op.move (Go.Operand.tmp 7)), 24, some (26, true)⟩,
                .one ⟨false, some 28, (Go.Op.call { callee := (Go.Callee.value (Go.Operand.func 13)), args := #[(Go.Operand.tmp 27)], argTypes := #[24] }), 30, some (26, true)⟩,
                .one ⟨true, some 29, (Go.Op.binOp Go.BinOp.neq 30 (Go.Operand.tmp 28) (Go.Operand.const (Go.Value.int Go.IntKind.i64 0)) 30), 4, some (26, true)⟩,
                .one ⟨true, some 30, (Go.Op.pick (Go.Operand.tmp 26) (Go.Operand.tmp 29) (Go.Operand.const (Go.Value.bool false))), 4, none⟩,
                .one ⟨true, some 31, (Go.Op.move (Go.Operand.tmp 30)), 4, none⟩,
                .one ⟨true, some 32, (Go.Op.move (Go.Operand.tmp 7)), 24, some (31, false)⟩,
                .one ⟨true, some 33, (Go.Op.move (Go.Operand.tmp 1)), 39, some (31, false)⟩,
                .one ⟨true, some 34, (Go.Op.move (Go.Operand.tmp 9)), 3, some (31, false)⟩,
                .one ⟨true, some 35, (Go.Op.indexAddr 39 (Go.Operand.tmp 33) (Go.Operand.tmp 34)), 0, some (31, false)⟩,
                .one ⟨true, some 36, (Go.Op.load 43 (Go.Operand.tmp 35)), 43, some (31, false)⟩,
                .one ⟨true, some 37, (Go.Op.convert 43 3 (Go.Operand.tmp 36)), 3, some (31, false)⟩,
                .one ⟨true, some 38, (Go.Op.move (Go.Operand.tmp 0)), 3, some (31, false)⟩,
                .one ⟨true, some 39, (Go.Op.binOp Go.BinOp.rem 3 (Go.Operand.tmp 37) (Go.Operand.tmp 38) 3), 3, some (31, false)⟩,
                .one ⟨true, some 40, (Go.Op.move (Go.Operand.tmp 9)), 3, some (31, false)⟩,
                .one ⟨true, some 41, (Go.Op.convert 3 5 (Go.Operand.tmp 40)), 5, some (31, false)⟩,
                .one ⟨true, some 42, (Go.Op.move (Go.Operand.tmp 1)), 39, some (31, false)⟩,
                .one ⟨true, some 43, (Go.Op.move (Go.Operand.tmp 9)), 3, some (31, false)⟩,
                .one ⟨true, some 44, (Go.Op.indexAddr 39 (Go.Operand.tmp 42) (Go.Operand.tmp 43)), 0, some (31, false)⟩,
                .one ⟨true, some 45, (Go.Op.load 43 (Go.Operand.tmp 44)), 43, some (31, false)⟩,
                .one ⟨true, some 46, (Go.Op.convert 43 5 (Go.Operand.tmp 45)), 5, some (31, false)⟩,
                .one ⟨false, some 47, (Go.Op.buildSlice 22 2 #[(0, (Go.Operand.tmp 41)), (1, (Go.Operand.tmp 46))]), 22, some (31, false)⟩,
                .one ⟨false, some 48, (Go.Op.call { callee := (Go.Callee.value (Go.Operand.func 12)), args := #[(Go.Operand.tmp 32), (Go.Operand.tmp 39), (Go.Operand.tmp 47)], argTypes := #[24, 3, 22] }), 30, some (31, false)⟩,
                .one ⟨true, some 49, (Go.Op.binOp Go.BinOp.neq 30 (Go.Operand.tmp 48) (Go.Operand.const (Go.Value.int Go.IntKind.i64 0)) 30), 4, some (31, false)⟩,
                .one ⟨true, some 50, (Go.Op.pick (Go.Operand.tmp 31) (Go.Operand.const (Go.Value.bool true)) (Go.Operand.tmp 49)), 4, none⟩]
                (fun w' => w'.cell? (ad.add k) = some (.int .u16 y)) rfl (by kernel_rfl) (by kernel_rfl) ?_ ?_
        · exact hc0
        (repeat (first | ((with_reducible refine sq (v := ?_) (a' := ?_) ?_ ?_ ?_); rotate_left 2; (focus (intro w' hS; go_simp; (first | done | with_reducible rfl | rfl))); (simp only [Act.put, List.setIfInBounds_toArray, List.set_cons_zero, List.set_cons_succ]; rfl)) | ((with_reducible refine sn (a' := ?_) ?_ ?_ ?_); rotate_left; (focus rfl); (simp only [Act.put, List.setIfInBounds_toArray, List.set_cons_zero, List.set_cons_succ]; rfl)) | ((with_reducible refine sf trivial (a' := ?_) ?_ ?_ ?_); rotate_left; (focus rfl); (simp only [Act.put, List.setIfInBounds_toArray, List.set_cons_zero, List.set_cons_succ]; rfl)) | ((with_reducible refine sqg (v := ?_) (a' := ?_) ?_ ?_ ?_ ?_); rotate_left 2; (focus rfl); (focus (intro w' hS; go_simp; (first | done | with_reducible rfl | rfl))); (simp only [Act.put, List.setIfInBounds_toArray, List.set_cons_zero, List.set_cons_succ]; rfl)))); (repeat ((go_bits; (first | ((with_reducible refine sq (v := ?_) (a' := ?_) ?_ ?_ ?_); rotate_left 2; (focus (intro w' hS; go_simp; (first | done | with_reducible rfl | rfl))); (simp only [Act.put, List.setIfInBounds_toArray, List.set_cons_zero, List.set_cons_succ]; rfl)) | ((with_reducible refine sn (a' := ?_) ?_ ?_ ?_); rotate_left; (focus rfl); (simp only [Act.put, List.setIfInBounds_toArray, List.set_cons_zero, List.set_cons_succ]; rfl)) | ((with_reducible refine sf trivial (a' := ?_) ?_ ?_ ?_); rotate_left; (focus rfl); (simp only [Act.put, List.setIfInBounds_toArray, List.set_cons_zero, List.set_cons_succ]; rfl)) | ((with_reducible refine sqg (v := ?_) (a' := ?_) ?_ ?_ ?_ ?_); rotate_left 2; (focus rfl); (focus (intro w' hS; go_simp; (first | done | with_reducible rfl | rfl))); (simp only [Act.put, List.setIfInBounds_toArray, List.set_cons_zero, List.set_cons_succ]; rfl)))); (repeat (first | ((with_reducible refine sq (v := ?_) (a' := ?_) ?_ ?_ ?_); rotate_left 2; (focus (intro w' hS; go_simp; (first | done | with_reducible rfl | rfl))); (simp only [Act.put, List.setIfInBounds_toArray, List.set_cons_zero, List.set_cons_succ]; rfl)) | ((with_reducible refine sn (a' := ?_) ?_ ?_ ?_); rotate_left; (focus rfl); (simp only [Act.put, List.setIfInBounds_toArray, List.set_cons_zero, List.set_cons_succ]; rfl)) | ((with_reducible refine sf trivial (a' := ?_) ?_ ?_ ?_); rotate_left; (focus rfl); (simp only [Act.put, List.setIfInBounds_toArray, List.set_cons_zero, List.set_cons_succ]; rfl)) | ((with_reducible refine sqg (v := ?_) (a' := ?_) ?_ ?_ ?_ ?_); rotate_left 2; (focus rfl); (focus (intro w' hS; go_simp; (first | done | with_reducible rfl | rfl))); (simp only [Act.put, List.setIfInBounds_toArray, List.set_cons_zero, List.set_cons_succ]; rfl)))))); (try go_bits)
        first | ((with_reducible refine sc 13 #[.pointer (some ⟨d, 0, none⟩)] ?_ ?_); (focus (first | rfl | (go_simp; done) | (go_simp; rfl)))) | ((with_reducible refine scg 13 #[.pointer (some ⟨d, 0, none⟩)] ?_ ?_ ?_); (focus rfl); (focus (first | rfl | (go_simp; done) | (go_simp; rfl))))
        refine (St.sync (hst.out.new (Below.refl _ _).drew)).mono ?_
        rintro e w2 ⟨rfl, s2⟩
        have S2 := Lib.hid s2
        refine ⟨_, rfl, HC.out.1 _ s2.2, fun a' ha => ?_⟩
        clear s2
        simp only [Act.put, List.setIfInBounds_toArray, List.set_cons_zero, List.set_cons_succ] at ha
        subst ha
        (repeat (first | ((with_reducible refine sq (v := ?_) (a' := ?_) ?_ ?_ ?_); rotate_left 2; (focus (intro w' hS; go_simp; (first | done | with_reducible rfl | rfl))); (simp only [Act.put, List.setIfInBounds_toArray, List.set_cons_zero, List.set_cons_succ]; rfl)) | ((with_reducible refine sn (a' := ?_) ?_ ?_ ?_); rotate_left; (focus rfl); (simp only [Act.put, List.setIfInBounds_toArray, List.set_cons_zero, List.set_cons_succ]; rfl)) | ((with_reducible refine sf trivial (a' := ?_) ?_ ?_ ?_); rotate_left; (focus rfl); (simp only [Act.put, List.setIfInBounds_toArray, List.set_cons_zero, List.set_cons_succ]; rfl)) | ((with_reducible refine sqg (v := ?_) (a' := ?_) ?_ ?_ ?_ ?_); rotate_left 2; (focus rfl); (focus (intro w' hS; go_simp; (first | done | with_reducible rfl | rfl))); (simp only [Act.put, List.setIfInBounds_toArray, List.set_cons_zero, List.set_cons_succ]; rfl)))); (repeat ((go_bits; (first | ((with_reducible refine sq (v := ?_) (a' := ?_) ?_ ?_ ?_); rotate_left 2; (focus (intro w' hS; go_simp; (first | done | with_reducible rfl | rfl))); (simp only [Act.put, List.setIfInBounds_toArray, List.set_cons_zero, List.set_cons_succ]; rfl)) | ((with_reducible refine sn (a' := ?_) ?_ ?_ ?_); rotate_left; (focus rfl); (simp only [Act.put, List.setIfInBounds_toArray, List.set_cons_zero, List.set_cons_succ]; rfl)) | ((with_reducible refine sf trivial (a' := ?_) ?_ ?_ ?_); rotate_left; (focus rfl); (simp only [Act.put, List.setIfInBounds_toArray, List.set_cons_zero, List.set_cons_succ]; rfl)) | ((with_reducible refine sqg (v := ?_) (a' := ?_) ?_ ?_ ?_ ?_); rotate_left 2; (focus rfl); (focus (intro w' hS; go_simp; (first | done | with_reducible rfl | rfl))); (simp only [Act.put, List.setIfInBounds_toArray, List.set_cons_zero, List.set_cons_succ]; rfl)))); (repeat (first | ((with_reducible refine sq (v := ?_) (a' := ?_) ?_ ?_ ?_); rotate_left 2; (focus (intro w' hS; go_simp; (first | done | with_reducible rfl | rfl))); (simp only [Act.put, List.setIfInBounds_toArray, List.set_cons_zero, List.set_cons_succ]; rfl)) | ((with_reducible refine sn (a' := ?_) ?_ ?_ ?_); rotate_left; (focus rfl); (simp only [Act.put, List.setIfInBounds_toArray, List.set_cons_zero, List.set_cons_succ]; rfl)) | ((with_reducible refine sf trivial (a' := ?_) ?_ ?_ ?_); rotate_left; (focus rfl); (simp only [Act.put, List.setIfInBounds_toArray, List.set_cons_zero, List.set_cons_succ]; rfl)) | ((with_reducible refine sqg (v := ?_) (a' := ?_) ?_ ?_ ?_ ?_); rotate_left 2; (focus rfl); (focus (intro w' hS; go_simp; (first | done | with_reducible rfl | rfl))); (simp only [Act.put, List.setIfInBounds_toArray, List.set_cons_zero, List.set_cons_succ]; rfl)))))); (try go_bits)
        refine svg (v := .slice (some ⟨w2.heap.size, 0, none⟩) 2 2) (w' := w2.alloc (.cells #[.int .u8 ((k : Int) % 256), .int .u8 (y % 256)] 5)) (a' := ?_) rfl ?_ ?_ ?_ ?_
        rotate_left 1
        (focus (go_simp; first | done | rfl))
        · exact HC.out.1 _ (S2.out.2.alloc S2.out.2.size _)
        · simp only [Act.put, List.setIfInBounds_toArray, List.set_cons_zero, List.set_cons_succ]; rfl
        (repeat (first | ((with_reducible refine sq (v := ?_) (a' := ?_) ?_ ?_ ?_); rotate_left 2; (focus (intro w' hS; go_simp; (first | done | with_reducible rfl | rfl))); (simp only [Act.put, List.setIfInBounds_toArray, List.set_cons_zero, List.set_cons_succ]; rfl)) | ((with_reducible refine sn (a' := ?_) ?_ ?_ ?_); rotate_left; (focus rfl); (simp only [Act.put, List.setIfInBounds_toArray, List.set_cons_zero, List.set_cons_succ]; rfl)) | ((with_reducible refine sf trivial (a' := ?_) ?_ ?_ ?_); rotate_left; (focus rfl); (simp only [Act.put, List.setIfInBounds_toArray, List.set_cons_zero, List.set_cons_succ]; rfl)) | ((with_reducible refine sqg (v := ?_) (a' := ?_) ?_ ?_ ?_ ?_); rotate_left 2; (focus rfl); (focus (intro w' hS; go_simp; (first | done | with_reducible rfl | rfl))); (simp only [Act.put, List.setIfInBounds_toArray, List.set_cons_zero, List.set_cons_succ]; rfl)))); (repeat ((go_bits; (first | ((with_reducible refine sq (v := ?_) (a' := ?_) ?_ ?_ ?_); rotate_left 2; (focus (intro w' hS; go_simp; (first | done | with_reducible rfl | rfl))); (simp only [Act.put, List.setIfInBounds_toArray, List.set_cons_zero, List.set_cons_succ]; rfl)) | ((with_reducible refine sn (a' := ?_) ?_ ?_ ?_); rotate_left; (focus rfl); (simp only [Act.put, List.setIfInBounds_toArray, List.set_cons_zero, List.set_cons_succ]; rfl)) | ((with_reducible refine sf trivial (a' := ?_) ?_ ?_ ?_); rotate_left; (focus rfl); (simp only [Act.put, List.setIfInBounds_toArray, List.set_cons_zero, List.set_cons_succ]; rfl)) | ((with_reducible refine sqg (v := ?_) (a' := ?_) ?_ ?_ ?_ ?_); rotate_left 2; (focus rfl); (focus (intro w' hS; go_simp; (first | done | with_reducible rfl | rfl))); (simp only [Act.put, List.setIfInBounds_toArray, List.set_cons_zero, List.set_cons_succ]; rfl)))); (repeat (first | ((with_reducible refine sq (v := ?_) (a' := ?_) ?_ ?_ ?_); rotate_left 2; (focus (intro w' hS; go_simp; (first | done | with_reducible rfl | rfl))); (simp only [Act.put, List.setIfInBounds_toArray, List.set_cons_zero, List.set_cons_succ]; rfl)) | ((with_reducible refine sn (a' := ?_) ?_ ?_ ?_); rotate_left; (focus rfl); (simp only [Act.put, List.setIfInBounds_toArray, List.set_cons_zero, List.set_cons_succ]; rfl)) | ((with_reducible refine sf trivial (a' := ?_) ?_ ?_ ?_); rotate_left; (focus rfl); (simp only [Act.put, List.setIfInBounds_toArray, List.set_cons_zero, List.set_cons_succ]; rfl)) | ((with_reducible refine sqg (v := ?_) (a' := ?_) ?_ ?_ ?_ ?_); rotate_left 2; (focus rfl); (focus (intro w' hS; go_simp; (first | done | with_reducible rfl | rfl))); (simp only [Act.put, List.setIfInBounds_toArray, List.set_cons_zero, List.set_cons_succ]; rfl)))))); (try go_bits)
        first | ((with_reducible refine sc 12 #[.pointer (some ⟨d, 0, none⟩), .int .i64 r, .slice (some ⟨w2.heap.size, 0, none⟩) 2 2] ?_ ?_); (focus (first | rfl | (go_simp; done) | (go_simp; rfl)))) | ((with_reducible refine scg 12 #[.pointer (some ⟨d, 0, none⟩), .int .i64 r, .slice (some ⟨w2.heap.size, 0, none⟩) 2 2] ?_ ?_ ?_); (focus rfl); (focus (first | rfl | (go_simp; done) | (go_simp; rfl))))
        refine ((S2.out.alloc (.cells #[.int .u8 ((k : Int) % 256), .int .u8 (y % 256)] 5)).write (by simp [Dk.sync]) r (by show r < (wrK l sure k).seen.length; rw [(wrK_len l sure k).1]; exact hr8) _ 2 2 [(k : Int) % 256, y % 256] rfl (by decide) (by intro z hz; simp only [List.mem_cons, List.not_mem_nil, or_false] at hz; rcases hz with rfl | rfl <;> omega) (Rd.lit w2 .u8 [(k : Int) % 256, y % 256] _ 5 (0, 0) rfl)).mono ?_
        rintro e w3 ⟨rfl, s3⟩
        have S3 := Lib.hid s3
        refine ⟨_, rfl, HC.out.1 _ s3.2, fun a' ha => ?_⟩
        clear s3
        simp only [Act.put, List.setIfInBounds_toArray, List.set_cons_zero, List.set_cons_succ] at ha
        subst ha
        (repeat (first | ((with_reducible refine sq (v := ?_) (a' := ?_) ?_ ?_ ?_); rotate_left 2; (focus (intro w' hS; go_simp; (first | done | with_reducible rfl | rfl))); (simp only [Act.put, List.setIfInBounds_toArray, List.set_cons_zero, List.set_cons_succ]; rfl)) | ((with_reducible refine sn (a' := ?_) ?_ ?_ ?_); rotate_left; (focus rfl); (simp only [Act.put, List.setIfInBounds_toArray, List.set_cons_zero, List.set_cons_succ]; rfl)) | ((with_reducible refine sf trivial (a' := ?_) ?_ ?_ ?_); rotate_left; (focus rfl); (simp only [Act.put, List.setIfInBounds_toArray, List.set_cons_zero, List.set_cons_succ]; rfl)) | ((with_reducible refine sqg (v := ?_) (a' := ?_) ?_ ?_ ?_ ?_); rotate_left 2; (focus rfl); (focus (intro w' hS; go_simp; (first | done | with_reducible rfl | rfl))); (simp only [Act.put, List.setIfInBounds_toArray, List.set_cons_zero, List.set_cons_succ]; rfl)))); (repeat ((go_bits; (first | ((with_reducible refine sq (v := ?_) (a' := ?_) ?_ ?_ ?_); rotate_left 2; (focus (intro w' hS; go_simp; (first | done | with_reducible rfl | rfl))); (simp only [Act.put, List.setIfInBounds_toArray, List.set_cons_zero, List.set_cons_succ]; rfl)) | ((with_reducible refine sn (a' := ?_) ?_ ?_ ?_); rotate_left; (focus rfl); (simp only [Act.put, List.setIfInBounds_toArray, List.set_cons_zero, List.set_cons_succ]; rfl)) | ((with_reducible refine sf trivial (a' := ?_) ?_ ?_ ?_); rotate_left; (focus rfl); (simp only [Act.put, List.setIfInBounds_toArray, List.set_cons_zero, List.set_cons_succ]; rfl)) | ((with_reducible refine sqg (v := ?_) (a' := ?_) ?_ ?_ ?_ ?_); rotate_left 2; (focus rfl); (focus (intro w' hS; go_simp; (first | done | with_reducible rfl | rfl))); (simp only [Act.put, List.setIfInBounds_toArray, List.set_cons_zero, List.set_cons_succ]; rfl)))); (repeat (first | ((with_reducible refine sq (v := ?_) (a' := ?_) ?_ ?_ ?_); rotate_left 2; (focus (intro w' hS; go_simp; (first | done | with_reducible rfl | rfl))); (simp only [Act.put, List.setIfInBounds_toArray, List.set_cons_zero, List.set_cons_succ]; rfl)) | ((with_reducible refine sn (a' := ?_) ?_ ?_ ?_); rotate_left; (focus rfl); (simp only [Act.put, List.setIfInBounds_toArray, List.set_cons_zero, List.set_cons_succ]; rfl)) | ((with_reducible refine sf trivial (a' := ?_) ?_ ?_ ?_); rotate_left; (focus rfl); (simp only [Act.put, List.setIfInBounds_toArray, List.set_cons_zero, List.set_cons_succ]; rfl)) | ((with_reducible refine sqg (v := ?_) (a' := ?_) ?_ ?_ ?_ ?_); rotate_left 2; (focus rfl); (focus (intro w' hS; go_simp; (first | done | with_reducible rfl | rfl))); (simp only [Act.put, List.setIfInBounds_toArray, List.set_cons_zero, List.set_cons_succ]; rfl)))))); (try go_bits)
        refine sl_end ?_
        go_wp2
        go_roundw
        case rel =>
          refine ⟨k + 1, by omega, rfl, ?_⟩
          show St w w3 d (wrOne (wrK l sure k) sure k (l.getD k 0))
          unfold wrOne
          rw [if_pos HS.out, ← HC.out.2.1, HC.out.2.2]
          exact S3.out
        case measure => simp [intOf]; omega
      · have hs' : ((k : Int) == sure) = false := by rw [beq_eq_false_iff_ne]; exact hs
        have HS := Lib.hid hs
        clear hs
        go_wp2
        refine wp_region_sl [.one (0, true, some 23), .one (1, true, some 24), .one (2, true, some 25), .one (3, true, some 26), .one (4, true, some 27), .one (5, false, some 28), .one (6, true, some 29), .one (7, true, some 30), .one (8, true, some 31), .one (9, true, some 32), .one (10, true, some 33), .one (11, true, some 34), .one (12, true, some 35), .one (13, true, some 36), .one (14, true, some 37), .one (15, true, some 38), .one (16, true, some 39), .one (17, true, some 40), .one (18, true, some 41), .one (19, true, some 42), .one (20, true, some 43), .one (21, true, some 44), .one (22, true, some 45), .one (23, true, some 46), .one (24, false, some 47), .one (25, false, some 48), .one (26, true, some 49), .one (27, true, some 50)]
                [.one ⟨true, some 23, (Go.Op.move (Go.Operand.tmp 9)), 3, none⟩,
                .one ⟨true, some 24, (Go.Op.move (Go.Operand.tmp 2)), 3, none⟩,
                .one ⟨true, some 25, (Go.Op.binOp Go.BinOp.eql 3 (Go.Operand.tmp 23) (Go.Operand.tmp 24) 3), 4, none⟩,
                .one ⟨true, some 26, (Go.Op.move (Go.Operand.tmp 25)), 4, none⟩,
                .one ⟨true, some 27, (Go.Op.move (Go.Operand.tmp 7)), 24, some (26, true)⟩,
                .one ⟨false, some 28, (Go.Op.call { callee := (Go.Callee.value (Go.Operand.func 13)), args := #[(Go.Operand.tmp 27)], argTypes := #[24] }), 30, some (26, true)⟩,
                .one ⟨true, some 29, (Go.Op.binOp Go.BinOp.neq 30 (Go.Operand.tmp 28) (Go.Operand.const (Go.Value.int Go.IntKind.i64 0)) 30), 4, some (26, true)⟩,
                .one ⟨true, some 30, (Go.Op.pick (Go.Operand.tmp 26) (Go.Operand.tmp 29) (Go.Operand.const (Go.Value.bool false))), 4, none⟩,
                .one ⟨true, some 31, (Go.Op.move (Go.Operand.tmp 30)), 4, none⟩,
                .one ⟨true, some 32, (Go.Op.move (Go.Operand.tmp 7)), 24, some (31, false)⟩,
                .one ⟨true, some 33, (Go.Op.move (Go.Operand.tmp 1)), 39, some (31, false)⟩,
                .one ⟨true, some 34, (Go.Op.move (Go.Operand.tmp 9)), 3, some (31, false)⟩,
                .one ⟨true, some 35, (Go.Op.indexAddr 39 (Go.Operand.tmp 33) (Go.Operand.tmp 34)), 0, some (31, false)⟩,
                .one ⟨true, some 36, (Go.Op.load 43 (Go.Operand.tmp 35)), 43, some (31, false)⟩,
                .one ⟨true, some 37, (Go.Op.convert 43 3 (Go.Operand.tmp 36)), 3, some (31, false)⟩,
                .one ⟨true, some 38, (Go.Op.move (Go.Operand.tmp 0)), 3, some (31, false)⟩,
                .one ⟨true, some 39, (Go.Op.binOp Go.BinOp.rem 3 (Go.Operand.tmp 37) (Go.Operand.tmp 38) 3), 3, some (31, false)⟩,
                .one ⟨true, some 40, (Go.Op.move (Go.Operand.tmp 9)), 3, some (31, false)⟩,
                .one ⟨true, some 41, (Go.Op.convert 3 5 (Go.Operand.tmp 40)), 5, some (31, false)⟩,
                .one ⟨true, some 42, (Go.Op.move (Go.Operand.tmp 1)), 39, some (31, false)⟩,
                .one ⟨true, some 43, (Go.Op.move (Go.Operand.tmp 9)), 3, some (31, false)⟩,
                .one ⟨true, some 44, (Go.Op.indexAddr 39 (Go.Operand.tmp 42) (Go.Operand.tmp 43)), 0, some (31, false)⟩,
                .one ⟨true, some 45, (Go.Op.load 43 (Go.Operand.tmp 44)), 43, some (31, false)⟩,
                .one ⟨true, some 46, (Go.Op.convert 43 5 (Go.Operand.tmp 45)), 5, some (31, false)⟩,
                .one ⟨false, some 47, (Go.Op.buildSlice 22 2 #[(0, (Go.Operand.tmp 41)), (1, (Go.Operand.tmp 46))]), 22, some (31, false)⟩,
                .one ⟨false, some 48, (Go.Op.call { callee := (Go.Callee.value (Go.Operand.func 12)), args := #[(Go.Operand.tmp 32), (Go.Operand.tmp 39), (Go.Operand.tmp 47)], argTypes := #[24, 3, 22] }), 30, some (31, false)⟩,
                .one ⟨true, some 49, (Go.Op.binOp Go.BinOp.neq 30 (Go.Operand.tmp 48) (Go.Operand.const (Go.Value.int Go.IntKind.i64 0)) 30), 4, some (31, false)⟩,
                .one ⟨true, some 50, (Go.Op.pick (Go.Operand.tmp 31) (Go.Operand.const (Go.Value.bool true)) (Go.Operand.tmp 49)), 4, none⟩]
                (fun w' => w'.cell? (ad.add k) = some (.int .u16 y)) rfl (by kernel_rfl) (by kernel_rfl) ?_ ?_
        · exact hc0
        (repeat (first | ((with_reducible refine sq (v := ?_) (a' := ?_) ?_ ?_ ?_); rotate_left 2; (focus (intro w' hS; go_simp; (first | done | with_reducible rfl | rfl))); (simp only [Act.put, List.setIfInBounds_toArray, List.set_cons_zero, List.set_cons_succ]; rfl)) | ((with_reducible refine sn (a' := ?_) ?_ ?_ ?_); rotate_left; (focus rfl); (simp only [Act.put, List.setIfInBounds_toArray, List.set_cons_zero, List.set_cons_succ]; rfl)) | ((with_reducible refine sf trivial (a' := ?_) ?_ ?_ ?_); rotate_left; (focus rfl); (simp only [Act.put, List.setIfInBounds_toArray, List.set_cons_zero, List.set_cons_succ]; rfl)) | ((with_reducible refine sqg (v := ?_) (a' := ?_) ?_ ?_ ?_ ?_); rotate_left 2; (focus rfl); (focus (intro w' hS; go_simp; (first | done | with_reducible rfl | rfl))); (simp only [Act.put, List.setIfInBounds_toArray, List.set_cons_zero, List.set_cons_succ]; rfl)))); (repeat ((go_bits; (first | ((with_reducible refine sq (v := ?_) (a' := ?_) ?_ ?_ ?_); rotate_left 2; (focus (intro w' hS; go_simp; (first | done | with_reducible rfl | rfl))); (simp only [Act.put, List.setIfInBounds_toArray, List.set_cons_zero, List.set_cons_succ]; rfl)) | ((with_reducible refine sn (a' := ?_) ?_ ?_ ?_); rotate_left; (focus rfl); (simp only [Act.put, List.setIfInBounds_toArray, List.set_cons_zero, List.set_cons_succ]; rfl)) | ((with_reducible refine sf trivial (a' := ?_) ?_ ?_ ?_); rotate_left; (focus rfl); (simp only [Act.put, List.setIfInBounds_toArray, List.set_cons_zero, List.set_cons_succ]; rfl)) | ((with_reducible refine sqg (v := ?_) (a' := ?_) ?_ ?_ ?_ ?_); rotate_left 2; (focus rfl); (focus (intro w' hS; go_simp; (first | done | with_reducible rfl | rfl))); (simp only [Act.put, List.setIfInBounds_toArray, List.set_cons_zero, List.set_cons_succ]; rfl)))); (repeat (first | ((with_reducible refine sq (v := ?_) (a' := ?_) ?_ ?_ ?_); rotate_left 2; (focus (intro w' hS; go_simp; (first | done | with_reducible rfl | rfl))); (simp only [Act.put, List.setIfInBounds_toArray, List.set_cons_zero, List.set_cons_succ]; rfl)) | ((with_reducible refine sn (a' := ?_) ?_ ?_ ?_); rotate_left; (focus rfl); (simp only [Act.put, List.setIfInBounds_toArray, List.set_cons_zero, List.set_cons_succ]; rfl)) | ((with_reducible refine sf trivial (a' := ?_) ?_ ?_ ?_); rotate_left; (focus rfl); (simp only [Act.put, List.setIfInBounds_toArray, List.set_cons_zero, List.set_cons_succ]; rfl)) | ((with_reducible refine sqg (v := ?_) (a' := ?_) ?_ ?_ ?_ ?_); rotate_left 2; (focus rfl); (focus (intro w' hS; go_simp; (first | done | with_reducible rfl | rfl))); (simp only [Act.put, List.setIfInBounds_toArray, List.set_cons_zero, List.set_cons_succ]; rfl)))))); (try go_bits)
        refine sf ?_ rfl (a' := ?_) ?_ ?_
        rotate_left 1
        · exact hc0
        · simp only [Act.put, List.setIfInBounds_toArray, List.set_cons_zero, List.set_cons_succ]; rfl
        (repeat (first | ((with_reducible refine sq (v := ?_) (a' := ?_) ?_ ?_ ?_); rotate_left 2; (focus (intro w' hS; go_simp; (first | done | with_reducible rfl | rfl))); (simp only [Act.put, List.setIfInBounds_toArray, List.set_cons_zero, List.set_cons_succ]; rfl)) | ((with_reducible refine sn (a' := ?_) ?_ ?_ ?_); rotate_left; (focus rfl); (simp only [Act.put, List.setIfInBounds_toArray, List.set_cons_zero, List.set_cons_succ]; rfl)) | ((with_reducible refine sf trivial (a' := ?_) ?_ ?_ ?_); rotate_left; (focus rfl); (simp only [Act.put, List.setIfInBounds_toArray, List.set_cons_zero, List.set_cons_succ]; rfl)) | ((with_reducible refine sqg (v := ?_) (a' := ?_) ?_ ?_ ?_ ?_); rotate_left 2; (focus rfl); (focus (intro w' hS; go_simp; (first | done | with_reducible rfl | rfl))); (simp only [Act.put, List.setIfInBounds_toArray, List.set_cons_zero, List.set_cons_succ]; rfl)))); (repeat ((go_bits; (first | ((with_reducible refine sq (v := ?_) (a' := ?_) ?_ ?_ ?_); rotate_left 2; (focus (intro w' hS; go_simp; (first | done | with_reducible rfl | rfl))); (simp only [Act.put, List.setIfInBounds_toArray, List.set_cons_zero, List.set_cons_succ]; rfl)) | ((with_reducible refine sn (a' := ?_) ?_ ?_ ?_); rotate_left; (focus rfl); (simp only [Act.put, List.setIfInBounds_toArray, List.set_cons_zero, List.set_cons_succ]; rfl)) | ((with_reducible refine sf trivial (a' := ?_) ?_ ?_ ?_); rotate_left; (focus rfl); (simp only [Act.put, List.setIfInBounds_toArray, List.set_cons_zero, List.set_cons_succ]; rfl)) | ((with_reducible refine sqg (v := ?_) (a' := ?_) ?_ ?_ ?_ ?_); rotate_left 2; (focus rfl); (focus (intro w' hS; go_simp; (first | done | with_reducible rfl | rfl))); (simp only [Act.put, List.setIfInBounds_toArray, List.set_cons_zero, List.set_cons_succ]; rfl)))); (repeat (first | ((with_reducible refine sq (v := ?_) (a' := ?_) ?_ ?_ ?_); rotate_left 2; (focus (intro w' hS; go_simp; (first | done | with_reducible rfl | rfl))); (simp only [Act.put, List.setIfInBounds_toArray, List.set_cons_zero, List.set_cons_succ]; rfl)) | ((with_reducible refine sn (a' := ?_) ?_ ?_ ?_); rotate_left; (focus rfl); (simp only [Act.put, List.setIfInBounds_toArray, List.set_cons_zero, List.set_cons_succ]; rfl)) | ((with_reducible refine sf trivial (a' := ?_) ?_ ?_ ?_); rotate_left; (focus rfl); (simp only [Act.put, List.setIfInBounds_toArray, List.set_cons_zero, List.set_cons_succ]; rfl)) | ((with_reducible refine sqg (v := ?_) (a' := ?_) ?_ ?_ ?_ ?_); rotate_left 2; (focus rfl); (focus (intro w' hS; go_simp; (first | done | with_reducible rfl | rfl))); (simp only [Act.put, List.setIfInBounds_toArray, List.set_cons_zero, List.set_cons_succ]; rfl)))))); (try go_bits)
        have S2 := Lib.hid (hst.out.new (Below.refl _ _).drew)
        refine svg (v := .slice (some ⟨wr.drew.heap.size, 0, none⟩) 2 2) (w' := wr.drew.alloc (.cells #[.int .u8 ((k : Int) % 256), .int .u8 (y % 256)] 5)) (a' := ?_) rfl ?_ ?_ ?_ ?_
        rotate_left 1
        (focus (go_simp; first | done | rfl))
        · exact HC.out.1 _ (S2.out.2.alloc S2.out.2.size _)
        · simp only [Act.put, List.setIfInBounds_toArray, List.set_cons_zero, List.set_cons_succ]; rfl
        (repeat (first | ((with_reducible refine sq (v := ?_) (a' := ?_) ?_ ?_ ?_); rotate_left 2; (focus (intro w' hS; go_simp; (first | done | with_reducible rfl | rfl))); (simp only [Act.put, List.setIfInBounds_toArray, List.set_cons_zero, List.set_cons_succ]; rfl)) | ((with_reducible refine sn (a' := ?_) ?_ ?_ ?_); rotate_left; (focus rfl); (simp only [Act.put, List.setIfInBounds_toArray, List.set_cons_zero, List.set_cons_succ]; rfl)) | ((with_reducible refine sf trivial (a' := ?_) ?_ ?_ ?_); rotate_left; (focus rfl); (simp only [Act.put, List.setIfInBounds_toArray, List.set_cons_zero, List.set_cons_succ]; rfl)) | ((with_reducible refine sqg (v := ?_) (a' := ?_) ?_ ?_ ?_ ?_); rotate_left 2; (focus rfl); (focus (intro w' hS; go_simp; (first | done | with_reducible rfl | rfl))); (simp only [Act.put, List.setIfInBounds_toArray, List.set_cons_zero, List.set_cons_succ]; rfl)))); (repeat ((go_bits; (first | ((with_reducible refine sq (v := ?_) (a' := ?_) ?_ ?_ ?_); rotate_left 2; (focus (intro w' hS; go_simp; (first | done | with_reducible rfl | rfl))); (simp only [Act.put, List.setIfInBounds_toArray, List.set_cons_zero, List.set_cons_succ]; rfl)) | ((with_reducible refine sn (a' := ?_) ?_ ?_ ?_); rotate_left; (focus rfl); (simp only [Act.put, List.setIfInBounds_toArray, List.set_cons_zero, List.set_cons_succ]; rfl)) | ((with_reducible refine sf trivial (a' := ?_) ?_ ?_ ?_); rotate_left; (focus rfl); (simp only [Act.put, List.setIfInBounds_toArray, List.set_cons_zero, List.set_cons_succ]; rfl)) | ((with_reducible refine sqg (v := ?_) (a' := ?_) ?_ ?_ ?_ ?_); rotate_left 2; (focus rfl); (focus (intro w' hS; go_simp; (first | done | with_reducible rfl | rfl))); (simp only [Act.put, List.setIfInBounds_toArray, List.set_cons_zero, List.set_cons_succ]; rfl)))); (repeat (first | ((with_reducible refine sq (v := ?_) (a' := ?_) ?_ ?_ ?_); rotate_left 2; (focus (intro w' hS; go_simp; (first | done | with_reducible rfl | rfl))); (simp only [Act.put, List.setIfInBounds_toArray, List.set_cons_zero, List.set_cons_succ]; rfl)) | ((with_reducible refine sn (a' := ?_) ?_ ?_ ?_); rotate_left; (focus rfl); (simp only [Act.put, List.setIfInBounds_toArray, List.set_cons_zero, List.set_cons_succ]; rfl)) | ((with_reducible refine sf trivial (a' := ?_) ?_ ?_ ?_); rotate_left; (focus rfl); (simp only [Act.put, List.setIfInBounds_toArray, List.set_cons_zero, List.set_cons_succ]; rfl)) | ((with_reducible refine sqg (v := ?_) (a' := ?_) ?_ ?_ ?_ ?_); rotate_left 2; (focus rfl); (focus (intro w' hS; go_simp; (first | done | with_reducible rfl | rfl))); (simp only [Act.put, List.setIfInBounds_toArray, List.set_cons_zero, List.set_cons_succ]; rfl)))))); (try go_bits)
        first | ((with_reducible refine sc 12 #[.pointer (some ⟨d, 0, none⟩), .int .i64 r, .slice (some ⟨wr.drew.heap.size, 0, none⟩) 2 2] ?_ ?_); (focus (first | rfl | (go_simp; done) | (go_simp; rfl)))) | ((with_reducible refine scg 12 #[.pointer (some ⟨d, 0, none⟩), .int .i64 r, .slice (some ⟨wr.drew.heap.size, 0, none⟩) 2 2] ?_ ?_ ?_); (focus rfl); (focus (first | rfl | (go_simp; done) | (go_simp; rfl))))
        refine ((S2.out.alloc (.cells #[.int .u8 ((k : Int) % 256), .int .u8 (y % 256)] 5)).write (by have := (wrK_len l sure k).2; omega) r (by rw [(wrK_len l sure k).1]; exact hr8) _ 2 2 [(k : Int) % 256, y % 256] rfl (by decide) (by intro z hz; simp only [List.mem_cons, List.not_mem_nil, or_false] at hz; rcases hz with rfl | rfl <;> omega) (Rd.lit wr.drew .u8 [(k : Int) % 256, y % 256] _ 5 (0, 0) rfl)).mono ?_
        rintro e w3 ⟨rfl, s3⟩
        have S3 := Lib.hid s3
        refine ⟨_, rfl, HC.out.1 _ s3.2, fun a' ha => ?_⟩
        clear s3
        simp only [Act.put, List.setIfInBounds_toArray, List.set_cons_zero, List.set_cons_succ] at ha
        subst ha
        (repeat (first | ((with_reducible refine sq (v := ?_) (a' := ?_) ?_ ?_ ?_); rotate_left 2; (focus (intro w' hS; go_simp; (first | done | with_reducible rfl | rfl))); (simp only [Act.put, List.setIfInBounds_toArray, List.set_cons_zero, List.set_cons_succ]; rfl)) | ((with_reducible refine sn (a' := ?_) ?_ ?_ ?_); rotate_left; (focus rfl); (simp only [Act.put, List.setIfInBounds_toArray, List.set_cons_zero, List.set_cons_succ]; rfl)) | ((with_reducible refine sf trivial (a' := ?_) ?_ ?_ ?_); rotate_left; (focus rfl); (simp only [Act.put, List.setIfInBounds_toArray, List.set_cons_zero, List.set_cons_succ]; rfl)) | ((with_reducible refine sqg (v := ?_) (a' := ?_) ?_ ?_ ?_ ?_); rotate_left 2; (focus rfl); (focus (intro w' hS; go_simp; (first | done | with_reducible rfl | rfl))); (simp only [Act.put, List.setIfInBounds_toArray, List.set_cons_zero, List.set_cons_succ]; rfl)))); (repeat ((go_bits; (first | ((with_reducible refine sq (v := ?_) (a' := ?_) ?_ ?_ ?_); rotate_left 2; (focus (intro w' hS; go_simp; (first | done | with_reducible rfl | rfl))); (simp only [Act.put, List.setIfInBounds_toArray, List.set_cons_zero, List.set_cons_succ]; rfl)) | ((with_reducible refine sn (a' := ?_) ?_ ?_ ?_); rotate_left; (focus rfl); (simp only [Act.put, List.setIfInBounds_toArray, List.set_cons_zero, List.set_cons_succ]; rfl)) | ((with_reducible refine sf trivial (a' := ?_) ?_ ?_ ?_); rotate_left; (focus rfl); (simp only [Act.put, List.setIfInBounds_toArray, List.set_cons_zero, List.set_cons_succ]; rfl)) | ((with_reducible refine sqg (v := ?_) (a' := ?_) ?_ ?_ ?_ ?_); rotate_left 2; (focus rfl); (focus (intro w' hS; go_simp; (first | done | with_reducible rfl | rfl))); (simp only [Act.put, List.setIfInBounds_toArray, List.set_cons_zero, List.set_cons_succ]; rfl)))); (repeat (first | ((with_reducible refine sq (v := ?_) (a' := ?_) ?_ ?_ ?_); rotate_left 2; (focus (intro w' hS; go_simp; (first | done | with_reducible rfl | rfl))); (simp only [Act.put, List.setIfInBounds_toArray, List.set_cons_zero, List.set_cons_succ]; rfl)) | ((with_reducible refine sn (a' := ?_) ?_ ?_ ?_); rotate_left; (focus rfl); (simp only [Act.put, List.setIfInBounds_toArray, List.set_cons_zero, List.set_cons_succ]; rfl)) | ((with_reducible refine sf trivial (a' := ?_) ?_ ?_ ?_); rotate_left; (focus rfl); (simp only [Act.put, List.setIfInBounds_toArray, List.set_cons_zero, List.set_cons_succ]; rfl)) | ((with_reducible refine sqg (v := ?_) (a' := ?_) ?_ ?_ ?_ ?_); rotate_left 2; (focus rfl); (focus (intro w' hS; go_simp; (first | done | with_reducible rfl | rfl))); (simp only [Act.put, List.setIfInBounds_toArray, List.set_cons_zero, List.set_cons_succ]; rfl)))))); (try go_bits)
        refine sl_end ?_
        go_wp2
        go_roundw
        case rel =>
          refine ⟨k + 1, by omega, rfl, ?_⟩
          show St w w3 d (wrOne (wrK l sure k) sure k (l.getD k 0))
          unfold wrOne
          rw [if_neg HS.out, ← HC.out.2.1, HC.out.2.2]
          exact S3.out
        case measure => simp [intOf]; omega
    · obtain rfl : k = l.length := by omega
      go_wp2
      go_ret
      exact ⟨_, rfl, hst.out⟩
end Go.Proofs.Ytkokdpnnmkphmaa.Disk
