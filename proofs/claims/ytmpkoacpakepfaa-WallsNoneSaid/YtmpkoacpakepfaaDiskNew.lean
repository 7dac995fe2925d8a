/- A disk is made. -/
import Derived.Test.YtmpkoacpakepfaaDisk
namespace Go.Proofs.Ytmpkoacpakepfaa.Disk
open Go.RowKit Base Own OwnV Bytes

def blank (n : Nat) : Dk := ⟨List.replicate n (List.replicate 64 0), List.replicate n (List.replicate 64 0), []⟩
theorem blank_pc (n : Nat) : ∀ p ∈ List.replicate n (List.replicate 64 (0 : Int)), Pc p := fun p hp => by
  rw [List.eq_of_mem_replicate hp]; exact ⟨by simp, Bts.zeros _⟩
theorem blank_ok (n : Nat) (h1 : 1 ≤ n) (h2 : n ≤ 4096) : (blank n).ok := ⟨by simp [blank], by simp [blank]; exact h1, by simp [blank]; exact h2, blank_pc n, blank_pc n, fun x hx => by simp [blank] at hx⟩
theorem pcs_blank (n : Nat) : pcs (List.replicate n (List.replicate 64 0)) = List.replicate (n * 64) (Value.int .u8 0) := by
  unfold pcs
  induction n with
  | zero => simp
  | succ n ih =>
    rw [List.replicate_succ, List.flatten_cons, List.map_append, ih, List.map_replicate, List.replicate_append_replicate]
    congr 1; omega
theorem made_rep (z : Array Value) (v : Value) (m : Nat) (hz : z = Array.replicate 64 v) : madeCells z m = Array.replicate m v := by
  subst hz
  apply Array.ext
  · simp [madeCells]
  · intro i h1 h2
    simp only [madeCells, Array.getElem_map, Array.getElem_range, Array.getElem_replicate]
    rw [getElem!_pos _ _ (by simp; omega), Array.getElem_replicate]
theorem mkP (n : Nat) (x : Int) (hx : x = n) (hn : n ≤ 4096) : ∀ W : World, (Instr.makeSlice 37 (.int .i64 x) (.int .i64 x)).run Try.prog W = .ok (.slice (some ⟨W.heap.size, 0, none⟩) n n) (W.alloc (.cells (Array.replicate (n * 64) (.int .u8 0)) 72)) := by
  intro W
  subst hx
  obtain ⟨i, hi, hzz⟩ := Option.map_eq_some_iff.1 (show (Try.prog.info? 72).map (fun i => (i.zero, i.size, i.bytes)) = some (some (.agg (Array.replicate 64 (.int .u8 0))), 64, 64) by kernel_rfl)
  simp only [Prod.mk.injEq] at hzz
  obtain ⟨hz0, hs, hby⟩ := hzz
  have h := run_make (P := Try.prog) W 37 72 i _ Try.underlying37 hi hz0 .i64 .i64 (n : Int) (n : Int) (by omega) (by omega) (by rw [hby]; omega) (by omega)
  rw [h, hs, show (Value.agg (Array.replicate 64 (.int .u8 0))).cells = Array.replicate 64 (.int .u8 0) from rfl, made_rep _ (.int .u8 0) _ rfl]
  simp only [Int.toNat_natCast]
theorem made_row (n B : Nat) (w : World) (hB : B ≤ w.heap.size) (hn : n ≤ 4096) : RowV (w.alloc (.cells (Array.replicate (n * 64) (.int .u8 0)) 72)) B 72 64 (.slice (some ⟨w.heap.size, 0, none⟩) n n) n (pcs (List.replicate n (List.replicate 64 0))) := by
  have h := RowV.made (B := B) w 72 64 n (Array.replicate (n * 64) (.int .u8 0)) hB (by simp) (by simp [maxLen]; omega)
  rw [pcs_blank]
  simpa using h
/-- The disk that stands behind: its parts at a and b, itself at d. -/
theorem blank_disk {w W : World} {n a b d : Nat} (h1 : 1 ≤ n) (h2 : n ≤ 4096) (hd : W.heap[d]? = some (.cells #[.slice (some ⟨a, 0, none⟩) n n, .slice (some ⟨b, 0, none⟩) n n, .slice none 0 0] 40 (0, 0))) (hB : w.heap.size ≤ d)
    (ha : RowV W w.heap.size 72 64 (.slice (some ⟨a, 0, none⟩) n n) n (pcs (List.replicate n (List.replicate 64 0)))) (hb : RowV W w.heap.size 72 64 (.slice (some ⟨b, 0, none⟩) n n) n (pcs (List.replicate n (List.replicate 64 0))))
    (had : a ≠ d) (hbd : b ≠ d) (hab : a ≠ b) : Disk W w.heap.size d (blocks d (.slice (some ⟨a, 0, none⟩) n n) (.slice (some ⟨b, 0, none⟩) n n) (.slice none 0 0)) (blank n) :=
  ⟨_, _, _, ⟨hd, hB, by simpa [blank] using ha, by simpa [blank] using hb, RowV.nil _ _ _ _, fun e => had (by injection e), fun e => hbd (by injection e), fun e => by simp [Value.ownBlock] at e, fun e => hab (by injection e), Sep.nil _, Sep.nil _, blank_ok n h1 h2⟩, fun k => Iff.rfl⟩

theorem key_below (n : Nat) (w : World) (a b : Nat) : Below w.heap.size w (((w.alloc (.cells (Array.replicate (n * 64) (.int .u8 0)) 72)).alloc (.cells (Array.replicate (n * 64) (.int .u8 0)) 72)).alloc (.cells #[.slice (some ⟨a, 0, none⟩) n n, .slice (some ⟨b, 0, none⟩) n n, .slice none 0 0] 40)) :=
  (((Below.refl _ _).alloc (Nat.le_refl _) _).alloc (by simp) _).alloc (by simp; omega) _
theorem key (n : Nat) (w : World) (h1 : 1 ≤ n) (h2 : n ≤ 4096) (a b : Nat) (hab : a = w.heap.size ∧ b = w.heap.size + 1 ∨ a = w.heap.size + 1 ∧ b = w.heap.size) :
    Disk (((w.alloc (.cells (Array.replicate (n * 64) (.int .u8 0)) 72)).alloc (.cells (Array.replicate (n * 64) (.int .u8 0)) 72)).alloc (.cells #[.slice (some ⟨a, 0, none⟩) n n, .slice (some ⟨b, 0, none⟩) n n, .slice none 0 0] 40)) w.heap.size (w.heap.size + 1 + 1)
      (blocks (w.heap.size + 1 + 1) (.slice (some ⟨a, 0, none⟩) n n) (.slice (some ⟨b, 0, none⟩) n n) (.slice none 0 0)) (blank n) := by
  have r1 := ((made_row n w.heap.size w (Nat.le_refl _) h2).alloc (.cells (Array.replicate (n * 64) (.int .u8 0)) 72)).alloc (.cells #[.slice (some ⟨a, 0, none⟩) n n, .slice (some ⟨b, 0, none⟩) n n, .slice none 0 0] 40)
  have r2 := (made_row n w.heap.size (w.alloc (.cells (Array.replicate (n * 64) (.int .u8 0)) 72)) (by simp) h2).alloc (.cells #[.slice (some ⟨a, 0, none⟩) n n, .slice (some ⟨b, 0, none⟩) n n, .slice none 0 0] 40)
  have e : (w.alloc (.cells (Array.replicate (n * 64) (.int .u8 0)) 72)).heap.size = w.heap.size + 1 := by simp
  rw [e] at r2
  have hd := heap_alloc_new ((w.alloc (.cells (Array.replicate (n * 64) (.int .u8 0)) 72)).alloc (.cells (Array.replicate (n * 64) (.int .u8 0)) 72)) (.cells #[.slice (some ⟨a, 0, none⟩) n n, .slice (some ⟨b, 0, none⟩) n n, .slice none 0 0] 40)
  have e2 : ((w.alloc (.cells (Array.replicate (n * 64) (.int .u8 0)) 72)).alloc (.cells (Array.replicate (n * 64) (.int .u8 0)) 72)).heap.size = w.heap.size + 1 + 1 := by simp
  rw [e2] at hd
  rcases hab with ⟨rfl, rfl⟩ | ⟨rfl, rfl⟩
  · exact blank_disk h1 h2 hd (by omega) r1 r2 (by omega) (by omega) (by omega)
  · exact blank_disk h1 h2 hd (by omega) r2 r1 (by omega) (by omega) (by omega)
set_option maxHeartbeats 1000000 in
set_option maxRecDepth 100000 in
theorem new (x : Int) (w : World) : Calls Try.prog 17 #[.int .i64 x] w fun e w' =>
    (if 1 ≤ x ∧ x ≤ 4096 then ∃ d F, e = .returned (.tuple #[.pointer (some ⟨d, 0, none⟩), .int .i64 0]) ∧ Disk w' w.heap.size d F (blank x.toNat) else e = .returned (.tuple #[.pointer none, .int .i64 1])) ∧ Below w.heap.size w w' := by
  by_cases hx : 1 ≤ x ∧ x ≤ 4096
  · simp only [if_pos hx]
    obtain ⟨n, rfl⟩ : ∃ n : Nat, x = n := ⟨x.toNat, by omega⟩
    simp only [Int.toNat_natCast]
    have h1 : 1 ≤ n := by omega
    have h2 : n ≤ 4096 := by omega
    have hmk := mkP n (n : Int) rfl h2
    go_enter Try.func17, Try.ntmps17
    go_wp2
    refine wp_region_sl [.one (0, true, some 10), .one (2, true, some 12), .two 1 3 (some 11) (some 13), .one (4, true, some 14), .one (5, false, some 15), .one (6, true, some 2), .one (7, true, some 3)]
                [.one ⟨true, some 10, (Go.Op.move (Go.Operand.tmp 0)), 3, none⟩,
                .one ⟨true, some 12, (Go.Op.move (Go.Operand.tmp 0)), 3, none⟩,
                .two ⟨false, some 11, (Go.Op.makeSlice 37 (Go.Operand.tmp 10) (Go.Operand.tmp 10)), 37, none⟩ ⟨false, some 13, (Go.Op.makeSlice 37 (Go.Operand.tmp 12) (Go.Operand.tmp 12)), 37, none⟩,
                .one ⟨true, some 14, (Go.Op.build 40 #[(0, (Go.Operand.tmp 11)), (1, (Go.Operand.tmp 13))]), 40, none⟩,
                .one ⟨false, some 15, (Go.Op.box 40 (Go.Operand.tmp 14)), 24, none⟩,
                .one ⟨true, some 2, (Go.Op.assign (Go.Operand.tmp 15)), 24, none⟩,
                .one ⟨true, some 3, (Go.Op.assign (Go.Operand.const (Go.Value.int Go.IntKind.i64 0))), 30, none⟩]
                (fun _ => True) rfl (by kernel_rfl) (by kernel_rfl) trivial ?_
    (repeat (first | ((with_reducible refine sq (v := ?_) (a' := ?_) ?_ ?_ ?_); rotate_left 2; (focus (intro w' hS; go_simp; (first | done | with_reducible rfl | rfl))); (simp only [Act.put, List.setIfInBounds_toArray, List.set_cons_zero, List.set_cons_succ]; rfl)) | ((with_reducible refine sn (a' := ?_) ?_ ?_ ?_); rotate_left; (focus rfl); (simp only [Act.put, List.setIfInBounds_toArray, List.set_cons_zero, List.set_cons_succ]; rfl)) | ((with_reducible refine sf trivial (a' := ?_) ?_ ?_ ?_); rotate_left; (focus rfl); (simp only [Act.put, List.setIfInBounds_toArray, List.set_cons_zero, List.set_cons_succ]; rfl)) | ((with_reducible refine sqg (v := ?_) (a' := ?_) ?_ ?_ ?_ ?_); rotate_left 2; (focus rfl); (focus (intro w' hS; go_simp; (first | done | with_reducible rfl | rfl))); (simp only [Act.put, List.setIfInBounds_toArray, List.set_cons_zero, List.set_cons_succ]; rfl)))); (repeat ((go_bits; (first | ((with_reducible refine sq (v := ?_) (a' := ?_) ?_ ?_ ?_); rotate_left 2; (focus (intro w' hS; go_simp; (first | done | with_reducible rfl | rfl))); (simp only [Act.put, List.setIfInBounds_toArray, List.set_cons_zero, List.set_cons_succ]; rfl)) | ((with_reducible refine sn (a' := ?_) ?_ ?_ ?_); rotate_left; (focus rfl); (simp only [Act.put, List.setIfInBounds_toArray, List.set_cons_zero, List.set_cons_succ]; rfl)) | ((with_reducible refine sf trivial (a' := ?_) ?_ ?_ ?_); rotate_left; (focus rfl); (simp only [Act.put, List.setIfInBounds_toArray, List.set_cons_zero, List.set_cons_succ]; rfl)) | ((with_reducible refine sqg (v := ?_) (a' := ?_) ?_ ?_ ?_ ?_); rotate_left 2; (focus rfl); (focus (intro w' hS; go_simp; (first | done | with_reducible rfl | rfl))); (simp only [Act.put, List.setIfInBounds_toArray, List.set_cons_zero, List.set_cons_succ]; rfl)))); (repeat (first | ((with_reducible refine sq (v := ?_) (a' := ?_) ?_ ?_ ?_); rotate_left 2; (focus (intro w' hS; go_simp; (first | done | with_reducible rfl | rfl))); (simp only [Act.put, List.setIfInBounds_toArray, List.set_cons_zero, List.set_cons_succ]; rfl)) | ((with_reducible refine sn (a' := ?_) ?_ ?_ ?_); rotate_left; (focus rfl); (simp only [Act.put, List.setIfInBounds_toArray, List.set_cons_zero, List.set_cons_succ]; rfl)) | ((with_reducible refine sf trivial (a' := ?_) ?_ ?_ ?_); rotate_left; (focus rfl); (simp only [Act.put, List.setIfInBounds_toArray, List.set_cons_zero, List.set_cons_succ]; rfl)) | ((with_reducible refine sqg (v := ?_) (a' := ?_) ?_ ?_ ?_ ?_); rotate_left 2; (focus rfl); (focus (intro w' hS; go_simp; (first | done | with_reducible rfl | rfl))); (simp only [Act.put, List.setIfInBounds_toArray, List.set_cons_zero, List.set_cons_succ]; rfl)))))); (try go_bits)
    refine s2 fun K hK => ⟨?_, ?_⟩
    all_goals
      dsimp only [SOp.oper]
      go_simp
      refine hK _ _ trivial fun a'' ha => ?_
      clear hK
      try (simp only [Act.put, List.setIfInBounds_toArray, List.set_cons_zero, List.set_cons_succ] at ha)
      subst ha
      (repeat (first | ((with_reducible refine sq (v := ?_) (a' := ?_) ?_ ?_ ?_); rotate_left 2; (focus (intro w' hS; go_simp; (first | done | with_reducible rfl | rfl))); (simp only [Act.put, List.setIfInBounds_toArray, List.set_cons_zero, List.set_cons_succ]; rfl)) | ((with_reducible refine sn (a' := ?_) ?_ ?_ ?_); rotate_left; (focus rfl); (simp only [Act.put, List.setIfInBounds_toArray, List.set_cons_zero, List.set_cons_succ]; rfl)) | ((with_reducible refine sf trivial (a' := ?_) ?_ ?_ ?_); rotate_left; (focus rfl); (simp only [Act.put, List.setIfInBounds_toArray, List.set_cons_zero, List.set_cons_succ]; rfl)) | ((with_reducible refine sqg (v := ?_) (a' := ?_) ?_ ?_ ?_ ?_); rotate_left 2; (focus rfl); (focus (intro w' hS; go_simp; (first | done | with_reducible rfl | rfl))); (simp only [Act.put, List.setIfInBounds_toArray, List.set_cons_zero, List.set_cons_succ]; rfl)))); (repeat ((go_bits; (first | ((with_reducible refine sq (v := ?_) (a' := ?_) ?_ ?_ ?_); rotate_left 2; (focus (intro w' hS; go_simp; (first | done | with_reducible rfl | rfl))); (simp only [Act.put, List.setIfInBounds_toArray, List.set_cons_zero, List.set_cons_succ]; rfl)) | ((with_reducible refine sn (a' := ?_) ?_ ?_ ?_); rotate_left; (focus rfl); (simp only [Act.put, List.setIfInBounds_toArray, List.set_cons_zero, List.set_cons_succ]; rfl)) | ((with_reducible refine sf trivial (a' := ?_) ?_ ?_ ?_); rotate_left; (focus rfl); (simp only [Act.put, List.setIfInBounds_toArray, List.set_cons_zero, List.set_cons_succ]; rfl)) | ((with_reducible refine sqg (v := ?_) (a' := ?_) ?_ ?_ ?_ ?_); rotate_left 2; (focus rfl); (focus (intro w' hS; go_simp; (first | done | with_reducible rfl | rfl))); (simp only [Act.put, List.setIfInBounds_toArray, List.set_cons_zero, List.set_cons_succ]; rfl)))); (repeat (first | ((with_reducible refine sq (v := ?_) (a' := ?_) ?_ ?_ ?_); rotate_left 2; (focus (intro w' hS; go_simp; (first | done | with_reducible rfl | rfl))); (simp only [Act.put, List.setIfInBounds_toArray, List.set_cons_zero, List.set_cons_succ]; rfl)) | ((with_reducible refine sn (a' := ?_) ?_ ?_ ?_); rotate_left; (focus rfl); (simp only [Act.put, List.setIfInBounds_toArray, List.set_cons_zero, List.set_cons_succ]; rfl)) | ((with_reducible refine sf trivial (a' := ?_) ?_ ?_ ?_); rotate_left; (focus rfl); (simp only [Act.put, List.setIfInBounds_toArray, List.set_cons_zero, List.set_cons_succ]; rfl)) | ((with_reducible refine sqg (v := ?_) (a' := ?_) ?_ ?_ ?_ ?_); rotate_left 2; (focus rfl); (focus (intro w' hS; go_simp; (first | done | with_reducible rfl | rfl))); (simp only [Act.put, List.setIfInBounds_toArray, List.set_cons_zero, List.set_cons_succ]; rfl)))))); (try go_bits)
      refine se' fun K hK => ?_
      go_simp
      refine hK _ _ trivial fun a'' ha => ?_
      clear hK
      try (simp only [Act.put, List.setIfInBounds_toArray, List.set_cons_zero, List.set_cons_succ] at ha)
      subst ha
      (repeat (first | ((with_reducible refine sq (v := ?_) (a' := ?_) ?_ ?_ ?_); rotate_left 2; (focus (intro w' hS; go_simp; (first | done | with_reducible rfl | rfl))); (simp only [Act.put, List.setIfInBounds_toArray, List.set_cons_zero, List.set_cons_succ]; rfl)) | ((with_reducible refine sn (a' := ?_) ?_ ?_ ?_); rotate_left; (focus rfl); (simp only [Act.put, List.setIfInBounds_toArray, List.set_cons_zero, List.set_cons_succ]; rfl)) | ((with_reducible refine sf trivial (a' := ?_) ?_ ?_ ?_); rotate_left; (focus rfl); (simp only [Act.put, List.setIfInBounds_toArray, List.set_cons_zero, List.set_cons_succ]; rfl)) | ((with_reducible refine sqg (v := ?_) (a' := ?_) ?_ ?_ ?_ ?_); rotate_left 2; (focus rfl); (focus (intro w' hS; go_simp; (first | done | with_reducible rfl | rfl))); (simp only [Act.put, List.setIfInBounds_toArray, List.set_cons_zero, List.set_cons_succ]; rfl)))); (repeat ((go_bits; (first | ((with_reducible refine sq (v := ?_) (a' := ?_) ?_ ?_ ?_); rotate_left 2; (focus (intro w' hS; go_simp; (first | done | with_reducible rfl | rfl))); (simp only [Act.put, List.setIfInBounds_toArray, List.set_cons_zero, List.set_cons_succ]; rfl)) | ((with_reducible refine sn (a' := ?_) ?_ ?_ ?_); rotate_left; (focus rfl); (simp only [Act.put, List.setIfInBounds_toArray, List.set_cons_zero, List.set_cons_succ]; rfl)) | ((with_reducible refine sf trivial (a' := ?_) ?_ ?_ ?_); rotate_left; (focus rfl); (simp only [Act.put, List.setIfInBounds_toArray, List.set_cons_zero, List.set_cons_succ]; rfl)) | ((with_reducible refine sqg (v := ?_) (a' := ?_) ?_ ?_ ?_ ?_); rotate_left 2; (focus rfl); (focus (intro w' hS; go_simp; (first | done | with_reducible rfl | rfl))); (simp only [Act.put, List.setIfInBounds_toArray, List.set_cons_zero, List.set_cons_succ]; rfl)))); (repeat (first | ((with_reducible refine sq (v := ?_) (a' := ?_) ?_ ?_ ?_); rotate_left 2; (focus (intro w' hS; go_simp; (first | done | with_reducible rfl | rfl))); (simp only [Act.put, List.setIfInBounds_toArray, List.set_cons_zero, List.set_cons_succ]; rfl)) | ((with_reducible refine sn (a' := ?_) ?_ ?_ ?_); rotate_left; (focus rfl); (simp only [Act.put, List.setIfInBounds_toArray, List.set_cons_zero, List.set_cons_succ]; rfl)) | ((with_reducible refine sf trivial (a' := ?_) ?_ ?_ ?_); rotate_left; (focus rfl); (simp only [Act.put, List.setIfInBounds_toArray, List.set_cons_zero, List.set_cons_succ]; rfl)) | ((with_reducible refine sqg (v := ?_) (a' := ?_) ?_ ?_ ?_ ?_); rotate_left 2; (focus rfl); (focus (intro w' hS; go_simp; (first | done | with_reducible rfl | rfl))); (simp only [Act.put, List.setIfInBounds_toArray, List.set_cons_zero, List.set_cons_succ]; rfl)))))); (try go_bits)
      refine sl_end ?_
      go_wp2
      go_ret2
    · exact ⟨⟨_, _, rfl, (key n w h1 h2 _ _ (.inl ⟨rfl, rfl⟩)).kept (Chg.drew _) (fun _ _ h => h)⟩, (key_below n w _ _).drew⟩
    · exact ⟨⟨_, _, rfl, (key n w h1 h2 _ _ (.inr ⟨rfl, rfl⟩)).kept (Chg.drew _) (fun _ _ h => h)⟩, (key_below n w _ _).drew⟩
  · simp only [if_neg hx]
    by_cases h0 : x < 1
    · go_enter Try.func17, Try.ntmps17
      go_wp2
      go_ret2
      exact ⟨rfl, Below.refl _ _⟩
    · have h3 : 4096 < x := by omega
      go_enter Try.func17, Try.ntmps17
      go_wp2
      go_ret2
      exact ⟨rfl, Below.refl _ _⟩
end Go.Proofs.Ytmpkoacpakepfaa.Disk
