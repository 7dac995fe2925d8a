/- Texts of this work, one behind the other. -/
import Derived.Test.YticnjkdaccacaaaGreatVChiefsStay9
import Derived.WalkKit
import Derived.Test.YticnjkdaccacaaaGreatProg
import Derived.ProofKit
import Derived.OpenShut
import Derived.KernelRfl
import Derived.Lib.Hide
import Derived.Deep.LoopGhost
import Derived.Laws.Tables
set_option maxRecDepth 100000
set_option maxHeartbeats 16000000
section
namespace Go.Proofs.YticnjkdaccacaaaGreat.Disk
open Go.RowKit Base Oq OwnV Bytes
def blank (n : Nat) : Dk := ⟨List.replicate n (List.replicate 64 0), List.replicate n (List.replicate 64 0), []⟩
theorem blank_pc (n : Nat) : ∀ p ∈ List.replicate n (List.replicate 64 (0 : Int)), Pc p := fun p hp => by
 rw [List.eq_of_mem_replicate hp]; exact ⟨by simp, Bts.zeros _⟩
theorem blank_ok (n : Nat) (h1 : 1 ≤ n) (h2 : n ≤ 4096) : (blank n).ok := ⟨by simp [blank], by simp [blank]; exact h1, by simp [blank]; exact h2, blank_pc n, blank_pc n, fun x hx => by simp [blank] at hx⟩
theorem pcs_blank (n : Nat) : pcs (List.replicate n (List.replicate 64 0)) = List.replicate (n * 64) (Value.int .u8 0) := by
 unfold pcs
 induction n with
 | zero => simp
 | succ n ih =>
  rw [List.replicate_succ, List.flatten_cons, List.map_append, ih, List.map_replicate, List.replicate_append_replicate]
  congr 1; omega
theorem made_rep (z : Array Value) (v : Value) (m : Nat) (hz : z = Array.replicate 64 v) : madeCells z m = Array.replicate m v := by
 subst hz
 apply Array.ext
 ·simp [madeCells]
 ·intro i h1 h2
  simp only [madeCells, Array.getElem_map, Array.getElem_range, Array.getElem_replicate]
  rw [getElem!_pos _ _ (by simp; omega), Array.getElem_replicate]
theorem mkP (n : Nat) (x : Int) (hx : x = n) (hn : n ≤ 4096) : ∀ W : World, (Instr.makeSlice 115 (.int .i64 x) (.int .i64 x)).run Tryz.prog W = .ok (.slice (some ⟨W.heap.size, 0, none⟩) n n) (W.alloc (.cells (Array.replicate (n * 64) (.int .u8 0)) 118)) := by
 intro W
 subst hx
 obtain ⟨i, hi, hzz⟩ := Option.map_eq_some_iff.1 (show (Tryz.prog.info? 118).map (fun i => (i.zero, i.size, i.bytes)) = some (some (.agg (Array.replicate 64 (.int .u8 0))), 64, 64) by kernel_rfl)
 simp only [Prod.mk.injEq] at hzz
 obtain ⟨hz0, hs, hby⟩ := hzz
 have h := run_make (P := Tryz.prog) W 115 118 i _ Tryz.underlying115 hi hz0 .i64 .i64 (n : Int) (n : Int) (by omega) (by omega) (by rw [hby]; omega) (by omega)
 rw [h, hs, show (Value.agg (Array.replicate 64 (.int .u8 0))).cells = Array.replicate 64 (.int .u8 0) from rfl, made_rep _ (.int .u8 0) _ rfl]
 simp only [Int.toNat_natCast]
theorem made_row (n B : Nat) (w : World) (hB : B ≤ w.heap.size) (hn : n ≤ 4096) : RowV (w.alloc (.cells (Array.replicate (n * 64) (.int .u8 0)) 118)) B 118 64 (.slice (some ⟨w.heap.size, 0, none⟩) n n) n (pcs (List.replicate n (List.replicate 64 0))) := by
 have h := RowV.made (B := B) w 118 64 n (Array.replicate (n * 64) (.int .u8 0)) hB (by simp) (by simp [maxLen]; omega)
 rw [pcs_blank]
 simpa using h
theorem blank_disk {w W : World} {n a b d : Nat} (h1 : 1 ≤ n) (h2 : n ≤ 4096) (hd : W.heap[d]? = some (.cells #[.slice (some ⟨a, 0, none⟩) n n, .slice (some ⟨b, 0, none⟩) n n, .slice none 0 0] 121 (0, 0))) (hB : w.heap.size ≤ d)
  (ha : RowV W w.heap.size 118 64 (.slice (some ⟨a, 0, none⟩) n n) n (pcs (List.replicate n (List.replicate 64 0)))) (hb : RowV W w.heap.size 118 64 (.slice (some ⟨b, 0, none⟩) n n) n (pcs (List.replicate n (List.replicate 64 0))))
  (had : a ≠ d) (hbd : b ≠ d) (hab : a ≠ b) : Disk W w.heap.size d (blocks d (.slice (some ⟨a, 0, none⟩) n n) (.slice (some ⟨b, 0, none⟩) n n) (.slice none 0 0)) (blank n) :=
 ⟨_, _, _, ⟨hd, hB, by simpa [blank] using ha, by simpa [blank] using hb, RowV.nil _ _ _ _, fun e => had (by injection e), fun e => hbd (by injection e), fun e => by simp [Value.ownBlock] at e, fun e => hab (by injection e), Sep.nil _, Sep.nil _, blank_ok n h1 h2⟩, fun k => Iff.rfl⟩
theorem key_below (n : Nat) (w : World) (a b : Nat) : Below w.heap.size w (((w.alloc (.cells (Array.replicate (n * 64) (.int .u8 0)) 118)).alloc (.cells (Array.replicate (n * 64) (.int .u8 0)) 118)).alloc (.cells #[.slice (some ⟨a, 0, none⟩) n n, .slice (some ⟨b, 0, none⟩) n n, .slice none 0 0] 121)) :=
 (((Below.refl _ _).alloc (Nat.le_refl _) _).alloc (by simp) _).alloc (by simp; omega) _
theorem key (n : Nat) (w : World) (h1 : 1 ≤ n) (h2 : n ≤ 4096) (a b : Nat) (hab : a = w.heap.size ∧ b = w.heap.size + 1 ∨ a = w.heap.size + 1 ∧ b = w.heap.size) :
  Disk (((w.alloc (.cells (Array.replicate (n * 64) (.int .u8 0)) 118)).alloc (.cells (Array.replicate (n * 64) (.int .u8 0)) 118)).alloc (.cells #[.slice (some ⟨a, 0, none⟩) n n, .slice (some ⟨b, 0, none⟩) n n, .slice none 0 0] 121)) w.heap.size (w.heap.size + 1 + 1)
   (blocks (w.heap.size + 1 + 1) (.slice (some ⟨a, 0, none⟩) n n) (.slice (some ⟨b, 0, none⟩) n n) (.slice none 0 0)) (blank n) := by
 have r1 := ((made_row n w.heap.size w (Nat.le_refl _) h2).alloc (.cells (Array.replicate (n * 64) (.int .u8 0)) 118)).alloc (.cells #[.slice (some ⟨a, 0, none⟩) n n, .slice (some ⟨b, 0, none⟩) n n, .slice none 0 0] 121)
 have r2 := (made_row n w.heap.size (w.alloc (.cells (Array.replicate (n * 64) (.int .u8 0)) 118)) (by simp) h2).alloc (.cells #[.slice (some ⟨a, 0, none⟩) n n, .slice (some ⟨b, 0, none⟩) n n, .slice none 0 0] 121)
 have e : (w.alloc (.cells (Array.replicate (n * 64) (.int .u8 0)) 118)).heap.size = w.heap.size + 1 := by simp
 rw [e] at r2
 have hd := heap_alloc_new ((w.alloc (.cells (Array.replicate (n * 64) (.int .u8 0)) 118)).alloc (.cells (Array.replicate (n * 64) (.int .u8 0)) 118)) (.cells #[.slice (some ⟨a, 0, none⟩) n n, .slice (some ⟨b, 0, none⟩) n n, .slice none 0 0] 121)
 have e2 : ((w.alloc (.cells (Array.replicate (n * 64) (.int .u8 0)) 118)).alloc (.cells (Array.replicate (n * 64) (.int .u8 0)) 118)).heap.size = w.heap.size + 1 + 1 := by simp
 rw [e2] at hd
 rcases hab with ⟨rfl, rfl⟩ | ⟨rfl, rfl⟩
 ·exact blank_disk h1 h2 hd (by omega) r1 r2 (by omega) (by omega) (by omega)
 ·exact blank_disk h1 h2 hd (by omega) r2 r1 (by omega) (by omega) (by omega)
theorem new (x : Int) (w : World) : Calls Tryz.prog 21 #[.int .i64 x] w fun e w' =>
  (if 1 ≤ x ∧ x ≤ 4096 then ∃ d F, e = .returned (.tuple #[.pointer (some ⟨d, 0, none⟩), .int .i64 0]) ∧ Disk w' w.heap.size d F (blank x.toNat) else e = .returned (.tuple #[.pointer none, .int .i64 1])) ∧ Below w.heap.size w w' := by
 by_cases hx : 1 ≤ x ∧ x ≤ 4096
 ·simp only [if_pos hx]
  obtain ⟨n, rfl⟩ : ∃ n : Nat, x = n := ⟨x.toNat, by omega⟩
  simp only [Int.toNat_natCast]
  have h1 : 1 ≤ n := by omega
  have h2 : n ≤ 4096 := by omega
  have hmk := mkP n (n : Int) rfl h2
  go_enter Tryz.func21, Tryz.ntmps21
  go_wp2
  refine wp_region_sl [u_ 0 10, u_ 2 12, .two 1 3 (some 11) (some 13), u_ 4 14, .one (5, false, some 15), u_ 6 2, u_ 7 3]
        [m_ 10 0 3,
        m_ 12 0 3,
        .two ⟨false, some 11, (Go.Op.makeSlice 115 (Go.Operand.tmp 10) (Go.Operand.tmp 10)), 115, none⟩ ⟨false, some 13, (Go.Op.makeSlice 115 (Go.Operand.tmp 12) (Go.Operand.tmp 12)), 115, none⟩,
        .one ⟨true, some 14, (.build 121 #[(0, (.tmp 11)), (1, (.tmp 13))]), 121, none⟩,
        .one ⟨false, some 15, (.box 121 (.tmp 14)), 23, none⟩,
        .one ⟨true, some 2, (.assign (.tmp 15)), 23, none⟩,
        .one ⟨true, some 3, (.assign (.const (.int .i64 0))), 28, none⟩]
        (fun _ => True) rfl (by kernel_rfl) (by kernel_rfl) trivial ?_
  (repeat (first | ((first | ((with_reducible refine sq (v := ?_) (a' := ?_) ?_ ?_ ?_); rotate_left 2; (focus (intro w' hS; go_simp; (first | done | with_reducible rfl | rfl)))) | ((with_reducible refine sn (a' := ?_) ?_ ?_ ?_); rotate_left; (focus rfl)) | ((with_reducible refine sf trivial (a' := ?_) ?_ ?_ ?_); rotate_left; (focus rfl)) | ((with_reducible refine sqg (v := ?_) (a' := ?_) ?_ ?_ ?_ ?_); rotate_left 2; (focus rfl); (focus (intro w' hS; go_simp; (first | done | with_reducible rfl | rfl))))); (simp only [Act.put, List.setIfInBounds_toArray, List.set_cons_zero, List.set_cons_succ]; rfl)) | go_bits))
  refine s2 fun K hK => ⟨?_, ?_⟩
  all_goals
   dsimp only [SOp.oper]
   go_simp
   refine hK _ _ trivial fun a'' ha => ?_
   clear hK
   try (simp only [Act.put, List.setIfInBounds_toArray, List.set_cons_zero, List.set_cons_succ] at ha)
   subst ha
   (repeat (first | ((first | ((with_reducible refine sq (v := ?_) (a' := ?_) ?_ ?_ ?_); rotate_left 2; (focus (intro w' hS; go_simp; (first | done | with_reducible rfl | rfl)))) | ((with_reducible refine sn (a' := ?_) ?_ ?_ ?_); rotate_left; (focus rfl)) | ((with_reducible refine sf trivial (a' := ?_) ?_ ?_ ?_); rotate_left; (focus rfl)) | ((with_reducible refine sqg (v := ?_) (a' := ?_) ?_ ?_ ?_ ?_); rotate_left 2; (focus rfl); (focus (intro w' hS; go_simp; (first | done | with_reducible rfl | rfl))))); (simp only [Act.put, List.setIfInBounds_toArray, List.set_cons_zero, List.set_cons_succ]; rfl)) | go_bits))
   refine se' fun K hK => ?_
   go_simp
   refine hK _ _ trivial fun a'' ha => ?_
   clear hK
   try (simp only [Act.put, List.setIfInBounds_toArray, List.set_cons_zero, List.set_cons_succ] at ha)
   subst ha
   (repeat (first | ((first | ((with_reducible refine sq (v := ?_) (a' := ?_) ?_ ?_ ?_); rotate_left 2; (focus (intro w' hS; go_simp; (first | done | with_reducible rfl | rfl)))) | ((with_reducible refine sn (a' := ?_) ?_ ?_ ?_); rotate_left; (focus rfl)) | ((with_reducible refine sf trivial (a' := ?_) ?_ ?_ ?_); rotate_left; (focus rfl)) | ((with_reducible refine sqg (v := ?_) (a' := ?_) ?_ ?_ ?_ ?_); rotate_left 2; (focus rfl); (focus (intro w' hS; go_simp; (first | done | with_reducible rfl | rfl))))); (simp only [Act.put, List.setIfInBounds_toArray, List.set_cons_zero, List.set_cons_succ]; rfl)) | go_bits))
   refine sl_end ?_
   go_wp2
   go_ret2
  ·exact ⟨⟨_, _, rfl, (key n w h1 h2 _ _ (.inl ⟨rfl, rfl⟩)).kept (Chg.drew _) (fun _ _ h => h)⟩, (key_below n w _ _).drew⟩
  ·exact ⟨⟨_, _, rfl, (key n w h1 h2 _ _ (.inr ⟨rfl, rfl⟩)).kept (Chg.drew _) (fun _ _ h => h)⟩, (key_below n w _ _).drew⟩
 ·simp only [if_neg hx]
  by_cases h0 : x < 1
  ·go_enter Tryz.func21, Tryz.ntmps21
   go_wp2
   go_ret2
   exact ⟨rfl, Below.refl _ _⟩
  ·have h3 : 4096 < x := by omega
   go_enter Tryz.func21, Tryz.ntmps21
   go_wp2
   go_ret2
   exact ⟨rfl, Below.refl _ _⟩
theorem write {w : World} {B d : Nat} {F : Nat → Prop} {D : Dk} (h : Disk w B d F D) (hB : B ≤ w.heap.size) (hwl : D.waits.length ≤ 1000000000) (x : Int) (A : Option Addr) (c : Nat) (b : List Int) (hlb : b.length ≤ 1000000000) (hb : Bts b) (hr : Rd .u8 w A b) :
  Calls Tryz.prog 70 #[.pointer (some ⟨d, 0, none⟩), .int .i64 x, .slice A b.length c] w fun e w' => e = .returned (.int .i64 (writeCode D.seen.length x b)) ∧
   ∃ F', Disk w' B d F' (if writeCode D.seen.length x b = 0 then D.write x (pad b) else D) ∧ Chg F w w' ∧ ∀ k, F' k → F k ∨ w.heap.size ≤ k := by
 have H := Lib.hid h
 have HB := Lib.hid (And.intro hb (And.intro hr hB))
 clear h hb hr hB
 by_cases hx : 0 ≤ x ∧ x < D.seen.length
 ·have hm : mayOk D.seen.length x = 0 := by unfold mayOk; rw [if_pos hx]
  by_cases h64 : 64 < b.length
  ·have hc : writeCode D.seen.length x b = 1 := by unfold writeCode; rw [if_pos (.inr h64)]
   rw [hc]
   clear hc
   go_enter Tryz.func70, Tryz.ntmps70
   go_wp2_with fail
   refine (may H.out x).mono ?_
   rw [hm]
   clear hm
   rintro e w' ⟨rfl, h⟩
   subst h
   go_wp2
   go_ret
   exact ⟨rfl, F, H.out, Chg.refl _ _, fun k hk => .inl hk⟩
  ·have hc : writeCode D.seen.length x b = 0 := by unfold writeCode; rw [if_neg (by rw [hm]; simp; omega)]
   rw [hc]
   clear hc
   obtain ⟨i, rfl⟩ : ∃ i : Nat, x = i := ⟨x.toNat, by omega⟩
   have hi : i < D.seen.length := by omega
   obtain ⟨Z, hZ⟩ : ∃ Z : Array Value, Z = Array.replicate 64 (.int .u8 0) := ⟨_, rfl⟩
   have hz : ∀ W, (zeroValue 118).run Tryz.prog W = .ok (.agg Z) W := fun W => by subst hZ; kernel_rfl
   have HZ := Lib.hid hZ
   clear hZ
   go_enter Tryz.func70, Tryz.ntmps70
   go_wp2_with fail
   refine (may H.out (i : Int)).mono ?_
   rw [hm]
   clear hm
   rintro e w' ⟨rfl, h⟩
   subst h
   have o1 : OwnI .u8 (w'.alloc (.cells Z 118)) w'.heap.size 118 (.slice (some ⟨w'.heap.size, 0, none⟩) 64 64) (List.replicate 64 0) :=
    OwnI.made (B := w'.heap.size) w' .u8 (List.replicate 64 (0 : Int)) 118 Z (by rw [HZ.out]; rfl) (Nat.le_refl _) (by simp [maxLen])
   have b1 : Below w'.heap.size w' (w'.alloc (.cells Z 118)) := (Below.refl _ _).alloc (Nat.le_refl _) _
   have H1 := Lib.hid (And.intro o1 b1)
   clear o1 b1
   go_wp2_with (refine copy_list_m (m := 64) (by simp) rfl (.tmp 18) (.tmp 19) _ _ 5 rfl Tryz.underlying92 info1 H1.out.1 0 _ _ _ _ _ _ b rfl rfl (fun _ => rfl) (HB.out.2.1.below H1.out.2) (by show _ = min _ _; omega) (by omega) ?_; intro w2 o2 c2; have H2 := Lib.hid (And.intro o2 c2); clear o2 c2 hz)
   obtain ⟨o2, c2⟩ := H2.out
   rw [pad_splice (by omega)] at o2
   have hpc := pad_pc (b := b) (by omega) HB.out.1
   obtain ⟨S, E, W, L0, hF⟩ := H.out
   have c02 : Chg (fun k => w'.heap.size ≤ k) w' w2 := (Chg.of_below H1.out.2).trans c2 (fun k _ hk => by rw [hk]; exact Nat.le_refl _)
   have L2 : Lies w2 B d S E W D := L0.kept c02 fun k hk hk2 => by
    have := (H.out.lt k ((hF k).2 hk)).2
    omega
   obtain ⟨p, hp⟩ : ∃ p, p = pad b := ⟨_, rfl⟩
   rw [← hp] at o2 hpc
   have hdlt : d < w'.heap.size := (Array.getElem?_eq_some_iff.1 L0.cells).1
   have hglt := fun k hk => (H.out.lt k ((hF k).2 hk)).2
   obtain ⟨A2, c2', hE, -, -, hA, hA2⟩ := L2.seen.slice
   cases A2 with
   | none => have := hA rfl; omega
   | some ad =>
   obtain ⟨g, rfl, hBg, hg, hr, hth⟩ := hA2 _ rfl
   subst hE
   have hgd : g ≠ d := fun h => L2.e0 (by rw [h]; rfl)
   have hgl : g < w'.heap.size := hglt g (.inr (.inr (.inl rfl)))
   have hc1 := L2.cell.2.1
   have hpr : w2.rangeAt w'.heap.size 0 (p.map (Value.int .u8)) := by
    obtain ⟨A3, c3, e3, -, -, -, h3⟩ := RowV.slice (show RowV w2 w'.heap.size 118 1 (.slice (some ⟨w'.heap.size, 0, none⟩) 64 64) p.length (p.map (Value.int .u8)) from o2)
    injection e3 with e4
    obtain ⟨g3, e5, _, _, h4, _⟩ := h3 _ e4.symm
    injection e5 with e5
    subst e5
    exact h4
   obtain ⟨Pv, hPv⟩ : ∃ Pv, Pv = p.map (Value.int .u8) := ⟨_, rfl⟩
   have hPl : Pv.length = 64 := by rw [hPv, List.length_map, hpc.1]
   rw [← hPv] at hpr
   have HP := Lib.hid (And.intro hPv (And.intro hpc hp))
   have HL := Lib.hid L2
   have HC := Lib.hid (And.intro c02 (And.intro hF (And.intro hglt hth)))
   have hmost := L2.ok.most
   clear o2 c2 hpc L0 c02 L2 hA hA2 hr hPv hp H1 H2 hF hglt hth hBg
   obtain ⟨n, hn⟩ : ∃ n, n = D.seen.length := ⟨_, rfl⟩
   rw [← hn] at hi hc1 hmost hx
   have HNn := Lib.hid hn
   clear hn
   refine wp_region_sl [u_ 0 21, u_ 1 22, u_ 2 23, u_ 3 24, u_ 4 25, u_ 5 26, u_ 6 27, .one (7, false, none)]
        [m_ 21 0 23,
        c_ 22 21,
        f_ 23 121 22 1,
        l_ 24 115 23,
        m_ 25 1 3,
        l_ 26 118 8,
        i_ 27 115 24 25,
        .one ⟨false, none, (.store 118 (.tmp 27) (.tmp 26)), 0, none⟩]
        (fun w3 => w3.cell? ⟨d, 1, none⟩ = some (.slice (some ⟨g, 0, none⟩) n c2') ∧ w3.rangeAt w'.heap.size 0 Pv) rfl (by kernel_rfl) (by kernel_rfl) ?_ ?_
   ·exact ⟨hc1, hpr⟩
   (repeat (first | ((first | ((with_reducible refine sq (v := ?_) (a' := ?_) ?_ ?_ ?_); rotate_left 2; (focus (intro w' hS; go_simp; (first | done | with_reducible rfl | rfl)))) | ((with_reducible refine sn (a' := ?_) ?_ ?_ ?_); rotate_left; (focus rfl)) | ((with_reducible refine sf trivial (a' := ?_) ?_ ?_ ?_); rotate_left; (focus rfl)) | ((with_reducible refine sqg (v := ?_) (a' := ?_) ?_ ?_ ?_ ?_); rotate_left 2; (focus rfl); (focus (intro w' hS; go_simp; (first | done | with_reducible rfl | rfl))))); (simp only [Act.put, List.setIfInBounds_toArray, List.set_cons_zero, List.set_cons_succ]; rfl)) | go_bits))
   refine sq (v := .agg Pv.toArray) (a' := ?_) (fun w3 hS => ?_) ?_ ?_
   rotate_left 1
   ·exact exec_load_mid _ _ w'.heap.size 0 rfl Pv _ hS.2 Tryz.underlying118 rfl (by rw [hPl]; kernel_rfl)
   ·simp only [Act.put, List.setIfInBounds_toArray, List.set_cons_zero, List.set_cons_succ]; rfl
   (repeat (first | ((first | ((with_reducible refine sq (v := ?_) (a' := ?_) ?_ ?_ ?_); rotate_left 2; (focus (intro w' hS; go_simp; (first | done | with_reducible rfl | rfl)))) | ((with_reducible refine sn (a' := ?_) ?_ ?_ ?_); rotate_left; (focus rfl)) | ((with_reducible refine sf trivial (a' := ?_) ?_ ?_ ?_); rotate_left; (focus rfl)) | ((with_reducible refine sqg (v := ?_) (a' := ?_) ?_ ?_ ?_ ?_); rotate_left 2; (focus rfl); (focus (intro w' hS; go_simp; (first | done | with_reducible rfl | rfl))))); (simp only [Act.put, List.setIfInBounds_toArray, List.set_cons_zero, List.set_cons_succ]; rfl)) | go_bits))
   refine se' fun K hK => ?_
   have hp64 : (Pv.toArray).size = 64 := by simp [hPl]
   refine wp_store_mid _ _ _ rfl g (i * 64) Pv.toArray rfl rfl ?_ (by rw [hp64]; kernel_rfl) (all_oneCell_toArray (fun v hv => by rw [HP.out.1] at hv; obtain ⟨x, _, rfl⟩ := List.mem_map.1 hv; rfl)) ?_
   ·intro j hj
    rw [hp64] at hj
    have := HC.out.2.2.2 (i * 64 + j) (by rw [← HNn.out]; omega)
    rw [Nat.zero_add] at this
    exact this
   refine hK _ _ ⟨?_, ?_⟩ fun a'' ha => ?_
   ·rw [World.cell?_setCells_out _ _ _ _ _ (fun hb _ => absurd hb (Ne.symm hgd))]; exact hc1
   ·exact World.rangeAt_setCells_apart (w := w2.drew) hpr g (i * 64) _ (.inl (by omega))
   have c25 : Chg (fun k => k = g) w2 (w2.drew.setCells g (i * 64) Pv.toArray.toList) := ((Chg.drew w2).mono (fun k _ h => h.elim)).trans (chg_setCells g _ _ _) (fun _ _ h => h)
   have L5 : Lies (w2.drew.setCells g (i * 64) Pv.toArray.toList) B d S (.slice (some ⟨g, 0, none⟩) n c2') W { D with seen := D.seen.set i p } := by
    have h := (HL.out.kept (Chg.drew w2) (fun _ _ h => h))
    rw [← HNn.out] at h
    have h2 := h.set (i := i) (p := p) (by rw [← HNn.out]; exact hi) HP.out.2.1
    rw [← HP.out.1] at h2
    exact h2
   have hpr5 : (w2.drew.setCells g (i * 64) Pv.toArray.toList).rangeAt w'.heap.size 0 Pv := World.rangeAt_setCells_apart (w := w2.drew) hpr g (i * 64) _ (.inl (by omega))
   have c05 := HC.out.1.then c25
   obtain ⟨w5, hw5⟩ : ∃ w5, w5 = w2.drew.setCells g (i * 64) Pv.toArray.toList := ⟨_, rfl⟩
   rw [← hw5] at c25 L5 hpr5 c05 ⊢
   have hc2 := L5.cell.2.2
   have HL5 := Lib.hid L5
   have HC5 := Lib.hid c05
   clear hw5 c25 L5 c05 hc1 hpr HL hp64 hK
   simp only [Act.put, List.setIfInBounds_toArray, List.set_cons_zero, List.set_cons_succ] at ha
   subst ha
   refine sl_end ?_
   go_wp2
   refine wp_region_sl [u_ 0 28, u_ 1 29, u_ 2 30, u_ 3 31, u_ 5 33, u_ 6 34, u_ 7 35, .two 4 8 (some 32) (some 36), .one (9, false, some 37), u_ 10 38, u_ 11 39, .one (12, false, none)]
        [m_ 28 0 23,
        m_ 29 0 23,
        c_ 30 29,
        f_ 31 121 30 2,
        m_ 33 1 3,
        l_ 34 118 8,
        .one ⟨true, some 35, (.build 123 #[(0, (.tmp 33)), (1, (.tmp 34))]), 123, none⟩,
        .two ⟨false, some 32, (Go.Op.load 119 (Go.Operand.tmp 31)), 119, none⟩ ⟨false, some 36, (Go.Op.buildSlice 119 1 #[(0, (Go.Operand.tmp 35))]), 119, none⟩,
        .one ⟨false, some 37, (.call { callee := (.builtin Go.Builtin.append), args := #[(.tmp 32), (.tmp 36)], argTypes := #[119, 119] }), 119, none⟩,
        c_ 38 28,
        f_ 39 121 38 2,
        .one ⟨false, none, (.store 119 (.tmp 39) (.tmp 37)), 0, none⟩]
        (fun w3 => w3.rangeAt w'.heap.size 0 Pv) rfl (by kernel_rfl) (by kernel_rfl) ?_ ?_
   ·exact hpr5
   (repeat (first | ((first | ((with_reducible refine sq (v := ?_) (a' := ?_) ?_ ?_ ?_); rotate_left 2; (focus (intro w' hS; go_simp; (first | done | with_reducible rfl | rfl)))) | ((with_reducible refine sn (a' := ?_) ?_ ?_ ?_); rotate_left; (focus rfl)) | ((with_reducible refine sf trivial (a' := ?_) ?_ ?_ ?_); rotate_left; (focus rfl)) | ((with_reducible refine sqg (v := ?_) (a' := ?_) ?_ ?_ ?_ ?_); rotate_left 2; (focus rfl); (focus (intro w' hS; go_simp; (first | done | with_reducible rfl | rfl))))); (simp only [Act.put, List.setIfInBounds_toArray, List.set_cons_zero, List.set_cons_succ]; rfl)) | go_bits))
   refine sq (v := .agg Pv.toArray) (a' := ?_) (fun w3 hS => ?_) ?_ ?_
   rotate_left 1
   ·exact exec_load_mid _ _ w'.heap.size 0 rfl Pv _ hS Tryz.underlying118 rfl (by rw [hPl]; kernel_rfl)
   ·simp only [Act.put, List.setIfInBounds_toArray, List.set_cons_zero, List.set_cons_succ]; rfl
   refine sq (v := .agg (Value.int .i64 i :: Pv).toArray) (a' := ?_) (fun w3 hS => ?_) ?_ ?_
   rotate_left 1
   ·exact exec_build _ _ _ (by simp only [List.map_toArray, List.map_cons, List.map_nil]; exact built_write i Pv hPl)
   ·simp only [Act.put, List.setIfInBounds_toArray, List.set_cons_zero, List.set_cons_succ]; rfl
   have hw6 : Below w5.heap.size w5 (w5.drew.alloc (.cells (Value.int .i64 i :: Pv).toArray 123)) := (Below.refl _ _).drew.alloc (Nat.le_refl _) _
   have hd5 : d < w5.heap.size := (Array.getElem?_eq_some_iff.1 HL5.out.cells).1
   have hs5 : w'.heap.size < w5.heap.size := World.block_lt_of_cell? w5 _ (hpr5 0 Pv[0] (List.getElem?_eq_getElem (by omega)))
   have hc6 : (w5.drew.alloc (.cells (Value.int .i64 i :: Pv).toArray 123)).cell? ⟨d, 2, none⟩ = some W := by rw [hw6.cell (p := ⟨d, 2, none⟩) hd5]; exact hc2
   have hpr6 : (w5.drew.alloc (.cells (Value.int .i64 i :: Pv).toArray 123)).rangeAt w'.heap.size 0 Pv := fun j v hv => by rw [hw6.cell (p := ⟨w'.heap.size, 0 + j, none⟩) hs5]; exact hpr5 j v hv
   have hag : ∀ X, (isAgg 119).run Tryz.prog X = .ok false X := fun X => by kernel_rfl
   refine s2lv (v := W) (u := .slice (some ⟨w5.drew.heap.size, 0, none⟩) 1 1) (w' := w5.drew.alloc (.cells (Value.int .i64 i :: Pv).toArray 123)) (a1 := ?_) ?_ ?_ ?_ ?_ hpr5 hpr6 ?_ ?_ ?_
   rotate_left 1
   ·exact exec_load_cell _ _ ⟨d, 2, none⟩ W rfl hc2 hag
   ·exact exec_one_slice _ 123 (.tmp 35) _ 65 rfl (by simp [hPl]) Tryz.underlying119 (by kernel_rfl) (by decide) (by decide)
   ·exact exec_one_slice _ 123 (.tmp 35) _ 65 rfl (by simp [hPl]) Tryz.underlying119 (by kernel_rfl) (by decide) (by decide)
   ·exact exec_load_cell _ _ ⟨d, 2, none⟩ W rfl hc6 hag
   ·simp only [Act.put, List.setIfInBounds_toArray, List.set_cons_zero, List.set_cons_succ]; rfl
   ·simp only [Act.put, List.setIfInBounds_toArray, List.set_cons_zero, List.set_cons_succ]
   have L6 := HL5.out.kept (Chg.of_new hw6) (fun _ _ h => h)
   have hrow : (w5.drew.alloc (.cells (Value.int .i64 i :: Pv).toArray 123)).heap[w5.drew.heap.size]? = some (.cells (Value.int .i64 i :: Pv).toArray 123 (0, 0)) := heap_alloc_new _ _
   have c06 := HC5.out.then (Chg.of_new hw6)
   obtain ⟨w6, hw6e⟩ : ∃ w6, w6 = w5.drew.alloc (.cells (Value.int .i64 i :: Pv).toArray 123) := ⟨_, rfl⟩
   rw [← hw6e] at hc6 hpr6 L6 hrow c06 ⊢
   have HL6 := Lib.hid L6
   have HC6 := Lib.hid c06
   clear hw6e hw6 L6 c06 hpr5 hc2 HC5 hag
   (repeat (first | ((first | ((with_reducible refine sq (v := ?_) (a' := ?_) ?_ ?_ ?_); rotate_left 2; (focus (intro w' hS; go_simp; (first | done | with_reducible rfl | rfl)))) | ((with_reducible refine sn (a' := ?_) ?_ ?_ ?_); rotate_left; (focus rfl)) | ((with_reducible refine sf trivial (a' := ?_) ?_ ?_ ?_); rotate_left; (focus rfl)) | ((with_reducible refine sqg (v := ?_) (a' := ?_) ?_ ?_ ?_ ?_); rotate_left 2; (focus rfl); (focus (intro w' hS; go_simp; (first | done | with_reducible rfl | rfl))))); (simp only [Act.put, List.setIfInBounds_toArray, List.set_cons_zero, List.set_cons_succ]; rfl)) | go_bits))
   refine se' fun K hK => ?_
   have hBs : B ≤ w6.heap.size := Nat.le_trans HL6.out.base (Nat.le_of_lt (Array.getElem?_eq_some_iff.1 HL6.out.cells).1)
   refine apv_wp (bytes := 72) Tryz.underlying119 (by kernel_rfl) (by decide) HL6.out.waits hBs ⟨w5.drew.heap.size, 0, none⟩ 1 1 (Value.int .i64 i :: Pv) (by simp [hPl]) ?_ ?_ (by show D.waits.length + 1 ≤ _; simp only [maxLen]; omega) (by show (D.waits.length + 1) * 72 ≤ _; omega) (.tmp 32) _ rfl rfl rfl ?_
   ·intro j u hu
    rw [Addr.add_mid, Nat.zero_add, cell_of_row _ _ _ _ _ _ hrow, ← hu]; simp
   ·intro u hu
    rcases List.mem_cons.1 hu with rfl | hu
    ·rfl
    ·rw [HP.out.1] at hu; obtain ⟨x, _, rfl⟩ := List.mem_map.1 hu; rfl
   intro v7 w7 o7 g7 hv7
   have c7 := Chg.of_grown g7
   have hWd : W.ownBlock ≠ some d := HL6.out.w0
   have hd7 : w7.heap[d]? = some (.cells #[S, .slice (some ⟨g, 0, none⟩) n c2', W] 121 (0, 0)) := by
    rw [c7.block d (Array.getElem?_eq_some_iff.1 HL6.out.cells).1 (fun h => hWd h.symm)]; exact HL6.out.cells
   have hpr7 : w7.rangeAt w'.heap.size 0 Pv := by
    intro j v hv
    have h1 := hpr6 j v hv
    rw [World.cell?_of_block (w := w6) (c7.block w'.heap.size (World.block_lt_of_cell? w6 _ h1) (fun h => by
     have h2 := HC.out.2.2.1 w'.heap.size (.inr (.inr (.inr h)))
     exact Nat.lt_irrefl _ h2))]
    exact h1
   refine hK _ _ hpr7 fun a'' ha => ?_
   clear hK
   simp only [Act.put, List.setIfInBounds_toArray, List.set_cons_zero, List.set_cons_succ] at ha
   subst ha
   (repeat (first | ((first | ((with_reducible refine sq (v := ?_) (a' := ?_) ?_ ?_ ?_); rotate_left 2; (focus (intro w' hS; go_simp; (first | done | with_reducible rfl | rfl)))) | ((with_reducible refine sn (a' := ?_) ?_ ?_ ?_); rotate_left; (focus rfl)) | ((with_reducible refine sf trivial (a' := ?_) ?_ ?_ ?_); rotate_left; (focus rfl)) | ((with_reducible refine sqg (v := ?_) (a' := ?_) ?_ ?_ ?_ ?_); rotate_left 2; (focus rfl); (focus (intro w' hS; go_simp; (first | done | with_reducible rfl | rfl))))); (simp only [Act.put, List.setIfInBounds_toArray, List.set_cons_zero, List.set_cons_succ]; rfl)) | go_bits))
   obtain ⟨A7, c7', hv7e, -, -, -, -⟩ := o7.slice
   have hcell7 : w7.cell? ⟨d, 2, none⟩ = some W := by rw [cell_of_row _ _ _ _ _ _ hd7]; rfl
   have hfz7 : w7.frozen? ⟨d, 2, none⟩ = false := frozen_of_row _ _ _ _ _ hd7
   have HO7 := Lib.hid (And.intro o7 (And.intro g7 (And.intro hv7 c7)))
   clear o7 g7 hv7 c7
   have HV7 := Lib.hid hv7e
   rw [hv7e]
   clear hv7e
   refine se' fun K hK => ?_
   go_simp
   have hne : w'.heap.size ≠ d := by omega
   refine hK _ _ ?_ fun a'' ha => ?_
   ·intro j v hv
    have h1 := hpr7 j v hv
    rw [← h1]
    exact World.cell?_of_block (Below.heap_setCell _ _ _ _ hne)
   clear hK
   try (simp only [Act.put, List.setIfInBounds_toArray, List.set_cons_zero, List.set_cons_succ] at ha)
   subst ha
   refine sl_end ?_
   go_wp2
   go_ret
   have e7 := HV7.out
   refine ⟨rfl, blocks d S (.slice (some ⟨g, 0, none⟩) n c2') v7, ?_, ?_, ?_⟩
   ·have hv7d : v7.ownBlock ≠ some d := by
     rcases HO7.out.2.2.1 with h2 | h2
     ·rw [h2]; exact HL6.out.w0
     ·rw [h2]
      intro h
      injection h with h
      have := (Array.getElem?_eq_some_iff.1 HL6.out.cells).1
      omega
    have hgr : v7.ownBlock = W.ownBlock ∨ ∃ g, v7.ownBlock = some g ∧ w6.heap.size ≤ g := HO7.out.2.2.1.imp id fun h => ⟨_, h, Nat.le_refl _⟩
    have e8 : (w7.setCell ⟨d, 2, none⟩ (.slice A7 (D.waits.length + 1) c7')) = w7.setCell ⟨d, 2, none⟩ v7 := by rw [e7]
    rw [e8]
    refine ⟨S, _, v7, ⟨?_, HL6.out.base, ?_, ?_, ?_, HL6.out.s0, HL6.out.e0, hv7d, HL6.out.se, ?_, ?_, ?_⟩, fun k => Iff.rfl⟩
    ·exact heap_setCell_same w7 d 2 #[S, .slice (some ⟨g, 0, none⟩) n c2', W] 121 v7 hd7
    ·exact (HL6.out.sure.kept HO7.out.2.2.2 (fun k hk h => HL6.out.sw k h.symm hk)).kept (Chg.setCell w7 ⟨d, 2, none⟩ v7) (fun k hk h => HL6.out.s0 (by rw [hk]; exact congrArg some h))
    ·have h9 := (HL6.out.seen.kept HO7.out.2.2.2 (fun k hk h => HL6.out.ew k h.symm hk)).kept (Chg.setCell w7 ⟨d, 2, none⟩ v7) (fun k hk h => HL6.out.e0 (by rw [hk]; exact congrArg some h))
     show RowV _ _ _ _ _ (D.seen.set (i : Int).toNat (pad b)).length (pcs (D.seen.set (i : Int).toNat (pad b)))
     rw [Int.toNat_natCast, ← HP.out.2.2]
     exact h9
    ·have h := HO7.out.1.kept (Chg.setCell w7 ⟨d, 2, none⟩ v7) (fun k hk h => hv7d (by rw [hk]; exact congrArg some h))
     show RowV _ _ _ _ _ (D.waits ++ [((i : Int), pad b)]).length (wcs (D.waits ++ [((i : Int), pad b)]))
     rw [wcs_append, List.length_append, ← HP.out.2.2, ← HP.out.1]
     exact h
    ·exact HL6.out.sw.grow hgr (fun g hg => (HL6.out.sure.lt g hg).2)
    ·exact HL6.out.ew.grow hgr (fun g hg => (HL6.out.seen.lt g hg).2)
    ·exact H.out.ok.write (by rw [← HNn.out]; exact hx) (by rw [← HP.out.2.2]; exact HP.out.2.1)
   ·refine ((HC6.out.then HO7.out.2.2.2).then (Chg.setCell w7 ⟨d, 2, none⟩ _)).mono fun k hk h => ?_
    rcases h with (h | h) | h
    ·rcases h with (h | h) | h
     ·omega
     ·exact (HC.out.2.1 _).2 (.inr (.inr (.inl (by rw [h]; rfl))))
     ·exact h.elim
    ·exact (HC.out.2.1 _).2 (.inr (.inr (.inr h)))
    ·exact (HC.out.2.1 _).2 (.inl h)
   ·intro k hk
    rcases hk with rfl | h | h | h
    ·exact .inl ((HC.out.2.1 _).2 (.inl rfl))
    ·exact .inl ((HC.out.2.1 _).2 (.inr (.inl h)))
    ·exact .inl ((HC.out.2.1 _).2 (.inr (.inr (.inl h))))
    ·rcases HO7.out.2.2.1 with h2 | h2
     ·rw [h2] at h; exact .inl ((HC.out.2.1 _).2 (.inr (.inr (.inr h))))
     ·rw [h2] at h; injection h with h
      have := HC6.out.size
      exact .inr (by omega)
 ·have hm : mayOk D.seen.length x = 1 := by unfold mayOk; rw [if_neg hx]
  have hc : writeCode D.seen.length x b = 1 := by unfold writeCode; rw [if_pos (.inl hm)]
  rw [hc]
  clear hc
  go_enter Tryz.func70, Tryz.ntmps70
  go_wp2_with fail
  refine (may H.out x).mono ?_
  rw [hm]
  clear hm
  rintro e w' ⟨rfl, h⟩
  subst h
  go_wp2
  go_ret
  exact ⟨rfl, F, H.out, Chg.refl _ _, fun k hk => .inl hk⟩
theorem read_in {w : World} {B d : Nat} {F : Nat → Prop} {D : Dk} (h : Disk w B d F D) (i : Nat) (hi : i < D.seen.length) :
  Calls Tryz.prog 82 #[.pointer (some ⟨d, 0, none⟩), .int .i64 i] w fun e w' => (∃ v, e = .returned (.tuple #[v, .int .i64 0]) ∧ OwnI .u8 w' w.heap.size 5 v (D.seen.getD i [])) ∧ Below w.heap.size w w' := by
 have hm : mayOk D.seen.length (i : Int) = 0 := by unfold mayOk; rw [if_pos (by omega)]
 have h1 := read h (i : Int)
 rw [hm] at h1
 refine h1.mono ?_
 rintro e w' ⟨⟨v, rfl, _, h2⟩, hb⟩
 exact ⟨⟨v, rfl, h2 rfl⟩, hb⟩
theorem seen_pc {D : Dk} (h : D.ok) {i : Nat} (hi : i < D.seen.length) : Pc (D.seen.getD i []) := by
 rw [List.getD_eq_getElem?_getD, List.getElem?_eq_getElem hi]; exact h.seen _ (List.getElem_mem hi)
end Go.Proofs.YticnjkdaccacaaaGreat.Disk
end
section
namespace Go.Proofs.YticnjkdaccacaaaGreat.Sx
open Go Go.RowKit Base Oq Disk
def diskA (d : Nat) (D : Dk) : Asn where
 holds := fun w B F => Disk w B d F D
 keep := fun h hc hF _ => h.kept hc hF
 dom := fun h => h.lt
def _root_.Go.Proofs.YticnjkdaccacaaaGreat.Disk.Dk.writeR (D : Dk) (x : Int) (b : List Int) : Dk := if writeCode D.seen.length x b = 0 then D.write x (pad b) else D
section
variable {w w0 : World} {d : Nat} {D : Dk} {R : List Asn}
theorem disk_size (S : Sat w0 w (diskA d D :: R)) : Calls Tryz.prog 48 #[.pointer (some ⟨d, 0, none⟩)] w fun e w' => e = .returned (.int .i64 D.seen.length) ∧ w' = w := by
 obtain ⟨F, h⟩ := S.hd
 exact Disk.size h
theorem disk_seen (S : Sat w0 w (diskA d D :: R)) : D.ok := by
 obtain ⟨F, h⟩ := S.hd
 exact Disk.Disk.ok h
theorem vok_small {n : Nat} (h : n ≤ 4096) : vok (.int .i64 (n : Int)) = true := vok_len (Nat.le_trans h (by decide))
theorem disk_write (S : Sat w0 w (diskA d D :: R)) (x : Int) {A : Option Addr} {c : Nat} {b : List Int} (hb : Rk .u8 w A b) (hl : D.waits.length ≤ 1000000000 ∧ b.length ≤ 1000000000) :
  Calls Tryz.prog 70 #[.pointer (some ⟨d, 0, none⟩), .int .i64 x, .slice A b.length c] w fun e w' => e = .returned (.int .i64 (writeCode D.seen.length x b)) ∧ vok (.int .i64 (writeCode D.seen.length x b)) = true ∧ Sat w0 w' (diskA d (D.writeR x b) :: R) := by
 obtain ⟨F, h, hF, hk⟩ := S.opened
 refine (Disk.write h S.below.size hl.1 x A c b hl.2 hb.bytes hb.rd).mono ?_
 rintro e w' ⟨rfl, F', h1, h2, h3⟩
 refine ⟨rfl, ?_, hk (A' := diskA d (D.writeR x b)) h1 h2 (fun k _ h => h) h3⟩
 unfold writeCode; split <;> rfl
theorem disk_sync (S : Sat w0 w (diskA d D :: R)) : Calls Tryz.prog 71 #[.pointer (some ⟨d, 0, none⟩)] w fun e w' => e = .returned (.int .i64 0) ∧ Sat w0 w' (diskA d D.sync :: R) := by
 obtain ⟨F, h, hF, hk⟩ := S.opened
 refine (Disk.sync h).mono ?_
 rintro e w' ⟨rfl, F', h1, h2, h3⟩
 exact ⟨rfl, hk (A' := diskA d D.sync) h1 h2 (fun k _ h => h) fun k h => .inl (h3 k h)⟩
theorem disk_new (S : Sat w0 w R) {x : Int} (hx : 1 ≤ x ∧ x ≤ 4096) : Calls Tryz.prog 21 #[.int .i64 x] w fun e w' => ∃ d, e = .returned (.tuple #[.pointer (some ⟨d, 0, none⟩), .int .i64 0]) ∧ Sat w0 w' (diskA d (Disk.blank x.toNat) :: R) := by
 have h := Disk.new x w
 simp only [if_pos hx] at h
 refine h.mono ?_
 rintro e w' ⟨⟨d, F, rfl, h1⟩, h2⟩
 exact ⟨d, rfl, S.add (F := F) h2 (Disk.Disk.lower h1 S.below.size) fun k hk => (Disk.Disk.lt h1 k hk).1⟩
theorem disk_fail (S : Sat w0 w (diskA d D :: R)) {keep torn : Int} (hk : (Lit.int .u64 keep).wf = true) (ht : (Lit.int .i64 torn).wf = true) (hl : D.waits.length ≤ 1000000 ∧ -1 ≤ torn) :
  Calls Tryz.prog 17 #[.pointer (some ⟨d, 0, none⟩), .int .u64 keep, .int .i64 torn] w fun e w' => ∃ d', e = .returned (.tuple #[.pointer (some ⟨d', 0, none⟩), .int .i64 0]) ∧ Sat w0 w' (diskA d' (D.fail keep torn) :: diskA d D :: R) := by
 obtain ⟨F, h⟩ := S.hd
 rw [wf_int] at hk ht
 have h1 : IntKind.u64.min = 0 := by decide
 have h2 : IntKind.u64.max = 18446744073709551615 := by decide
 have h3 : IntKind.i64.max = 9223372036854775807 := by decide
 refine (fail_ok h hl.1 keep torn (by omega) (by omega) hl.2 (by omega)).mono ?_
 rintro e w' ⟨⟨d', F', rfl, h4⟩, h5⟩
 exact ⟨d', rfl, S.add (F := F') h5 (Disk.Disk.lower h4 S.below.size) fun k hk => (Disk.Disk.lt h4 k hk).1⟩
theorem bts_wf {l : List Int} (h : ∀ z ∈ l, 0 ≤ z ∧ z < 256) : ∀ z ∈ l, (Lit.int .u8 z).wf = true := fun z hz => by
 have := h z hz
 rw [wf_int]
 have h1 : IntKind.u8.min = 0 := by decide
 have h2 : IntKind.u8.max = 255 := by decide
 omega
theorem disk_read (S : Sat w0 w (diskA d D :: R)) {x : Int} (hx : 0 ≤ x ∧ x < D.seen.length) :
  Calls Tryz.prog 82 #[.pointer (some ⟨d, 0, none⟩), .int .i64 x] w fun e w' => ∃ A c, e = .returned (.tuple #[.slice A (D.seen.getD x.toNat []).length c, .int .i64 0]) ∧ vok (.tuple #[.slice A (D.seen.getD x.toNat []).length c, .int .i64 0]) = true ∧ Sat w0 w' (ownA .u8 5 A c (D.seen.getD x.toNat []) :: diskA d D :: R) := by
 obtain ⟨F, h⟩ := S.hd
 have hok := disk_seen S
 obtain ⟨i, rfl⟩ : ∃ i : Nat, x = i := ⟨x.toNat, by omega⟩
 have hi : i < D.seen.length := by omega
 refine (read_in h i hi).mono ?_
 rintro e w' ⟨⟨v, rfl, h1⟩, h2⟩
 have hp := seen_pc hok hi
 obtain ⟨A, c, rfl, h3, h4⟩ := S.row (l := D.seen.getD i []) h2 h1 (bts_wf hp.2)
 exact ⟨A, c, rfl, by
  have h5 : vokC (.slice A (D.seen.getD (i : Int).toNat []).length c) = true := h3
  show [_, _].all vokC = true
  rw [List.all_cons, h5]; rfl, h4⟩
end
end Go.Proofs.YticnjkdaccacaaaGreat.Sx
end
section
namespace Go.Proofs.YticnjkdaccacaaaGreat.Crc
open Go
def stp (n : BitVec 32) : BitVec 32 := (n >>> 1) ^^^ (3988292384#32 &&& (-(n &&& 1#32)))
def stps : Nat → BitVec 32 → BitVec 32
 | 0, n => n
 | k + 1, n => stps k (stp n)
def by32 (c : Int) : BitVec 32 := BitVec.ofInt 32 c
def byt (n : BitVec 32) (c : Int) : BitVec 32 := stps 8 (n ^^^ by32 c)
def raw (n : BitVec 32) (l : List Int) : BitVec 32 := l.foldl byt n
def on (s : BitVec 32) (l : List Int) : BitVec 32 := ~~~ (raw (~~~ s) l)
def num (n : BitVec 32) : Int := (n.toNat : Int)
theorem num_range (n : BitVec 32) : 0 ≤ num n ∧ num n < 4294967296 := by have := n.isLt; unfold num; omega
theorem of_num (n : BitVec 32) : BitVec.ofInt 32 (num n) = n := by
 unfold num; rw [BitVec.ofInt_natCast, BitVec.ofNat_toNat, BitVec.setWidth_eq]
theorem num_of {x : Int} (h0 : 0 ≤ x) (h1 : x < 4294967296) : num (BitVec.ofInt 32 x) = x := by
 unfold num; rw [BitVec.toNat_ofInt]; omega
theorem neg_and_one (n : BitVec 32) : -(n &&& 1#32) = if n.getLsbD 0 then BitVec.allOnes 32 else 0#32 := by
 by_cases h : n.getLsbD 0 = true
 ·rw [if_pos h]
  have : n &&& 1#32 = 1#32 := by
   apply BitVec.eq_of_getLsbD_eq
   intro i hi
   rw [BitVec.getLsbD_and, BitVec.getLsbD_one]
   by_cases e : i = 0
   ·subst e; simp [h]
   ·simp [e]
  rw [this]; decide
 ·rw [if_neg h]
  have : n &&& 1#32 = 0#32 := by
   apply BitVec.eq_of_getLsbD_eq
   intro i hi
   rw [BitVec.getLsbD_and, BitVec.getLsbD_one]
   by_cases e : i = 0
   ·subst e; simpa using h
   ·simp [e]
  rw [this]; decide
theorem stp_bit (n : BitVec 32) : stp n = (n >>> 1) ^^^ (if n.getLsbD 0 then 3988292384#32 else 0#32) := by
 unfold stp; rw [neg_and_one]; split <;> simp
theorem stp_xor (a b : BitVec 32) : stp (a ^^^ b) = stp a ^^^ stp b := by
 rw [stp_bit, stp_bit, stp_bit, BitVec.getLsbD_xor, BitVec.ushiftRight_xor_distrib]
 cases a.getLsbD 0 <;> cases b.getLsbD 0 <;> simp only [Bool.false_xor, Bool.true_xor, Bool.not_false, Bool.not_true, Bool.false_eq_true, if_true, if_false, BitVec.xor_zero]
 ·ac_rfl
 ·ac_rfl
 ·rw [show a >>> 1 ^^^ 3988292384#32 ^^^ (b >>> 1 ^^^ 3988292384#32) = a >>> 1 ^^^ b >>> 1 ^^^ (3988292384#32 ^^^ 3988292384#32) by ac_rfl]; simp
theorem stps_xor (k : Nat) : ∀ a b, stps k (a ^^^ b) = stps k a ^^^ stps k b := by
 induction k with
 | zero => intro a b; rfl
 | succ k ih => intro a b; show stps k (stp (a ^^^ b)) = _; rw [stp_xor, ih]; rfl
theorem raw_append (n : BitVec 32) (a b : List Int) : raw n (a ++ b) = raw (raw n a) b := List.foldl_append
theorem on_nil (s : BitVec 32) : on s [] = s := by simp [on, raw]
theorem stps_shift (k : Nat) : ∀ n : BitVec 32, (∀ i, i < k → n.getLsbD i = false) → stps k n = n >>> k := by
 induction k with
 | zero => intro n _; simp [stps]
 | succ k ih =>
  intro n h
  have h1 : stp n = n >>> 1 := by rw [stp_bit, h 0 (by omega)]; simp
  show stps k (stp n) = _
  rw [h1, ih _ (fun i hi => by rw [BitVec.getLsbD_ushiftRight]; exact h _ (by omega)), ← BitVec.shiftRight_add, Nat.add_comm]
theorem split8 (n : BitVec 32) : n = (n &&& 255#32) ^^^ (n &&& ~~~ 255#32) := by
 apply BitVec.eq_of_getLsbD_eq
 intro i hi
 simp only [BitVec.getLsbD_xor, BitVec.getLsbD_and, BitVec.getLsbD_not]
 cases n.getLsbD i <;> cases (255#32).getLsbD i <;> simp [hi]
theorem low_255 (i : Nat) : (255#32).getLsbD i = decide (i < 8) := by
 by_cases h : i < 32
 ·have : ∀ j : Fin 32, (255#32).getLsbD j.val = decide (j.val < 8) := by decide
  exact this ⟨i, h⟩
 ·rw [BitVec.getLsbD_of_ge _ _ (by omega)]; simp; omega
theorem byt_table (n : BitVec 32) : stps 8 n = (n >>> 8) ^^^ stps 8 (n &&& 255#32) := by
 have h : stps 8 n = stps 8 ((n &&& 255#32) ^^^ (n &&& ~~~ 255#32)) := by rw [← split8]
 rw [h, stps_xor, stps_shift 8 (n &&& ~~~ 255#32)]
 ·rw [BitVec.xor_comm]
  congr 1
  apply BitVec.eq_of_getLsbD_eq
  intro i hi
  rw [BitVec.getLsbD_ushiftRight, BitVec.getLsbD_ushiftRight, BitVec.getLsbD_and, BitVec.getLsbD_not, low_255]
  by_cases h32 : 8 + i < 32
  ·simp [h32]
  ·rw [BitVec.getLsbD_of_ge n _ (by omega)]; simp
 ·intro i hi
  rw [BitVec.getLsbD_and, BitVec.getLsbD_not, low_255]
  simp [hi]
theorem w32 (x : BitVec 32) : IntKind.u32.wrap (x.toNat : Int) = num x := by
 have := x.isLt
 rw [IntKind.wrap_u32']; unfold num; omega
theorem bits_xor (a b : BitVec 32) : bits .xor .u32 (num a) (num b) = num (a ^^^ b) := by
 unfold bits; show IntKind.u32.wrap ((BitVec.ofInt 32 (num a) ^^^ BitVec.ofInt 32 (num b)).toNat : Int) = _
 rw [of_num, of_num, w32]
theorem bits_and (a b : BitVec 32) : bits .and .u32 (num a) (num b) = num (a &&& b) := by
 unfold bits; show IntKind.u32.wrap ((BitVec.ofInt 32 (num a) &&& BitVec.ofInt 32 (num b)).toNat : Int) = _
 rw [of_num, of_num, w32]
theorem num_neg (a : BitVec 32) : (-(num a)) % 4294967296 = num (-a) := by
 have := a.isLt
 unfold num; rw [BitVec.toNat_neg]; omega
theorem num_shr1 (a : BitVec 32) : num a / (2 : Int) = num (a >>> 1) := by
 unfold num; rw [BitVec.toNat_ushiftRight, Nat.shiftRight_eq_div_pow]; omega
theorem num_shr8 (a : BitVec 32) : num a / (256 : Int) = num (a >>> 8) := by
 unfold num; rw [BitVec.toNat_ushiftRight, Nat.shiftRight_eq_div_pow]; omega
theorem one_num : (1 : Int) = num 1#32 := by decide
theorem poly_num : (3988292384 : Int) = num 3988292384#32 := by decide
theorem all_num : (4294967295 : Int) = num (BitVec.allOnes 32) := by decide
theorem stp_walk (a : BitVec 32) : bits .xor .u32 (num a / (2 : Int)) (bits .and .u32 3988292384 (-bits .and .u32 (num a) 1 % 4294967296)) = num (stp a) := by
 rw [poly_num, one_num, bits_and, num_neg, bits_and, num_shr1, bits_xor]; rfl
theorem bits_not (x : BitVec 32) : bits .xor .u32 IntKind.u32.max (num x) = num (~~~ x) := by
 have h : bits .xor .u32 4294967295 (num x) = num (~~~ x) := by
  rw [all_num, bits_xor, BitVec.allOnes_xor]
 rw [← h]; rfl
def ix (x : BitVec 32) (y : Int) : BitVec 32 := (x ^^^ by32 y) &&& 255#32
theorem ix_range (x : BitVec 32) (y : Int) : 0 ≤ num (ix x y) ∧ num (ix x y) < 256 := by
 have h : (ix x y).toNat ≤ 255 := by unfold ix; rw [BitVec.toNat_and]; exact Nat.and_le_right
 unfold num; omega
theorem by32_toNat {y : Int} (h0 : 0 ≤ y) (h1 : y < 256) : (by32 y).toNat = y.toNat := by
 unfold by32; rw [BitVec.toNat_ofInt]; omega
theorem bits_ix (x : BitVec 32) (y : Int) (h0 : 0 ≤ y) (h1 : y < 256) : bits .xor .u8 (num x % 256) y = num (ix x y) := by
 obtain ⟨n, rfl⟩ := Int.eq_ofNat_of_zero_le h0
 have e : num x % 256 = ((x.toNat % 256 : Nat) : Int) := by unfold num; omega
 rw [e, u8_xor_nat _ _ (Nat.mod_lt _ (by omega)) (by omega)]
 unfold num ix
 rw [BitVec.toNat_and, BitVec.toNat_xor, by32_toNat h0 h1]
 have h8 : ∀ a : Nat, a &&& 255 = a % 256 := nat_mask8
 show _ = (((x.toNat ^^^ n) &&& 255 : Nat) : Int)
 rw [h8]
 congr 1
 rw [show (256 : Nat) = 2 ^ 8 from rfl, Nat.xor_mod_two_pow, Nat.mod_eq_of_lt (a := n) (by omega)]
theorem byt_walk (x : BitVec 32) (y : Int) (h0 : 0 ≤ y) (h1 : y < 256) : bits .xor .u32 (num x / (256 : Int)) (num (stps 8 (ix x y))) = num (byt x y) := by
 rw [num_shr8, bits_xor]
 unfold byt ix
 rw [byt_table (x ^^^ by32 y), BitVec.ushiftRight_xor_distrib]
 have : by32 y >>> 8 = 0#32 := by
  apply BitVec.eq_of_toNat_eq
  rw [BitVec.toNat_ushiftRight, by32_toNat h0 h1, Nat.shiftRight_eq_div_pow]
  show y.toNat / 256 = 0
  omega
 rw [this, BitVec.xor_zero]
end Go.Proofs.YticnjkdaccacaaaGreat.Crc
end
section
namespace Go.Proofs.YticnjkdaccacaaaGreat.Sums
open Go.RowKit Crc Base Oq
theorem on1 (n : BitVec 32) (w : World) :
  Calls Tryz.prog 115 #[.int .u32 (num n)] w fun e w' => e = .returned (.int .u32 (num (stps 8 n))) ∧ w = w' := by
 go_enter Tryz.func115, Tryz.ntmps115
 go_wp2
 go_loop [0, 3] (fun v i => ∃ (k : Nat) (x : BitVec 32), k ≤ 8 ∧ i = .int .i64 k ∧ v = .int .u32 (num x) ∧ stps (8 - k) x = stps 8 n) (fun _ i => 8 - (intOf i).toNat)
 case atStart => exact ⟨0, n, by omega, rfl, rfl, rfl⟩
 case round =>
  obtain ⟨k, x, hk, rfl, rfl, hx⟩ := hrel
  have HX := Lib.hid hx
  clear hx
  go_wp2
  ·go_round
   case rel =>
    have hk' : k < 8 := by omega
    exact ⟨k + 1, stp x, by omega, by go_num, by rw [stp_walk], by rw [← HX.out, show 8 - k = (8 - (k + 1)) + 1 by omega]; rfl⟩
   case measure => simp [intOf]; omega
  ·go_ret
   have hk' : k = 8 := by omega
   subst hk'
   exact ⟨by rw [← HX.out]; rfl, rfl⟩
theorem on1' (k : Int) (h0 : 0 ≤ k) (h1 : k < 4294967296) (w : World) :
  Calls Tryz.prog 115 #[.int .u32 k] w fun e w' => e = .returned (.int .u32 (num (stps 8 (BitVec.ofInt 32 k)))) ∧ w = w' := by
 have h := on1 (BitVec.ofInt 32 k) w
 rwa [num_of h0 h1] at h
def tbl (i : Nat) : Value := .int .u32 (num (stps 8 (BitVec.ofInt 32 (i : Int))))
def cells (k : Nat) : Array Value := ((List.range 256).map fun i => if i < k then tbl i else .int .u32 0).toArray
theorem zeroT (w : World) : (zeroValue 199).run Tryz.prog w = .ok (.agg (cells 0)) w := by kernel_rfl
theorem cells_get (k j : Nat) (hj : j < 256) : (cells k)[j]? = some (if j < k then tbl j else .int .u32 0) := by
 simp [cells, hj]
theorem cells_size (k : Nat) : (cells k).size = 256 := by simp [cells]
theorem cells_one : ((cells 256).all fun x => x.oneCell') = true := by
 rw [Array.all_eq_true]
 intro i hi
 rw [cells_size] at hi
 have h := cells_get 256 i hi
 rw [Array.getElem?_eq_getElem (by rw [cells_size]; exact hi), if_pos hi] at h
 injection h with h
 rw [h]; rfl
theorem cells_set (k : Nat) (hk : k < 256) : (cells k).setIfInBounds k (tbl k) = cells (k + 1) := by
 apply Array.ext_getElem?
 intro i
 rw [Array.getElem?_setIfInBounds, cells_size]
 by_cases hi : i < 256
 ·rw [cells_get _ _ hi, cells_get _ _ hi]
  by_cases e : k = i
  ·subst e; simp [hk]
  ·rw [if_neg e]
   congr 1
   by_cases h : i < k
   ·rw [if_pos h, if_pos (by omega)]
   ·rw [if_neg h, if_neg (by omega)]
 ·have h1 : (cells k)[i]? = none := by rw [Array.getElem?_eq_none_iff, cells_size]; omega
  have h2 : (cells (k + 1))[i]? = none := by rw [Array.getElem?_eq_none_iff, cells_size]; omega
  rw [h1, h2, if_neg (by omega)]
theorem table (w : World) :
  Calls Tryz.prog 114 #[.func (.func 115) #[] #[]] w fun e w' => e = .returned (.agg (cells 256)) ∧ Below w.heap.size w w' := by
 have hz := zeroT
 go_enter Tryz.func114, Tryz.ntmps114
 go_wp2
 go_loopw [4] (fun i wr => ∃ k : Nat, k ≤ 256 ∧ i = .int .i64 k ∧ Below w.heap.size w wr ∧ wr.heap[w.heap.size]? = some (.cells (cells k) 199 (0, 0))) (fun i _ => 256 - (intOf i).toNat)
 case atStart => exact ⟨0, by omega, rfl, (Below.refl _ _).alloc (Nat.le_refl _) _, heap_alloc_new _ _⟩
 case round =>
  clear hz
  obtain ⟨k, hk, rfl, hb, hg⟩ := hrel
  by_cases hlt : k < 256
  ·go_wp2_with fail
   refine (on1' _ (by omega) (by omega) _).mono ?_
   rintro e w' ⟨rfl, rfl⟩
   have hc : wr.cell? ⟨w.heap.size, k, none⟩ = some (.int .u32 0) := by rw [cell_of_row _ _ _ _ _ _ hg, cells_get _ _ hlt, if_neg (by omega)]
   have hf : wr.frozen? ⟨w.heap.size, k, none⟩ = false := frozen_of_row _ _ _ _ _ hg
   have HG := Lib.hid hg
   clear hg
   go_wp2
   go_roundw
   case rel => exact ⟨k + 1, by omega, by go_num, hb.setCell (Nat.le_refl _) _, by rw [heap_setCell_same _ _ _ _ _ _ HG.out]; rw [← cells_set k hlt]; rfl⟩
   case measure => simp [intOf]; omega
  ·obtain rfl : k = 256 := by omega
   have hsz : (Tryz.prog.info? 199).map (·.size) = some (cells 256).size := by rw [cells_size]; kernel_rfl
   go_wp2_with (first | (refine wpList_load_row rfl 199 _ rfl _ rfl _ _ _ _ hg Tryz.underlying199 rfl hsz ?_) | (refine wpList_store_row rfl 199 _ _ rfl _ _ rfl rfl _ _ hg hsz rfl cells_one ?_))
   refine bodyPost_ret (results_cell_row rfl _ _ _ _ (cells 256) (0, 0) _ rfl (setRow_heap _ _ _ _ _ _ hg) Tryz.underlying199 rfl hsz) rfl ⟨rfl, ?_⟩
   exact hb.trans ⟨rfl, rfl, rfl, by simp, fun i hi => setRow_other _ _ _ _ (by omega)⟩
theorem on_nil_any (s : BitVec 32) (A : Option Addr) (c : Nat) (w : World) :
  Calls Tryz.prog 93 #[.int .u32 (num s), .slice A 0 c] w fun e w' => e = .returned (.int .u32 (num s)) ∧ Below w.heap.size w w' := by
 go_enter Tryz.func93, Tryz.ntmps93
 go_wp2
 go_ret
 exact ⟨rfl, Below.refl _ _⟩
def Bts (l : List Int) : Prop := ∀ x ∈ l, 0 ≤ x ∧ x < 256
theorem Bts.take {l : List Int} (h : Bts l) (k : Nat) : Bts (l.take k) := fun x hx => h x (List.mem_of_mem_take hx)
theorem Bts.drop {l : List Int} (h : Bts l) (k : Nat) : Bts (l.drop k) := fun x hx => h x (List.mem_of_mem_drop hx)
theorem Bts.append {l m : List Int} (h : Bts l) (h' : Bts m) : Bts (l ++ m) := fun x hx => (List.mem_append.1 hx).elim (h x) (h' x)
theorem Bts.getD {l : List Int} (h : Bts l) {j : Nat} (hj : j < l.length) : 0 ≤ l.getD j 0 ∧ l.getD j 0 < 256 := by
 rw [List.getD_eq_getElem?_getD, List.getElem?_eq_getElem hj]; exact h _ (List.getElem_mem hj)
theorem on_any (s : BitVec 32) (A : Option Addr) (c : Nat) (l : List Int) (w : World) (hl : l.length ≤ 9223372036854775807) (hb : Bts l) (hr : Rd .u8 w A l) :
  Calls Tryz.prog 93 #[.int .u32 (num s), .slice A l.length c] w fun e w' => e = .returned (.int .u32 (num (on s l))) ∧ Below w.heap.size w w' := by
 by_cases h0 : l = []
 ·subst h0; rw [on_nil]; exact on_nil_any s A c w
 obtain ⟨ad, rfl, hb0, hc⟩ := hr h0
 obtain ⟨b, o, sp⟩ := ad
 have hb1 : b < w.heap.size := hb0
 have hpos : 0 < l.length := List.length_pos_iff.2 h0
 have hne : ((l.length : Int) == 0) = false := by rw [beq_eq_false_iff_ne]; omega
 have HC := Lib.hid hc
 have HB := Lib.hid hb
 clear hc hb h0
 have hz := zeroT
 have HW : w.heap.size ≤ w.heap.size := Nat.le_refl _
 have hsz : (Tryz.prog.info? 199).map (·.size) = some (cells 256).size := by rw [cells_size]; kernel_rfl
 go_enter Tryz.func93, Tryz.ntmps93
 go_wp2_with fail
 refine (table _).mono ?_
 rintro e w1 ⟨rfl, hq1⟩
 have hb2 : Below w.heap.size w (w1.alloc (.cells (cells 0) 199)) := hq1.alloc hq1.size _
 have hg2 : (w1.alloc (.cells (cells 0) 199)).heap[w1.heap.size]? = some (.cells (cells 0) 199 (0, 0)) := heap_alloc_new _ _
 have hs1 := hq1.size
 have HB1 := Lib.hid hq1
 have HS := Lib.hid hsz
 clear hq1 hsz
 have hsg : IntKind.u32.signed = false := rfl
 have hun := bits_not
 go_wp2_with (first | (refine wpList_store_row rfl 199 _ _ rfl _ _ rfl rfl _ _ hg2 HS.out rfl cells_one ?_))
 have hb3 : Below w.heap.size w ((w1.alloc (.cells (cells 0) 199)).setRow w1.heap.size (cells 256)) :=
  hb2.trans ⟨rfl, rfl, rfl, by simp, fun i hi => setRow_other _ _ _ _ (by omega)⟩
 have hg3 := setRow_heap _ _ _ (cells 256) _ _ hg2
 generalize (w1.alloc (.cells (cells 0) 199)).setRow w1.heap.size (cells 256) = w3 at hb3 hg3 ⊢
 clear hg2 hb2 HB1 HS hz HW
 have HG := Lib.hid hg3
 have H3 := Lib.hid hb3
 clear hg3 hb3
 go_loop [6, 18] (fun v i => ∃ (k : Nat) (x : BitVec 32), k ≤ l.length ∧ i = .int .i64 k ∧ v = .int .u32 (num x) ∧ x = raw (~~~ s) (l.take k)) (fun _ i => l.length - (intOf i).toNat)
 case atStart => exact ⟨0, _, by omega, rfl, rfl, rfl⟩
 case round =>
  obtain ⟨k, x, hk, rfl, rfl, hx⟩ := hrel
  have HX := Lib.hid hx
  clear hx
  by_cases hlt : k < l.length
  ·have hc3 : w3.cell? ((⟨b, o, sp⟩ : Addr).add k) = some (.int .u8 (l.getD k 0)) := by
    rw [H3.out.cell (p := (⟨b, o, sp⟩ : Addr).add k) (by rw [add_block]; exact hb1)]; exact HC.out k hlt
   obtain ⟨y, hy⟩ : ∃ y, y = l.getD k 0 := ⟨_, rfl⟩
   rw [← hy] at hc3
   have hyr : 0 ≤ y ∧ y < 256 := by rw [hy]; exact HB.out.getD hlt
   have hy0 := hyr.1
   have hy1 := hyr.2
   have HY := Lib.hid hy
   clear hy hyr
   have hj := bits_ix x y hy0 hy1
   have hj0 := (ix_range x y).1
   have hj1 := (ix_range x y).2
   have hcj : w3.cell? ⟨w1.heap.size, (num (ix x y)).toNat, none⟩ = some (.int .u32 (num (stps 8 (ix x y)))) := by
    rw [cell_of_row _ _ _ _ _ _ HG.out, cells_get _ _ (by omega), if_pos (by omega)]
    unfold tbl
    rw [Int.toNat_of_nonneg hj0, of_num]
   have hbw := byt_walk x y hy0 hy1
   go_wp2
   go_round
   case rel => exact ⟨k + 1, byt x y, by omega, by go_num, rfl, by rw [HX.out, HY.out, List.take_succ_eq_append_getElem hlt, raw_append, List.getD_eq_getElem?_getD, List.getElem?_eq_getElem hlt]; rfl⟩
   case measure => simp [intOf]; omega
  ·obtain rfl : k = l.length := by omega
   go_wp2
   go_ret
   exact ⟨by rw [HX.out, List.take_length]; rfl, H3.out⟩
theorem of_any (A : Option Addr) (c : Nat) (l : List Int) (w : World) (hl : l.length ≤ 9223372036854775807) (hb : Bts l) (hr : Rd .u8 w A l) :
  Calls Tryz.prog 94 #[.slice A l.length c] w fun e w' => e = .returned (.int .u32 (num (on 0#32 l))) ∧ Below w.heap.size w w' := by
 go_enter Tryz.func94, Tryz.ntmps94
 go_wp2_with fail
 refine (on_any 0#32 A c l w hl hb hr).mono ?_
 rintro e w1 ⟨rfl, hb⟩
 go_wp2
 go_ret
 exact ⟨rfl, hb⟩
theorem tyB : RowTy Tryz.prog 92 5 .u8 := ⟨Tryz.underlying92, 1, by decide, by kernel_rfl⟩
theorem info1 : (Tryz.prog.info? 5).map (·.size) = some 1 := by kernel_rfl
end Go.Proofs.YticnjkdaccacaaaGreat.Sums
end
section
namespace Go.Proofs.YticnjkdaccacaaaGreat.Frames
open Go.RowKit Crc Sums Base Oq
def byte (n : Int) (k : Nat) : Int := n / (2 : Int) ^ (8 * (3 - k)) % 256
theorem byte0 (n : Int) : byte n 0 = n.fdiv 16777216 % 256 := by unfold byte; rw [Int.fdiv_eq_ediv_of_nonneg _ (by decide)]; rfl
theorem byte1 (n : Int) : byte n 1 = n.fdiv 65536 % 256 := by unfold byte; rw [Int.fdiv_eq_ediv_of_nonneg _ (by decide)]; rfl
theorem byte2 (n : Int) : byte n 2 = n.fdiv 256 % 256 := by unfold byte; rw [Int.fdiv_eq_ediv_of_nonneg _ (by decide)]; rfl
theorem byte3 (n : Int) : byte n 3 = n % 256 := by unfold byte; simp
def head (n : Int) : List Int := [byte n 0, byte n 1, byte n 2, byte n 3]
def told (l : List Int) (at' : Nat) (n : Int) : Nat → List Int
 | 0 => l
 | k + 1 => (told l at' n k).set (at' + k) (byte n k)
theorem told_length (l : List Int) (a : Nat) (n : Int) (k : Nat) : (told l a n k).length = l.length := by
 induction k with
 | zero => rfl
 | succ k ih => rw [told, List.length_set, ih]
theorem tell (a : Nat) (n : Int) (g g2 c B : Nat) (l : List Int) (w : World) (ha : a + 4 ≤ l.length) (ha2 : l.length ≤ 100000) (hn : 0 ≤ n ∧ n < 4294967296) (hgg : g2 ≠ g) (ho : OwnI .u8 w B 5 (.slice (some ⟨g, 0, none⟩) l.length c) l)
  (hv : w.cell? ⟨g2, 0, none⟩ = some (.slice (some ⟨g, 0, none⟩) l.length c)) :
  Calls Tryz.prog 92 #[.int .i64 a, .int .u32 n, .pointer (some ⟨g2, 0, none⟩)] w fun e w' => e = .returned (.tuple #[]) ∧ OwnI .u8 w' B 5 (.slice (some ⟨g, 0, none⟩) l.length c) (told l a n 4) ∧ Chg (fun k => k = g) w w' := by
 go_enter Tryz.func92, Tryz.ntmps92
 go_wp2
 have HO := Lib.hid ho
 clear ho
 have hvc : ∀ W, Chg (fun k => k = g) w W → W.cell? ⟨g2, 0, none⟩ = some (.slice (some ⟨g, 0, none⟩) l.length c) := by
  intro W hc
  rw [World.cell?_of_block (w := w) (hc.block _ (World.block_lt_of_cell? w _ hv) hgg)]
  exact hv
 have HV := Lib.hid hvc
 clear hv hvc
 go_loopw [6] (fun i wr => ∃ k : Nat, k ≤ 4 ∧ i = .int .i64 k ∧ Hid (OwnI .u8 wr B 5 (.slice (some ⟨g, 0, none⟩) l.length c) (told l a n k)) ∧ Hid (Chg (fun k => k = g) w wr)) (fun i _ => 4 - (intOf i).toNat)
 case atStart => exact ⟨0, by omega, rfl, HO.out, ⟨rfl, rfl, rfl, Nat.le_refl _, fun _ _ _ => rfl⟩⟩
 case round =>
  obtain ⟨k, hk, rfl, hown, hch⟩ := hrel
  by_cases hlt : k < 4
  ·have hlen := told_length l a n k
   have hj : a + k < (told l a n k).length := by omega
   obtain ⟨hce, hfr, hgB, hgs, hz, hncc⟩ := hown.out.cell hj
   clear hz hlen
   have hk1 : a + k < l.length := by omega
   have HJ := Lib.hid hj
   clear hj
   have hkk : (k : Int) < 4 := by omega
   have hcv := HV.out wr hch.out
   go_wp2
   refine wp_region_sl [u_ 0 9, u_ 1 10, u_ 2 11, u_ 3 12, u_ 4 13, u_ 5 14, u_ 6 15, u_ 7 16, u_ 8 17, u_ 9 18, u_ 10 19, .one (11, false, none)]
        [l_ 9 92 2,
        m_ 10 0 3,
        m_ 11 5 3,
        .one ⟨true, some 12, (.binOp .add 3 (.tmp 10) (.tmp 11) 3), 3, none⟩,
        m_ 13 1 31,
        m_ 14 5 3,
        .one ⟨true, some 15, (.binOp .sub 3 (.const (.int .i64 3)) (.tmp 14) 3), 3, none⟩,
        .one ⟨true, some 16, (.binOp .mul 3 (.const (.int .i64 8)) (.tmp 15) 3), 3, none⟩,
        .one ⟨true, some 17, (.binOp .shr 31 (.tmp 13) (.tmp 16) 3), 31, none⟩,
        .one ⟨true, some 18, (.convert 31 5 (.tmp 17)), 5, none⟩,
        i_ 19 92 9 12,
        .one ⟨false, none, (.store 5 (.tmp 19) (.tmp 18)), 0, none⟩]
        (fun w' => w'.cell? ⟨g2, 0, none⟩ = some (.slice (some ⟨g, 0, none⟩) l.length c)) rfl (by kernel_rfl) (by kernel_rfl) ?_ ?_
   ·exact hcv
   rcases (show k = 0 ∨ k = 1 ∨ k = 2 ∨ k = 3 by omega) with rfl | rfl | rfl | rfl
   ·have h1 : (a : Int) < l.length := by omega
    simp only [Nat.add_zero] at hce hfr
    (repeat (first | ((first | ((with_reducible refine sq (v := ?_) (a' := ?_) ?_ ?_ ?_); rotate_left 2; (focus (intro w' hS; go_simp; (first | done | with_reducible rfl | rfl)))) | ((with_reducible refine sn (a' := ?_) ?_ ?_ ?_); rotate_left; (focus rfl)) | ((with_reducible refine sf trivial (a' := ?_) ?_ ?_ ?_); rotate_left; (focus rfl)) | ((with_reducible refine sqg (v := ?_) (a' := ?_) ?_ ?_ ?_ ?_); rotate_left 2; (focus rfl); (focus (intro w' hS; go_simp; (first | done | with_reducible rfl | rfl))))); (simp only [Act.put, List.setIfInBounds_toArray, List.set_cons_zero, List.set_cons_succ]; rfl)) | go_bits))
    refine se fun K hK => ?_
    go_simp
    refine hK _ _ (HV.out _ ((hch.out.trans (Chg.setCell _ _ _) (fun _ _ h => h)).trans (Chg.drew _) (fun _ _ h => h.elim))) ?_
    refine sl_end ?_
    go_wp2
    go_roundw
    case rel =>
     refine ⟨1, by omega, rfl, ?_, ?_⟩
     ·have hs := hown.out.set (x := byte n 0) HJ.out
      rw [← byte0 n]
      exact hs.kept (Chg.drew _) (fun _ _ h => h)
     ·exact (hch.out.trans (Chg.setCell _ _ _) (fun _ _ h => h)).trans (Chg.drew _) (fun _ _ h => h.elim)
    case measure => simp [intOf]
   ·have h1 : (a : Int) + 1 < l.length := by omega
    have h2 : 0 ≤ (a : Int) + 1 := by omega
    have h3 : ((a : Int) + 1).toNat = a + 1 := by omega
    (repeat (first | ((first | ((with_reducible refine sq (v := ?_) (a' := ?_) ?_ ?_ ?_); rotate_left 2; (focus (intro w' hS; go_simp; (first | done | with_reducible rfl | rfl)))) | ((with_reducible refine sn (a' := ?_) ?_ ?_ ?_); rotate_left; (focus rfl)) | ((with_reducible refine sf trivial (a' := ?_) ?_ ?_ ?_); rotate_left; (focus rfl)) | ((with_reducible refine sqg (v := ?_) (a' := ?_) ?_ ?_ ?_ ?_); rotate_left 2; (focus rfl); (focus (intro w' hS; go_simp; (first | done | with_reducible rfl | rfl))))); (simp only [Act.put, List.setIfInBounds_toArray, List.set_cons_zero, List.set_cons_succ]; rfl)) | go_bits))
    refine se fun K hK => ?_
    go_simp
    refine hK _ _ (HV.out _ ((hch.out.trans (Chg.setCell _ _ _) (fun _ _ h => h)).trans (Chg.drew _) (fun _ _ h => h.elim))) ?_
    refine sl_end ?_
    go_wp2
    go_roundw
    case rel =>
     refine ⟨2, by omega, rfl, ?_, ?_⟩
     ·have hs := hown.out.set (x := byte n 1) HJ.out
      rw [← byte1 n]
      exact hs.kept (Chg.drew _) (fun _ _ h => h)
     ·exact (hch.out.trans (Chg.setCell _ _ _) (fun _ _ h => h)).trans (Chg.drew _) (fun _ _ h => h.elim)
    case measure => simp [intOf]
   ·have h1 : (a : Int) + 2 < l.length := by omega
    have h2 : 0 ≤ (a : Int) + 2 := by omega
    have h3 : ((a : Int) + 2).toNat = a + 2 := by omega
    (repeat (first | ((first | ((with_reducible refine sq (v := ?_) (a' := ?_) ?_ ?_ ?_); rotate_left 2; (focus (intro w' hS; go_simp; (first | done | with_reducible rfl | rfl)))) | ((with_reducible refine sn (a' := ?_) ?_ ?_ ?_); rotate_left; (focus rfl)) | ((with_reducible refine sf trivial (a' := ?_) ?_ ?_ ?_); rotate_left; (focus rfl)) | ((with_reducible refine sqg (v := ?_) (a' := ?_) ?_ ?_ ?_ ?_); rotate_left 2; (focus rfl); (focus (intro w' hS; go_simp; (first | done | with_reducible rfl | rfl))))); (simp only [Act.put, List.setIfInBounds_toArray, List.set_cons_zero, List.set_cons_succ]; rfl)) | go_bits))
    refine se fun K hK => ?_
    go_simp
    refine hK _ _ (HV.out _ ((hch.out.trans (Chg.setCell _ _ _) (fun _ _ h => h)).trans (Chg.drew _) (fun _ _ h => h.elim))) ?_
    refine sl_end ?_
    go_wp2
    go_roundw
    case rel =>
     refine ⟨3, by omega, rfl, ?_, ?_⟩
     ·have hs := hown.out.set (x := byte n 2) HJ.out
      rw [← byte2 n]
      exact hs.kept (Chg.drew _) (fun _ _ h => h)
     ·exact (hch.out.trans (Chg.setCell _ _ _) (fun _ _ h => h)).trans (Chg.drew _) (fun _ _ h => h.elim)
    case measure => simp [intOf]
   ·have h1 : (a : Int) + 3 < l.length := by omega
    have h2 : 0 ≤ (a : Int) + 3 := by omega
    have h3 : ((a : Int) + 3).toNat = a + 3 := by omega
    (repeat (first | ((first | ((with_reducible refine sq (v := ?_) (a' := ?_) ?_ ?_ ?_); rotate_left 2; (focus (intro w' hS; go_simp; (first | done | with_reducible rfl | rfl)))) | ((with_reducible refine sn (a' := ?_) ?_ ?_ ?_); rotate_left; (focus rfl)) | ((with_reducible refine sf trivial (a' := ?_) ?_ ?_ ?_); rotate_left; (focus rfl)) | ((with_reducible refine sqg (v := ?_) (a' := ?_) ?_ ?_ ?_ ?_); rotate_left 2; (focus rfl); (focus (intro w' hS; go_simp; (first | done | with_reducible rfl | rfl))))); (simp only [Act.put, List.setIfInBounds_toArray, List.set_cons_zero, List.set_cons_succ]; rfl)) | go_bits))
    refine se fun K hK => ?_
    go_simp
    refine hK _ _ (HV.out _ ((hch.out.trans (Chg.setCell _ _ _) (fun _ _ h => h)).trans (Chg.drew _) (fun _ _ h => h.elim))) ?_
    refine sl_end ?_
    go_wp2
    go_roundw
    case rel =>
     refine ⟨4, by omega, rfl, ?_, ?_⟩
     ·have hs := hown.out.set (x := byte n 3) HJ.out
      rw [← byte3 n]
      exact hs.kept (Chg.drew _) (fun _ _ h => h)
     ·exact (hch.out.trans (Chg.setCell _ _ _) (fun _ _ h => h)).trans (Chg.drew _) (fun _ _ h => h.elim)
    case measure => simp [intOf]
  ·obtain rfl : k = 4 := by omega
   go_wp2
   go_end0
   exact ⟨rfl, hown.out, hch.out⟩
def nsec (n : Nat) : Nat := (n + 71) / 64
theorem sectors (n : Nat) (hn : n ≤ 1000000000) (w : World) : Calls Tryz.prog 91 #[.int .i64 n] w fun e w' => e = .returned (.int .i64 (nsec n)) ∧ w' = w := by
 go_enter Tryz.func91, Tryz.ntmps91
 go_wp2
 go_ret
 refine ⟨?_, rfl⟩
 show Ending.returned (.int .i64 ((8 + (n : Int) + 64 - 1) / 64)) = _
 have : (8 + (n : Int) + 64 - 1) / 64 = (nsec n : Int) := by unfold nsec; omega
 rw [this]
theorem mk (M : Nat) (x : Int) (hx : x = M) (hn : M ≤ 1000000000000) : ∀ W : World, (Instr.makeSlice 92 (.int .i64 x) (.int .i64 x)).run Tryz.prog W = .ok (.slice (some ⟨W.heap.size, 0, none⟩) M M) (W.alloc (.cells (Array.replicate M (.int .u8 0)) 5)) := by
 intro W
 subst hx
 exact mk_run 92 5 (.int .u8 0) 1 Tryz.underlying92 (by kernel_rfl) rfl .i64 .i64 M (by omega) (by omega) W
theorem made_own (M B : Nat) (w : World) (hB : B ≤ w.heap.size) (hM : M ≤ 100000) : OwnI .u8 (w.alloc (.cells (Array.replicate M (.int .u8 0)) 5)) B 5 (.slice (some ⟨w.heap.size, 0, none⟩) M M) (List.replicate M 0) := by
 have h := OwnI.made (B := B) w .u8 (List.replicate M (0 : Int)) 5 (Array.replicate M (.int .u8 0)) (by simp) hB (by simp [maxLen]; omega)
 rwa [List.length_replicate] at h
theorem tell_m (a : Nat) (n : Int) (g g2 c B m : Nat) (l : List Int) (w : World) (hm : l.length = m) (ha : a + 4 ≤ m) (ha2 : m ≤ 100000) (hn : 0 ≤ n ∧ n < 4294967296) (hgg : g2 ≠ g) (ho : OwnI .u8 w B 5 (.slice (some ⟨g, 0, none⟩) m c) l)
  (hv : w.cell? ⟨g2, 0, none⟩ = some (.slice (some ⟨g, 0, none⟩) m c)) :
  Calls Tryz.prog 92 #[.int .i64 a, .int .u32 n, .pointer (some ⟨g2, 0, none⟩)] w fun e w' => e = .returned (.tuple #[]) ∧ OwnI .u8 w' B 5 (.slice (some ⟨g, 0, none⟩) m c) (told l a n 4) ∧ Chg (fun k => k = g) w w' := by
 subst hm
 exact tell a n g g2 c B l w ha ha2 hn hgg ho hv
theorem var_cell (W : World) (v : Value) (t : TypeId) (i : Nat) (hi : i = W.heap.size) : (W.alloc (.cells #[v] t)).cell? ⟨i, 0, none⟩ = some v := by
 subst hi
 rw [cell_of_row _ _ _ _ _ _ (heap_alloc_new _ _)]; rfl
theorem byte_range (n : Int) (k : Nat) : 0 ≤ byte n k ∧ byte n k < 256 := by unfold byte; omega
theorem head_bts (n : Int) : Bts (head n) := by
 intro x hx
 simp only [head, List.mem_cons, List.not_mem_nil, or_false] at hx
 rcases hx with rfl | rfl | rfl | rfl <;> exact byte_range _ _
theorem told_four (n : Int) (l : List Int) (hl : 4 ≤ l.length) : (told l 0 n 4).take 4 = head n := by
 match l, hl with
 | a :: b :: c :: d :: r, _ => simp [told, head]
def put (r : List Int) : List Int :=
 splice (told (told (List.replicate (nsec r.length * 64) 0) 0 r.length 4) 4 (num (on (on 0#32 (head r.length)) r)) 4) 8 r
theorem put_any (A : Option Addr) (c : Nat) (l : List Int) (w : World) (hl : l.length ≤ 16384) (hb : Bts l) (hr : Rd .u8 w A l) :
  Calls Tryz.prog 68 #[.slice A l.length c] w fun e w' => ∃ v, e = .returned (.tuple #[v, .int .i64 0]) ∧ OwnI .u8 w' w.heap.size 5 v (put l) ∧ Below w.heap.size w w' := by
 have HR := Lib.hid hr
 have HB := Lib.hid hb
 clear hr hb
 go_enter Tryz.func68, Tryz.ntmps68
 go_wp2_with fail
 refine (sectors l.length (by omega) _).mono ?_
 rintro e w1 ⟨rfl, h⟩
 subst h
 obtain ⟨S, hS⟩ : ∃ S, S = nsec l.length := ⟨_, rfl⟩
 have hSb : S ≤ 258 ∧ 1 ≤ S ∧ l.length + 8 ≤ S * 64 := by subst hS; unfold nsec; omega
 obtain ⟨M, hM⟩ : ∃ M, M = S * 64 := ⟨_, rfl⟩
 have hMb : 64 ≤ M ∧ M ≤ 20000 ∧ l.length + 8 ≤ M := by omega
 have HM := Lib.hid (show M = nsec l.length * 64 by rw [← hS]; exact hM)
 rw [← hS]
 have hmk := mk M ((S : Int) * 64) (by omega) (by omega)
 have hS2 : (S : Int) ≤ 258 := by omega
 clear hS hM hSb
 go_wp2_with fail
 have o1 : OwnI .u8 _ w1.heap.size 5 (.slice (some ⟨w1.heap.size, 0, none⟩) M M) (List.replicate M 0) := (made_own M w1.heap.size w1 (Nat.le_refl _) (by omega)).alloc (.cells #[.slice (some ⟨w1.heap.size, 0, none⟩) M M] 92)
 have b1 : Below w1.heap.size w1 ((w1.alloc (.cells (Array.replicate M (.int .u8 0)) 5)).alloc (.cells #[.slice (some ⟨w1.heap.size, 0, none⟩) M M] 92)) :=
  ((Below.refl _ _).alloc (Nat.le_refl _) _).alloc (by simp) _
 have hvc : ∀ W, Chg (fun k => k = w1.heap.size) ((w1.alloc (.cells (Array.replicate M (.int .u8 0)) 5)).alloc (.cells #[.slice (some ⟨w1.heap.size, 0, none⟩) M M] 92)) W → W.cell? ⟨w1.heap.size + 1, 0, none⟩ = some (.slice (some ⟨w1.heap.size, 0, none⟩) M M) := by
  intro W hc
  have h1 := var_cell (w1.alloc (.cells (Array.replicate M (.int .u8 0)) 5)) (.slice (some ⟨w1.heap.size, 0, none⟩) M M) 92 (w1.heap.size + 1) (by simp)
  rw [World.cell?_of_block (w := (w1.alloc (.cells (Array.replicate M (.int .u8 0)) 5)).alloc (.cells #[.slice (some ⟨w1.heap.size, 0, none⟩) M M] 92)) (hc.block _ (World.block_lt_of_cell? _ _ h1) (by show ¬ w1.heap.size + 1 = w1.heap.size; omega))]
  exact h1
 have HV := Lib.hid hvc
 have HB1 := Lib.hid b1
 clear hvc b1 hmk
 refine (tell_m 0 (l.length : Int) w1.heap.size (w1.heap.size + 1) M w1.heap.size M (List.replicate M 0) _ (by simp) (by omega) (by omega) (by omega) (by omega) o1 (HV.out _ (Chg.refl _ _))).mono ?_
 clear o1
 rintro e w2 ⟨rfl, o2, c2⟩
 have O2 := Lib.hid o2
 have C2 := Lib.hid c2
 have hcv := HV.out _ c2
 have hM1 : 4 ≤ M := by omega
 have hM2 : (4 : Int) ≤ M := by omega
 clear o2 c2
 go_wp2_with fail
 have hhd : Rd .u8 w2 (some ⟨w1.heap.size, 0, none⟩) (head l.length) := by
  obtain ⟨A', c', e, _, _, hr, _⟩ := O2.out.slice
  injection e with e1 e2 e3
  have h1 := hr.take 4
  rw [← e1, told_four _ _ (by simp; omega)] at h1
  exact h1
 refine (of_any (some ⟨w1.heap.size, 0, none⟩) 4 (head l.length) w2 (by simp [head]) ?_ hhd).mono ?_
 ·exact head_bts _
 clear hhd
 rintro e w3 ⟨rfl, b3⟩
 have hb3 := (C2.out.below HB1.out (by simp; omega) (fun _ h => by omega)).trans (below_weak (by have := C2.out.size; simp at this; omega) b3)
 have HB3 := Lib.hid b3
 have HBB3 := Lib.hid hb3
 clear b3 hb3 hcv
 go_wp2_with fail
 refine (on_any _ A c l w3 (by omega) HB.out (HR.out.below HBB3.out)).mono ?_
 rintro e w4 ⟨rfl, b4⟩
 have c4 := (C2.out.trans (Chg.of_new HB3.out) (fun _ _ h => h.elim)).trans (Chg.of_new b4) (fun _ _ h => h.elim)
 have HO4 := Lib.hid ((O2.out.new HB3.out).new b4)
 have HBB4 := Lib.hid (HBB3.out.trans (below_weak HBB3.out.size b4))
 have HC4 := Lib.hid c4
 have hcv4 := HV.out _ c4
 have HN := Lib.hid (num_range (on (on 0#32 (head l.length)) l))
 clear b4 c4 O2 C2 HB3 HBB3
 obtain ⟨N, hN⟩ : ∃ N, N = num (on (on 0#32 (head l.length)) l) := ⟨_, rfl⟩
 rw [← hN] at HN ⊢
 have HNE := Lib.hid hN
 clear hN
 go_wp2_with fail
 refine (tell_m 4 N w1.heap.size (w1.heap.size + 1) M w1.heap.size M _ w4 (by rw [told_length]; simp) (by omega) (by omega) HN.out (by omega) HO4.out hcv4).mono ?_
 clear hcv4
 rintro e w5 ⟨rfl, o5, c5⟩
 have hcv5 := HV.out _ (HC4.out.trans c5 (fun _ _ h => h))
 have HO5 := Lib.hid o5
 have HBB5 := Lib.hid (c5.below HBB4.out HBB4.out.size (fun _ h => by omega))
 have HC5 := Lib.hid c5
 clear o5 c5
 have hM8 : ¬ M = 8 := by omega
 have hM9 : (8 : Int) ≤ M := by omega
 have hM10 : 8 ≤ M := by omega
 go_wp2_with (refine copy_list_m (m := M) (by rw [told_length, told_length]; simp) rfl (.tmp 28) (.tmp 29) _ _ 5 rfl Tryz.underlying92 Sums.info1 HO5.out 8 _ _ _ _ _ _ l rfl rfl (fun _ => rfl) (HR.out.below HBB5.out) (by show _ = min _ _; omega) (by omega) ?_; clear hcv5; intro w6 o6 c6; have hcv6 := HV.out _ ((HC4.out.trans HC5.out (fun _ _ h => h)).trans c6 (fun _ _ h => h)); have HO6 := Lib.hid o6; have HBB6 := Lib.hid (c6.below HBB5.out HBB5.out.size (fun _ h => by omega)); clear o6 c6)
 go_ret2
 refine ⟨_, rfl, ?_, HBB6.out⟩
 have h1 := HO6.out
 unfold put
 rw [← HM.out, ← HNE.out]
 exact h1
theorem put_own {e : TypeId} {v : Value} {B : Nat} {l : List Int} {w : World} (ho : OwnI .u8 w B e v l) (hl : l.length ≤ 16384) (hb : Bts l) :
  Calls Tryz.prog 68 #[v] w fun e w' => ∃ v, e = .returned (.tuple #[v, .int .i64 0]) ∧ OwnI .u8 w' w.heap.size 5 v (put l) ∧ Below w.heap.size w w' := by
 obtain ⟨A, c, rfl, _, _, hr, _⟩ := ho.slice
 exact put_any A c l w hl hb hr
theorem put_big (A : Option Addr) (n c : Nat) (w : World) (hl : 16384 < n) (h2 : n ≤ 1000000000) :
  Calls Tryz.prog 68 #[.slice A n c] w fun e w' => e = .returned (.tuple #[.slice none 0 0, .int .i64 3]) ∧ Below w.heap.size w w' := by
 go_enter Tryz.func68, Tryz.ntmps68
 go_wp2
 go_ret2
 exact ⟨rfl, Below.refl _ _⟩
theorem put_length (r : List Int) : (put r).length = nsec r.length * 64 := by
 unfold put
 rw [length_splice _ _ _ (by rw [told_length, told_length, List.length_replicate]; unfold nsec; omega), told_length, told_length, List.length_replicate]
end Go.Proofs.YticnjkdaccacaaaGreat.Frames
end
