/- A disk is written. -/
import Derived.Test.YtmpkoacpakepfaaDisk
namespace Go.Proofs.Ytmpkoacpakepfaa.Disk
open Go.RowKit Base Own OwnV Bytes

set_option maxHeartbeats 1000000 in
set_option maxRecDepth 100000 in
theorem write {w : World} {B d : Nat} {F : Nat → Prop} {D : Dk} (h : Disk w B d F D) (hB : B ≤ w.heap.size) (hwl : D.waits.length ≤ 1000000000) (x : Int) (A : Option Addr) (c : Nat) (b : List Int) (hlb : b.length ≤ 1000000000) (hb : Bts b) (hr : Rd .u8 w A b) :
    Calls Try.prog 22 #[.pointer (some ⟨d, 0, none⟩), .int .i64 x, .slice A b.length c] w fun e w' => e = .returned (.int .i64 (writeCode D.seen.length x b)) ∧
      ∃ F', Disk w' B d F' (if writeCode D.seen.length x b = 0 then D.write x (pad b) else D) ∧ Chg F w w' ∧ ∀ k, F' k → F k ∨ w.heap.size ≤ k := by
  have H := Lib.hid h
  have HB := Lib.hid (And.intro hb (And.intro hr hB))
  clear h hb hr hB
  by_cases hx : 0 ≤ x ∧ x < D.seen.length
  · have hm : mayOk D.seen.length x = 0 := by unfold mayOk; rw [if_pos hx]
    by_cases h64 : 64 < b.length
    · have hc : writeCode D.seen.length x b = 1 := by unfold writeCode; rw [if_pos (.inr h64)]
      rw [hc]
      clear hc
      go_enter Try.func22, Try.ntmps22
      go_wp2_with fail
      refine (may H.out x).mono ?_
      rw [hm]
      clear hm
      rintro e w' ⟨rfl, h⟩
      subst h
      go_wp2
      go_ret
      exact ⟨rfl, F, H.out, Chg.refl _ _, fun k hk => .inl hk⟩
    · have hc : writeCode D.seen.length x b = 0 := by unfold writeCode; rw [if_neg (by rw [hm]; simp; omega)]
      rw [hc]
      clear hc
      obtain ⟨i, rfl⟩ : ∃ i : Nat, x = i := ⟨x.toNat, by omega⟩
      have hi : i < D.seen.length := by omega
      obtain ⟨Z, hZ⟩ : ∃ Z : Array Value, Z = Array.replicate 64 (.int .u8 0) := ⟨_, rfl⟩
      have hz : ∀ W, (zeroValue 72).run Try.prog W = .ok (.agg Z) W := fun W => by subst hZ; kernel_rfl
      have HZ := Lib.hid hZ
      clear hZ
      go_enter Try.func22, Try.ntmps22
      go_wp2_with fail
      refine (may H.out (i : Int)).mono ?_
      rw [hm]
      clear hm
      rintro e w' ⟨rfl, h⟩
      subst h
      have o1 : OwnI .u8 (w'.alloc (.cells Z 72)) w'.heap.size 72 (.slice (some ⟨w'.heap.size, 0, none⟩) 64 64) (List.replicate 64 0) :=
        OwnI.made (B := w'.heap.size) w' .u8 (List.replicate 64 (0 : Int)) 72 Z (by rw [HZ.out]; rfl) (Nat.le_refl _) (by simp [maxLen])
      have b1 : Below w'.heap.size w' (w'.alloc (.cells Z 72)) := (Below.refl _ _).alloc (Nat.le_refl _) _
      have H1 := Lib.hid (And.intro o1 b1)
      clear o1 b1
      go_wp2_with (refine copy_list_m (m := 64) (by simp) rfl (.tmp 18) (.tmp 19) _ _ 5 rfl Try.underlying22 info1 H1.out.1 0 _ _ _ _ _ _ b rfl rfl (fun _ => rfl) (HB.out.2.1.below H1.out.2) (by show _ = min _ _; omega) (by omega) ?_; intro w2 o2 c2; have H2 := Lib.hid (And.intro o2 c2); clear o2 c2 hz)
      obtain ⟨o2, c2⟩ := H2.out
      rw [pad_splice (by omega)] at o2
      have hpc := pad_pc (b := b) (by omega) HB.out.1
      obtain ⟨S, E, W, L0, hF⟩ := H.out
      have c02 : Chg (fun k => w'.heap.size ≤ k) w' w2 := (Chg.of_below H1.out.2).trans c2 (fun k _ hk => by rw [hk]; exact Nat.le_refl _)
      have L2 : Lies w2 B d S E W D := L0.kept c02 fun k hk hk2 => by
        have := (H.out.lt k ((hF k).2 hk)).2
        omega
      obtain ⟨p, hp⟩ : ∃ p, p = pad b := ⟨_, rfl⟩
      rw [← hp] at o2 hpc
      have hdlt : d < w'.heap.size := (Array.getElem?_eq_some_iff.1 L0.cells).1
      have hglt := fun k hk => (H.out.lt k ((hF k).2 hk)).2
      obtain ⟨A2, c2', hE, -, -, hA, hA2⟩ := L2.seen.slice
      cases A2 with
      | none => have := hA rfl; omega
      | some ad =>
      obtain ⟨g, rfl, hBg, hg, hr, hth⟩ := hA2 _ rfl
      subst hE
      have hgd : g ≠ d := fun h => L2.e0 (by rw [h]; rfl)
      have hgl : g < w'.heap.size := hglt g (.inr (.inr (.inl rfl)))
      have hc1 := L2.cell.2.1
      have hpr : w2.rangeAt w'.heap.size 0 (p.map (Value.int .u8)) := by
        obtain ⟨A3, c3, e3, -, -, -, h3⟩ := RowV.slice (show RowV w2 w'.heap.size 72 1 (.slice (some ⟨w'.heap.size, 0, none⟩) 64 64) p.length (p.map (Value.int .u8)) from o2)
        injection e3 with e4
        obtain ⟨g3, e5, _, _, h4, _⟩ := h3 _ e4.symm
        injection e5 with e5
        subst e5
        exact h4
      obtain ⟨Pv, hPv⟩ : ∃ Pv, Pv = p.map (Value.int .u8) := ⟨_, rfl⟩
      have hPl : Pv.length = 64 := by rw [hPv, List.length_map, hpc.1]
      rw [← hPv] at hpr
      have HP := Lib.hid (And.intro hPv (And.intro hpc hp))
      have HL := Lib.hid L2
      have HC := Lib.hid (And.intro c02 (And.intro hF (And.intro hglt hth)))
      have hmost := L2.ok.most
      clear o2 c2 hpc L0 c02 L2 hA hA2 hr hPv hp H1 H2 hF hglt hth hBg
      obtain ⟨n, hn⟩ : ∃ n, n = D.seen.length := ⟨_, rfl⟩
      rw [← hn] at hi hc1 hmost hx
      have HNn := Lib.hid hn
      clear hn
      refine wp_region_sl [.one (0, true, some 21), .one (1, true, some 22), .one (2, true, some 23), .one (3, true, some 24), .one (4, true, some 25), .one (5, true, some 26), .one (6, true, some 27), .one (7, false, none)]
                [.one ⟨true, some 21, (Go.Op.move (Go.Operand.tmp 0)), 24, none⟩,
                .one ⟨true, some 22, (Go.Op.nilCheck (Go.Operand.tmp 21)), 0, none⟩,
                .one ⟨true, some 23, (Go.Op.fieldAddr 40 (Go.Operand.tmp 22) 1), 0, none⟩,
                .one ⟨true, some 24, (Go.Op.load 37 (Go.Operand.tmp 23)), 37, none⟩,
                .one ⟨true, some 25, (Go.Op.move (Go.Operand.tmp 1)), 3, none⟩,
                .one ⟨true, some 26, (Go.Op.load 72 (Go.Operand.tmp 8)), 72, none⟩,
                .one ⟨true, some 27, (Go.Op.indexAddr 37 (Go.Operand.tmp 24) (Go.Operand.tmp 25)), 0, none⟩,
                .one ⟨false, none, (Go.Op.store 72 (Go.Operand.tmp 27) (Go.Operand.tmp 26)), 0, none⟩]
                (fun w3 => w3.cell? ⟨d, 1, none⟩ = some (.slice (some ⟨g, 0, none⟩) n c2') ∧ w3.rangeAt w'.heap.size 0 Pv) rfl (by kernel_rfl) (by kernel_rfl) ?_ ?_
      · exact ⟨hc1, hpr⟩
      (repeat (first | ((with_reducible refine sq (v := ?_) (a' := ?_) ?_ ?_ ?_); rotate_left 2; (focus (intro w' hS; go_simp; (first | done | with_reducible rfl | rfl))); (simp only [Act.put, List.setIfInBounds_toArray, List.set_cons_zero, List.set_cons_succ]; rfl)) | ((with_reducible refine sn (a' := ?_) ?_ ?_ ?_); rotate_left; (focus rfl); (simp only [Act.put, List.setIfInBounds_toArray, List.set_cons_zero, List.set_cons_succ]; rfl)) | ((with_reducible refine sf trivial (a' := ?_) ?_ ?_ ?_); rotate_left; (focus rfl); (simp only [Act.put, List.setIfInBounds_toArray, List.set_cons_zero, List.set_cons_succ]; rfl)) | ((with_reducible refine sqg (v := ?_) (a' := ?_) ?_ ?_ ?_ ?_); rotate_left 2; (focus rfl); (focus (intro w' hS; go_simp; (first | done | with_reducible rfl | rfl))); (simp only [Act.put, List.setIfInBounds_toArray, List.set_cons_zero, List.set_cons_succ]; rfl)))); (repeat ((go_bits; (first | ((with_reducible refine sq (v := ?_) (a' := ?_) ?_ ?_ ?_); rotate_left 2; (focus (intro w' hS; go_simp; (first | done | with_reducible rfl | rfl))); (simp only [Act.put, List.setIfInBounds_toArray, List.set_cons_zero, List.set_cons_succ]; rfl)) | ((with_reducible refine sn (a' := ?_) ?_ ?_ ?_); rotate_left; (focus rfl); (simp only [Act.put, List.setIfInBounds_toArray, List.set_cons_zero, List.set_cons_succ]; rfl)) | ((with_reducible refine sf trivial (a' := ?_) ?_ ?_ ?_); rotate_left; (focus rfl); (simp only [Act.put, List.setIfInBounds_toArray, List.set_cons_zero, List.set_cons_succ]; rfl)) | ((with_reducible refine sqg (v := ?_) (a' := ?_) ?_ ?_ ?_ ?_); rotate_left 2; (focus rfl); (focus (intro w' hS; go_simp; (first | done | with_reducible rfl | rfl))); (simp only [Act.put, List.setIfInBounds_toArray, List.set_cons_zero, List.set_cons_succ]; rfl)))); (repeat (first | ((with_reducible refine sq (v := ?_) (a' := ?_) ?_ ?_ ?_); rotate_left 2; (focus (intro w' hS; go_simp; (first | done | with_reducible rfl | rfl))); (simp only [Act.put, List.setIfInBounds_toArray, List.set_cons_zero, List.set_cons_succ]; rfl)) | ((with_reducible refine sn (a' := ?_) ?_ ?_ ?_); rotate_left; (focus rfl); (simp only [Act.put, List.setIfInBounds_toArray, List.set_cons_zero, List.set_cons_succ]; rfl)) | ((with_reducible refine sf trivial (a' := ?_) ?_ ?_ ?_); rotate_left; (focus rfl); (simp only [Act.put, List.setIfInBounds_toArray, List.set_cons_zero, List.set_cons_succ]; rfl)) | ((with_reducible refine sqg (v := ?_) (a' := ?_) ?_ ?_ ?_ ?_); rotate_left 2; (focus rfl); (focus (intro w' hS; go_simp; (first | done | with_reducible rfl | rfl))); (simp only [Act.put, List.setIfInBounds_toArray, List.set_cons_zero, List.set_cons_succ]; rfl)))))); (try go_bits)
      refine sq (v := .agg Pv.toArray) (a' := ?_) (fun w3 hS => ?_) ?_ ?_
      rotate_left 1
      · exact exec_load_mid _ _ w'.heap.size 0 rfl Pv _ hS.2 Try.underlying72 rfl (by rw [hPl]; kernel_rfl)
      · simp only [Act.put, List.setIfInBounds_toArray, List.set_cons_zero, List.set_cons_succ]; rfl
      (repeat (first | ((with_reducible refine sq (v := ?_) (a' := ?_) ?_ ?_ ?_); rotate_left 2; (focus (intro w' hS; go_simp; (first | done | with_reducible rfl | rfl))); (simp only [Act.put, List.setIfInBounds_toArray, List.set_cons_zero, List.set_cons_succ]; rfl)) | ((with_reducible refine sn (a' := ?_) ?_ ?_ ?_); rotate_left; (focus rfl); (simp only [Act.put, List.setIfInBounds_toArray, List.set_cons_zero, List.set_cons_succ]; rfl)) | ((with_reducible refine sf trivial (a' := ?_) ?_ ?_ ?_); rotate_left; (focus rfl); (simp only [Act.put, List.setIfInBounds_toArray, List.set_cons_zero, List.set_cons_succ]; rfl)) | ((with_reducible refine sqg (v := ?_) (a' := ?_) ?_ ?_ ?_ ?_); rotate_left 2; (focus rfl); (focus (intro w' hS; go_simp; (first | done | with_reducible rfl | rfl))); (simp only [Act.put, List.setIfInBounds_toArray, List.set_cons_zero, List.set_cons_succ]; rfl)))); (repeat ((go_bits; (first | ((with_reducible refine sq (v := ?_) (a' := ?_) ?_ ?_ ?_); rotate_left 2; (focus (intro w' hS; go_simp; (first | done | with_reducible rfl | rfl))); (simp only [Act.put, List.setIfInBounds_toArray, List.set_cons_zero, List.set_cons_succ]; rfl)) | ((with_reducible refine sn (a' := ?_) ?_ ?_ ?_); rotate_left; (focus rfl); (simp only [Act.put, List.setIfInBounds_toArray, List.set_cons_zero, List.set_cons_succ]; rfl)) | ((with_reducible refine sf trivial (a' := ?_) ?_ ?_ ?_); rotate_left; (focus rfl); (simp only [Act.put, List.setIfInBounds_toArray, List.set_cons_zero, List.set_cons_succ]; rfl)) | ((with_reducible refine sqg (v := ?_) (a' := ?_) ?_ ?_ ?_ ?_); rotate_left 2; (focus rfl); (focus (intro w' hS; go_simp; (first | done | with_reducible rfl | rfl))); (simp only [Act.put, List.setIfInBounds_toArray, List.set_cons_zero, List.set_cons_succ]; rfl)))); (repeat (first | ((with_reducible refine sq (v := ?_) (a' := ?_) ?_ ?_ ?_); rotate_left 2; (focus (intro w' hS; go_simp; (first | done | with_reducible rfl | rfl))); (simp only [Act.put, List.setIfInBounds_toArray, List.set_cons_zero, List.set_cons_succ]; rfl)) | ((with_reducible refine sn (a' := ?_) ?_ ?_ ?_); rotate_left; (focus rfl); (simp only [Act.put, List.setIfInBounds_toArray, List.set_cons_zero, List.set_cons_succ]; rfl)) | ((with_reducible refine sf trivial (a' := ?_) ?_ ?_ ?_); rotate_left; (focus rfl); (simp only [Act.put, List.setIfInBounds_toArray, List.set_cons_zero, List.set_cons_succ]; rfl)) | ((with_reducible refine sqg (v := ?_) (a' := ?_) ?_ ?_ ?_ ?_); rotate_left 2; (focus rfl); (focus (intro w' hS; go_simp; (first | done | with_reducible rfl | rfl))); (simp only [Act.put, List.setIfInBounds_toArray, List.set_cons_zero, List.set_cons_succ]; rfl)))))); (try go_bits)
      refine se' fun K hK => ?_
      have hp64 : (Pv.toArray).size = 64 := by simp [hPl]
      refine wp_store_mid _ _ _ rfl g (i * 64) Pv.toArray rfl rfl ?_ (by rw [hp64]; kernel_rfl) (all_oneCell_toArray (fun v hv => by rw [HP.out.1] at hv; obtain ⟨x, _, rfl⟩ := List.mem_map.1 hv; rfl)) ?_
      · intro j hj
        rw [hp64] at hj
        have := HC.out.2.2.2 (i * 64 + j) (by rw [← HNn.out]; omega)
        rw [Nat.zero_add] at this
        exact this
      refine hK _ _ ⟨?_, ?_⟩ fun a'' ha => ?_
      · rw [World.cell?_setCells_out _ _ _ _ _ (fun hb _ => absurd hb (Ne.symm hgd))]; exact hc1
      · exact World.rangeAt_setCells_apart (w := w2.drew) hpr g (i * 64) _ (.inl (by omega))
      have c25 : Chg (fun k => k = g) w2 (w2.drew.setCells g (i * 64) Pv.toArray.toList) := ((Chg.drew w2).mono (fun k _ h => h.elim)).trans (chg_setCells g _ _ _) (fun _ _ h => h)
      have L5 : Lies (w2.drew.setCells g (i * 64) Pv.toArray.toList) B d S (.slice (some ⟨g, 0, none⟩) n c2') W { D with seen := D.seen.set i p } := by
        have h := (HL.out.kept (Chg.drew w2) (fun _ _ h => h))
        rw [← HNn.out] at h
        have h2 := h.set (i := i) (p := p) (by rw [← HNn.out]; exact hi) HP.out.2.1
        rw [← HP.out.1] at h2
        exact h2
      have hpr5 : (w2.drew.setCells g (i * 64) Pv.toArray.toList).rangeAt w'.heap.size 0 Pv := World.rangeAt_setCells_apart (w := w2.drew) hpr g (i * 64) _ (.inl (by omega))
      have c05 := HC.out.1.then c25
      obtain ⟨w5, hw5⟩ : ∃ w5, w5 = w2.drew.setCells g (i * 64) Pv.toArray.toList := ⟨_, rfl⟩
      rw [← hw5] at c25 L5 hpr5 c05 ⊢
      have hc2 := L5.cell.2.2
      have HL5 := Lib.hid L5
      have HC5 := Lib.hid c05
      clear hw5 c25 L5 c05 hc1 hpr HL hp64 hK
      simp only [Act.put, List.setIfInBounds_toArray, List.set_cons_zero, List.set_cons_succ] at ha
      subst ha
      refine sl_end ?_
      go_wp2
      refine wp_region_sl [.one (0, true, some 28), .one (1, true, some 29), .one (2, true, some 30), .one (3, true, some 31), .one (5, true, some 33), .one (6, true, some 34), .one (7, true, some 35), .two 4 8 (some 32) (some 36), .one (9, false, some 37), .one (10, true, some 38), .one (11, true, some 39), .one (12, false, none)]
                [.one ⟨true, some 28, (Go.Op.move (Go.Operand.tmp 0)), 24, none⟩,
                .one ⟨true, some 29, (Go.Op.move (Go.Operand.tmp 0)), 24, none⟩,
                .one ⟨true, some 30, (Go.Op.nilCheck (Go.Operand.tmp 29)), 0, none⟩,
                .one ⟨true, some 31, (Go.Op.fieldAddr 40 (Go.Operand.tmp 30) 2), 0, none⟩,
                .one ⟨true, some 33, (Go.Op.move (Go.Operand.tmp 1)), 3, none⟩,
                .one ⟨true, some 34, (Go.Op.load 72 (Go.Operand.tmp 8)), 72, none⟩,
                .one ⟨true, some 35, (Go.Op.build 74 #[(0, (Go.Operand.tmp 33)), (1, (Go.Operand.tmp 34))]), 74, none⟩,
                .two ⟨false, some 32, (Go.Op.load 38 (Go.Operand.tmp 31)), 38, none⟩ ⟨false, some 36, (Go.Op.buildSlice 38 1 #[(0, (Go.Operand.tmp 35))]), 38, none⟩,
                .one ⟨false, some 37, (Go.Op.call { callee := (Go.Callee.builtin Go.Builtin.append), args := #[(Go.Operand.tmp 32), (Go.Operand.tmp 36)], argTypes := #[38, 38] }), 38, none⟩,
                .one ⟨true, some 38, (Go.Op.nilCheck (Go.Operand.tmp 28)), 0, none⟩,
                .one ⟨true, some 39, (Go.Op.fieldAddr 40 (Go.Operand.tmp 38) 2), 0, none⟩,
                .one ⟨false, none, (Go.Op.store 38 (Go.Operand.tmp 39) (Go.Operand.tmp 37)), 0, none⟩]
                (fun w3 => w3.rangeAt w'.heap.size 0 Pv) rfl (by kernel_rfl) (by kernel_rfl) ?_ ?_
      · exact hpr5
      (repeat (first | ((with_reducible refine sq (v := ?_) (a' := ?_) ?_ ?_ ?_); rotate_left 2; (focus (intro w' hS; go_simp; (first | done | with_reducible rfl | rfl))); (simp only [Act.put, List.setIfInBounds_toArray, List.set_cons_zero, List.set_cons_succ]; rfl)) | ((with_reducible refine sn (a' := ?_) ?_ ?_ ?_); rotate_left; (focus rfl); (simp only [Act.put, List.setIfInBounds_toArray, List.set_cons_zero, List.set_cons_succ]; rfl)) | ((with_reducible refine sf trivial (a' := ?_) ?_ ?_ ?_); rotate_left; (focus rfl); (simp only [Act.put, List.setIfInBounds_toArray, List.set_cons_zero, List.set_cons_succ]; rfl)) | ((with_reducible refine sqg (v := ?_) (a' := ?_) ?_ ?_ ?_ ?_); rotate_left 2; (focus rfl); (focus (intro w' hS; go_simp; (first | done | with_reducible rfl | rfl))); (simp only [Act.put, List.setIfInBounds_toArray, List.set_cons_zero, List.set_cons_succ]; rfl)))); (repeat ((go_bits; (first | ((with_reducible refine sq (v := ?_) (a' := ?_) ?_ ?_ ?_); rotate_left 2; (focus (intro w' hS; go_simp; (first | done | with_reducible rfl | rfl))); (simp only [Act.put, List.setIfInBounds_toArray, List.set_cons_zero, List.set_cons_succ]; rfl)) | ((with_reducible refine sn (a' := ?_) ?_ ?_ ?_); rotate_left; (focus rfl); (simp only [Act.put, List.setIfInBounds_toArray, List.set_cons_zero, List.set_cons_succ]; rfl)) | ((with_reducible refine sf trivial (a' := ?_) ?_ ?_ ?_); rotate_left; (focus rfl); (simp only [Act.put, List.setIfInBounds_toArray, List.set_cons_zero, List.set_cons_succ]; rfl)) | ((with_reducible refine sqg (v := ?_) (a' := ?_) ?_ ?_ ?_ ?_); rotate_left 2; (focus rfl); (focus (intro w' hS; go_simp; (first | done | with_reducible rfl | rfl))); (simp only [Act.put, List.setIfInBounds_toArray, List.set_cons_zero, List.set_cons_succ]; rfl)))); (repeat (first | ((with_reducible refine sq (v := ?_) (a' := ?_) ?_ ?_ ?_); rotate_left 2; (focus (intro w' hS; go_simp; (first | done | with_reducible rfl | rfl))); (simp only [Act.put, List.setIfInBounds_toArray, List.set_cons_zero, List.set_cons_succ]; rfl)) | ((with_reducible refine sn (a' := ?_) ?_ ?_ ?_); rotate_left; (focus rfl); (simp only [Act.put, List.setIfInBounds_toArray, List.set_cons_zero, List.set_cons_succ]; rfl)) | ((with_reducible refine sf trivial (a' := ?_) ?_ ?_ ?_); rotate_left; (focus rfl); (simp only [Act.put, List.setIfInBounds_toArray, List.set_cons_zero, List.set_cons_succ]; rfl)) | ((with_reducible refine sqg (v := ?_) (a' := ?_) ?_ ?_ ?_ ?_); rotate_left 2; (focus rfl); (focus (intro w' hS; go_simp; (first | done | with_reducible rfl | rfl))); (simp only [Act.put, List.setIfInBounds_toArray, List.set_cons_zero, List.set_cons_succ]; rfl)))))); (try go_bits)
      refine sq (v := .agg Pv.toArray) (a' := ?_) (fun w3 hS => ?_) ?_ ?_
      rotate_left 1
      · exact exec_load_mid _ _ w'.heap.size 0 rfl Pv _ hS Try.underlying72 rfl (by rw [hPl]; kernel_rfl)
      · simp only [Act.put, List.setIfInBounds_toArray, List.set_cons_zero, List.set_cons_succ]; rfl
      refine sq (v := .agg (Value.int .i64 i :: Pv).toArray) (a' := ?_) (fun w3 hS => ?_) ?_ ?_
      rotate_left 1
      · exact exec_build _ _ _ (by simp only [List.map_toArray, List.map_cons, List.map_nil]; exact built_write i Pv hPl)
      · simp only [Act.put, List.setIfInBounds_toArray, List.set_cons_zero, List.set_cons_succ]; rfl
      have hw6 : Below w5.heap.size w5 (w5.drew.alloc (.cells (Value.int .i64 i :: Pv).toArray 74)) := (Below.refl _ _).drew.alloc (Nat.le_refl _) _
      have hd5 : d < w5.heap.size := (Array.getElem?_eq_some_iff.1 HL5.out.cells).1
      have hs5 : w'.heap.size < w5.heap.size := World.block_lt_of_cell? w5 _ (hpr5 0 Pv[0] (List.getElem?_eq_getElem (by omega)))
      have hc6 : (w5.drew.alloc (.cells (Value.int .i64 i :: Pv).toArray 74)).cell? ⟨d, 2, none⟩ = some W := by rw [hw6.cell (p := ⟨d, 2, none⟩) hd5]; exact hc2
      have hpr6 : (w5.drew.alloc (.cells (Value.int .i64 i :: Pv).toArray 74)).rangeAt w'.heap.size 0 Pv := fun j v hv => by rw [hw6.cell (p := ⟨w'.heap.size, 0 + j, none⟩) hs5]; exact hpr5 j v hv
      have hag : ∀ X, (isAgg 38).run Try.prog X = .ok false X := fun X => by kernel_rfl
      refine s2lv (v := W) (u := .slice (some ⟨w5.drew.heap.size, 0, none⟩) 1 1) (w' := w5.drew.alloc (.cells (Value.int .i64 i :: Pv).toArray 74)) (a1 := ?_) ?_ ?_ ?_ ?_ hpr5 hpr6 ?_ ?_ ?_
      rotate_left 1
      · exact exec_load_cell _ _ ⟨d, 2, none⟩ W rfl hc2 hag
      · exact exec_one_slice _ 74 (.tmp 35) _ 65 rfl (by simp [hPl]) Try.underlying38 (by kernel_rfl) (by decide) (by decide)
      · exact exec_one_slice _ 74 (.tmp 35) _ 65 rfl (by simp [hPl]) Try.underlying38 (by kernel_rfl) (by decide) (by decide)
      · exact exec_load_cell _ _ ⟨d, 2, none⟩ W rfl hc6 hag
      · simp only [Act.put, List.setIfInBounds_toArray, List.set_cons_zero, List.set_cons_succ]; rfl
      · simp only [Act.put, List.setIfInBounds_toArray, List.set_cons_zero, List.set_cons_succ]
      have L6 := HL5.out.kept (Chg.of_new hw6) (fun _ _ h => h)
      have hrow : (w5.drew.alloc (.cells (Value.int .i64 i :: Pv).toArray 74)).heap[w5.drew.heap.size]? = some (.cells (Value.int .i64 i :: Pv).toArray 74 (0, 0)) := heap_alloc_new _ _
      have c06 := HC5.out.then (Chg.of_new hw6)
      obtain ⟨w6, hw6e⟩ : ∃ w6, w6 = w5.drew.alloc (.cells (Value.int .i64 i :: Pv).toArray 74) := ⟨_, rfl⟩
      rw [← hw6e] at hc6 hpr6 L6 hrow c06 ⊢
      have HL6 := Lib.hid L6
      have HC6 := Lib.hid c06
      clear hw6e hw6 L6 c06 hpr5 hc2 HC5 hag
      (repeat (first | ((with_reducible refine sq (v := ?_) (a' := ?_) ?_ ?_ ?_); rotate_left 2; (focus (intro w' hS; go_simp; (first | done | with_reducible rfl | rfl))); (simp only [Act.put, List.setIfInBounds_toArray, List.set_cons_zero, List.set_cons_succ]; rfl)) | ((with_reducible refine sn (a' := ?_) ?_ ?_ ?_); rotate_left; (focus rfl); (simp only [Act.put, List.setIfInBounds_toArray, List.set_cons_zero, List.set_cons_succ]; rfl)) | ((with_reducible refine sf trivial (a' := ?_) ?_ ?_ ?_); rotate_left; (focus rfl); (simp only [Act.put, List.setIfInBounds_toArray, List.set_cons_zero, List.set_cons_succ]; rfl)) | ((with_reducible refine sqg (v := ?_) (a' := ?_) ?_ ?_ ?_ ?_); rotate_left 2; (focus rfl); (focus (intro w' hS; go_simp; (first | done | with_reducible rfl | rfl))); (simp only [Act.put, List.setIfInBounds_toArray, List.set_cons_zero, List.set_cons_succ]; rfl)))); (repeat ((go_bits; (first | ((with_reducible refine sq (v := ?_) (a' := ?_) ?_ ?_ ?_); rotate_left 2; (focus (intro w' hS; go_simp; (first | done | with_reducible rfl | rfl))); (simp only [Act.put, List.setIfInBounds_toArray, List.set_cons_zero, List.set_cons_succ]; rfl)) | ((with_reducible refine sn (a' := ?_) ?_ ?_ ?_); rotate_left; (focus rfl); (simp only [Act.put, List.setIfInBounds_toArray, List.set_cons_zero, List.set_cons_succ]; rfl)) | ((with_reducible refine sf trivial (a' := ?_) ?_ ?_ ?_); rotate_left; (focus rfl); (simp only [Act.put, List.setIfInBounds_toArray, List.set_cons_zero, List.set_cons_succ]; rfl)) | ((with_reducible refine sqg (v := ?_) (a' := ?_) ?_ ?_ ?_ ?_); rotate_left 2; (focus rfl); (focus (intro w' hS; go_simp; (first | done | with_reducible rfl | rfl))); (simp only [Act.put, List.setIfInBounds_toArray, List.set_cons_zero, List.set_cons_succ]; rfl)))); (repeat (first | ((with_reducible refine sq (v := ?_) (a' := ?_) ?_ ?_ ?_); rotate_left 2; (focus (intro w' hS; go_simp; (first | done | with_reducible rfl | rfl))); (simp only [Act.put, List.setIfInBounds_toArray, List.set_cons_zero, List.set_cons_succ]; rfl)) | ((with_reducible refine sn (a' := ?_) ?_ ?_ ?_); rotate_left; (focus rfl); (simp only [Act.put, List.setIfInBounds_toArray, List.set_cons_zero, List.set_cons_succ]; rfl)) | ((with_reducible refine sf trivial (a' := ?_) ?_ ?_ ?_); rotate_left; (focus rfl); (simp only [Act.put, List.setIfInBounds_toArray, List.set_cons_zero, List.set_cons_succ]; rfl)) | ((with_reducible refine sqg (v := ?_) (a' := ?_) ?_ ?_ ?_ ?_); rotate_left 2; (focus rfl); (focus (intro w' hS; go_simp; (first | done | with_reducible rfl | rfl))); (simp only [Act.put, List.setIfInBounds_toArray, List.set_cons_zero, List.set_cons_succ]; rfl)))))); (try go_bits)
      refine se' fun K hK => ?_
      have hBs : B ≤ w6.heap.size := Nat.le_trans HL6.out.base (Nat.le_of_lt (Array.getElem?_eq_some_iff.1 HL6.out.cells).1)
      refine apv_wp (bytes := 72) Try.underlying38 (by kernel_rfl) (by decide) HL6.out.waits hBs ⟨w5.drew.heap.size, 0, none⟩ 1 1 (Value.int .i64 i :: Pv) (by simp [hPl]) ?_ ?_ (by show D.waits.length + 1 ≤ _; simp only [maxLen]; omega) (by show (D.waits.length + 1) * 72 ≤ _; omega) (.tmp 32) _ rfl rfl rfl ?_
      · intro j u hu
        rw [Addr.add_mid, Nat.zero_add, cell_of_row _ _ _ _ _ _ hrow, ← hu]; simp
      · intro u hu
        rcases List.mem_cons.1 hu with rfl | hu
        · rfl
        · rw [HP.out.1] at hu; obtain ⟨x, _, rfl⟩ := List.mem_map.1 hu; rfl
      intro v7 w7 o7 g7 hv7
      have c7 := Chg.of_grown g7
      have hWd : W.ownBlock ≠ some d := HL6.out.w0
      have hd7 : w7.heap[d]? = some (.cells #[S, .slice (some ⟨g, 0, none⟩) n c2', W] 40 (0, 0)) := by
        rw [c7.block d (Array.getElem?_eq_some_iff.1 HL6.out.cells).1 (fun h => hWd h.symm)]; exact HL6.out.cells
      have hpr7 : w7.rangeAt w'.heap.size 0 Pv := by
        intro j v hv
        have h1 := hpr6 j v hv
        rw [World.cell?_of_block (w := w6) (c7.block w'.heap.size (World.block_lt_of_cell? w6 _ h1) (fun h => by
          have h2 := HC.out.2.2.1 w'.heap.size (.inr (.inr (.inr h)))
          exact Nat.lt_irrefl _ h2))]
        exact h1
      refine hK _ _ hpr7 fun a'' ha => ?_
      clear hK
      simp only [Act.put, List.setIfInBounds_toArray, List.set_cons_zero, List.set_cons_succ] at ha
      subst ha
      (repeat (first | ((with_reducible refine sq (v := ?_) (a' := ?_) ?_ ?_ ?_); rotate_left 2; (focus (intro w' hS; go_simp; (first | done | with_reducible rfl | rfl))); (simp only [Act.put, List.setIfInBounds_toArray, List.set_cons_zero, List.set_cons_succ]; rfl)) | ((with_reducible refine sn (a' := ?_) ?_ ?_ ?_); rotate_left; (focus rfl); (simp only [Act.put, List.setIfInBounds_toArray, List.set_cons_zero, List.set_cons_succ]; rfl)) | ((with_reducible refine sf trivial (a' := ?_) ?_ ?_ ?_); rotate_left; (focus rfl); (simp only [Act.put, List.setIfInBounds_toArray, List.set_cons_zero, List.set_cons_succ]; rfl)) | ((with_reducible refine sqg (v := ?_) (a' := ?_) ?_ ?_ ?_ ?_); rotate_left 2; (focus rfl); (focus (intro w' hS; go_simp; (first | done | with_reducible rfl | rfl))); (simp only [Act.put, List.setIfInBounds_toArray, List.set_cons_zero, List.set_cons_succ]; rfl)))); (repeat ((go_bits; (first | ((with_reducible refine sq (v := ?_) (a' := ?_) ?_ ?_ ?_); rotate_left 2; (focus (intro w' hS; go_simp; (first | done | with_reducible rfl | rfl))); (simp only [Act.put, List.setIfInBounds_toArray, List.set_cons_zero, List.set_cons_succ]; rfl)) | ((with_reducible refine sn (a' := ?_) ?_ ?_ ?_); rotate_left; (focus rfl); (simp only [Act.put, List.setIfInBounds_toArray, List.set_cons_zero, List.set_cons_succ]; rfl)) | ((with_reducible refine sf trivial (a' := ?_) ?_ ?_ ?_); rotate_left; (focus rfl); (simp only [Act.put, List.setIfInBounds_toArray, List.set_cons_zero, List.set_cons_succ]; rfl)) | ((with_reducible refine sqg (v := ?_) (a' := ?_) ?_ ?_ ?_ ?_); rotate_left 2; (focus rfl); (focus (intro w' hS; go_simp; (first | done | with_reducible rfl | rfl))); (simp only [Act.put, List.setIfInBounds_toArray, List.set_cons_zero, List.set_cons_succ]; rfl)))); (repeat (first | ((with_reducible refine sq (v := ?_) (a' := ?_) ?_ ?_ ?_); rotate_left 2; (focus (intro w' hS; go_simp; (first | done | with_reducible rfl | rfl))); (simp only [Act.put, List.setIfInBounds_toArray, List.set_cons_zero, List.set_cons_succ]; rfl)) | ((with_reducible refine sn (a' := ?_) ?_ ?_ ?_); rotate_left; (focus rfl); (simp only [Act.put, List.setIfInBounds_toArray, List.set_cons_zero, List.set_cons_succ]; rfl)) | ((with_reducible refine sf trivial (a' := ?_) ?_ ?_ ?_); rotate_left; (focus rfl); (simp only [Act.put, List.setIfInBounds_toArray, List.set_cons_zero, List.set_cons_succ]; rfl)) | ((with_reducible refine sqg (v := ?_) (a' := ?_) ?_ ?_ ?_ ?_); rotate_left 2; (focus rfl); (focus (intro w' hS; go_simp; (first | done | with_reducible rfl | rfl))); (simp only [Act.put, List.setIfInBounds_toArray, List.set_cons_zero, List.set_cons_succ]; rfl)))))); (try go_bits)
      obtain ⟨A7, c7', hv7e, -, -, -, -⟩ := o7.slice
      have hcell7 : w7.cell? ⟨d, 2, none⟩ = some W := by rw [cell_of_row _ _ _ _ _ _ hd7]; rfl
      have hfz7 : w7.frozen? ⟨d, 2, none⟩ = false := frozen_of_row _ _ _ _ _ hd7
      have HO7 := Lib.hid (And.intro o7 (And.intro g7 (And.intro hv7 c7)))
      clear o7 g7 hv7 c7
      have HV7 := Lib.hid hv7e
      rw [hv7e]
      clear hv7e
      refine se' fun K hK => ?_
      go_simp
      have hne : w'.heap.size ≠ d := by omega
      refine hK _ _ ?_ fun a'' ha => ?_
      · intro j v hv
        have h1 := hpr7 j v hv
        rw [← h1]
        exact World.cell?_of_block (Below.heap_setCell _ _ _ _ hne)
      clear hK
      try (simp only [Act.put, List.setIfInBounds_toArray, List.set_cons_zero, List.set_cons_succ] at ha)
      subst ha
      refine sl_end ?_
      go_wp2
      go_ret
      have e7 := HV7.out
      refine ⟨rfl, blocks d S (.slice (some ⟨g, 0, none⟩) n c2') v7, ?_, ?_, ?_⟩
      · have hv7d : v7.ownBlock ≠ some d := by
          rcases HO7.out.2.2.1 with h2 | h2
          · rw [h2]; exact HL6.out.w0
          · rw [h2]
            intro h
            injection h with h
            have := (Array.getElem?_eq_some_iff.1 HL6.out.cells).1
            omega
        have hgr : v7.ownBlock = W.ownBlock ∨ ∃ g, v7.ownBlock = some g ∧ w6.heap.size ≤ g := HO7.out.2.2.1.imp id fun h => ⟨_, h, Nat.le_refl _⟩
        have e8 : (w7.setCell ⟨d, 2, none⟩ (.slice A7 (D.waits.length + 1) c7')) = w7.setCell ⟨d, 2, none⟩ v7 := by rw [e7]
        rw [e8]
        refine ⟨S, _, v7, ⟨?_, HL6.out.base, ?_, ?_, ?_, HL6.out.s0, HL6.out.e0, hv7d, HL6.out.se, ?_, ?_, ?_⟩, fun k => Iff.rfl⟩
        · exact heap_setCell_same w7 d 2 #[S, .slice (some ⟨g, 0, none⟩) n c2', W] 40 v7 hd7
        · exact (HL6.out.sure.kept HO7.out.2.2.2 (fun k hk h => HL6.out.sw k h.symm hk)).kept (Chg.setCell w7 ⟨d, 2, none⟩ v7) (fun k hk h => HL6.out.s0 (by rw [hk]; exact congrArg some h))
        · have h9 := (HL6.out.seen.kept HO7.out.2.2.2 (fun k hk h => HL6.out.ew k h.symm hk)).kept (Chg.setCell w7 ⟨d, 2, none⟩ v7) (fun k hk h => HL6.out.e0 (by rw [hk]; exact congrArg some h))
          show RowV _ _ _ _ _ (D.seen.set (i : Int).toNat (pad b)).length (pcs (D.seen.set (i : Int).toNat (pad b)))
          rw [Int.toNat_natCast, ← HP.out.2.2]
          exact h9
        · have h := HO7.out.1.kept (Chg.setCell w7 ⟨d, 2, none⟩ v7) (fun k hk h => hv7d (by rw [hk]; exact congrArg some h))
          show RowV _ _ _ _ _ (D.waits ++ [((i : Int), pad b)]).length (wcs (D.waits ++ [((i : Int), pad b)]))
          rw [wcs_append, List.length_append, ← HP.out.2.2, ← HP.out.1]
          exact h
        · exact HL6.out.sw.grow hgr (fun g hg => (HL6.out.sure.lt g hg).2)
        · exact HL6.out.ew.grow hgr (fun g hg => (HL6.out.seen.lt g hg).2)
        · exact H.out.ok.write (by rw [← HNn.out]; exact hx) (by rw [← HP.out.2.2]; exact HP.out.2.1)
      · refine ((HC6.out.then HO7.out.2.2.2).then (Chg.setCell w7 ⟨d, 2, none⟩ _)).mono fun k hk h => ?_
        rcases h with (h | h) | h
        · rcases h with (h | h) | h
          · omega
          · exact (HC.out.2.1 _).2 (.inr (.inr (.inl (by rw [h]; rfl))))
          · exact h.elim
        · exact (HC.out.2.1 _).2 (.inr (.inr (.inr h)))
        · exact (HC.out.2.1 _).2 (.inl h)
      · intro k hk
        rcases hk with rfl | h | h | h
        · exact .inl ((HC.out.2.1 _).2 (.inl rfl))
        · exact .inl ((HC.out.2.1 _).2 (.inr (.inl h)))
        · exact .inl ((HC.out.2.1 _).2 (.inr (.inr (.inl h))))
        · rcases HO7.out.2.2.1 with h2 | h2
          · rw [h2] at h; exact .inl ((HC.out.2.1 _).2 (.inr (.inr (.inr h))))
          · rw [h2] at h; injection h with h
            have := HC6.out.size
            exact .inr (by omega)
  · have hm : mayOk D.seen.length x = 1 := by unfold mayOk; rw [if_neg hx]
    have hc : writeCode D.seen.length x b = 1 := by unfold writeCode; rw [if_pos (.inl hm)]
    rw [hc]
    clear hc
    go_enter Try.func22, Try.ntmps22
    go_wp2_with fail
    refine (may H.out x).mono ?_
    rw [hm]
    clear hm
    rintro e w' ⟨rfl, h⟩
    subst h
    go_wp2
    go_ret
    exact ⟨rfl, F, H.out, Chg.refl _ _, fun k hk => .inl hk⟩
end Go.Proofs.Ytmpkoacpakepfaa.Disk
