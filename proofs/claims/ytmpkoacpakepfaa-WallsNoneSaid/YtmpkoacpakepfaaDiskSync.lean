/- A disk is made sure. -/
import Derived.Test.YtmpkoacpakepfaaDisk
namespace Go.Proofs.Ytmpkoacpakepfaa.Disk
open Go.RowKit Base Own OwnV Bytes

def Dk.sync (D : Dk) : Dk := ⟨D.seen, D.seen, []⟩
theorem Dk.ok.sync {D : Dk} (h : D.ok) : D.sync.ok := ⟨rfl, h.pos, h.most, h.seen, h.seen, fun x hx => by simp [Dk.sync] at hx⟩
theorem pcs_one {l : List (List Int)} : ∀ v ∈ pcs l, v.oneCell' = true := fun v hv => by unfold pcs at hv; obtain ⟨x, _, rfl⟩ := List.mem_map.1 hv; rfl

set_option maxHeartbeats 1000000 in
set_option maxRecDepth 100000 in
theorem sync {w : World} {B d : Nat} {F : Nat → Prop} {D : Dk} (h : Disk w B d F D) :
    Calls Try.prog 27 #[.pointer (some ⟨d, 0, none⟩)] w fun e w' => e = .returned (.int .i64 0) ∧ ∃ F', Disk w' B d F' D.sync ∧ Chg F w w' ∧ ∀ k, F' k → F k := by
  have H := Lib.hid h
  obtain ⟨S, E, W, L, hF⟩ := h
  have hsz := size H.out
  have hpos := L.ok.pos
  obtain ⟨n, hn⟩ : ∃ n, n = D.seen.length := ⟨_, rfl⟩
  have hs := L.sure
  have he := L.seen
  rw [L.ok.same] at hs
  rw [← hn] at hsz hpos hs he
  obtain ⟨A1, c1, rfl, -, -, hA1, hA1'⟩ := hs.slice
  obtain ⟨A2, c2, rfl, -, -, hA2, hA2'⟩ := he.slice
  cases A1 with
  | none => have := hA1 rfl; omega
  | some a1 =>
  cases A2 with
  | none => have := hA2 rfl; omega
  | some a2 =>
  obtain ⟨g1, rfl, hB1, hg1, hr1, ht1⟩ := hA1' _ rfl
  obtain ⟨g2, rfl, hB2, hg2, hr2, ht2⟩ := hA2' _ rfl
  have hc0 := L.cell.1
  have hc1 := L.cell.2.1
  have hz : ((n : Int) == 0) = false := by rw [beq_eq_false_iff_ne]; omega
  have hg1d : g1 ≠ d := fun e => L.s0 (by rw [← e]; rfl)
  have HL := Lib.hid (And.intro L (And.intro hF hn))
  have HX := Lib.hid (And.intro hr2 ht1)
  have HZ := Lib.hid hsz
  have hlen : (pcs D.seen).length = n * 64 := by rw [pcs_length L.ok.seen, ← hn]
  have HLEN := Lib.hid hlen
  clear L hF hn hs he hA1 hA1' hA2 hA2' hr1 hr2 ht1 ht2 hsz hlen
  go_enter Try.func27, Try.ntmps27
  go_wp2_with fail
  refine HZ.out.mono ?_
  rintro e w' ⟨rfl, h⟩
  subst h
  go_wp2
  refine wp_region_sl [.one (0, true, some 6), .one (1, true, some 7), .one (2, true, some 8), .one (3, true, some 9), .one (4, true, some 10), .one (5, true, some 11), .one (6, true, some 12), .one (7, true, some 13), .one (8, false, some 14)]
                [.one ⟨true, some 6, (Go.Op.move (Go.Operand.tmp 0)), 24, none⟩,
                .one ⟨true, some 7, (Go.Op.nilCheck (Go.Operand.tmp 6)), 0, none⟩,
                .one ⟨true, some 8, (Go.Op.fieldAddr 40 (Go.Operand.tmp 7) 0), 0, none⟩,
                .one ⟨true, some 9, (Go.Op.load 37 (Go.Operand.tmp 8)), 37, none⟩,
                .one ⟨true, some 10, (Go.Op.move (Go.Operand.tmp 0)), 24, none⟩,
                .one ⟨true, some 11, (Go.Op.nilCheck (Go.Operand.tmp 10)), 0, none⟩,
                .one ⟨true, some 12, (Go.Op.fieldAddr 40 (Go.Operand.tmp 11) 1), 0, none⟩,
                .one ⟨true, some 13, (Go.Op.load 37 (Go.Operand.tmp 12)), 37, none⟩,
                .one ⟨false, some 14, (Go.Op.call { callee := (Go.Callee.builtin Go.Builtin.copy), args := #[(Go.Operand.tmp 9), (Go.Operand.tmp 13)], argTypes := #[37, 37] }), 3, none⟩]
                (fun w3 => w3.cell? ⟨d, 0, none⟩ = some (.slice (some ⟨g1, 0, none⟩) n c1) ∧ w3.cell? ⟨d, 1, none⟩ = some (.slice (some ⟨g2, 0, none⟩) n c2)) rfl (by kernel_rfl) (by kernel_rfl) ?_ ?_
  · exact ⟨hc0, hc1⟩
  (repeat (first | ((with_reducible refine sq (v := ?_) (a' := ?_) ?_ ?_ ?_); rotate_left 2; (focus (intro w' hS; go_simp; (first | done | with_reducible rfl | rfl))); (simp only [Act.put, List.setIfInBounds_toArray, List.set_cons_zero, List.set_cons_succ]; rfl)) | ((with_reducible refine sn (a' := ?_) ?_ ?_ ?_); rotate_left; (focus rfl); (simp only [Act.put, List.setIfInBounds_toArray, List.set_cons_zero, List.set_cons_succ]; rfl)) | ((with_reducible refine sf trivial (a' := ?_) ?_ ?_ ?_); rotate_left; (focus rfl); (simp only [Act.put, List.setIfInBounds_toArray, List.set_cons_zero, List.set_cons_succ]; rfl)) | ((with_reducible refine sqg (v := ?_) (a' := ?_) ?_ ?_ ?_ ?_); rotate_left 2; (focus rfl); (focus (intro w' hS; go_simp; (first | done | with_reducible rfl | rfl))); (simp only [Act.put, List.setIfInBounds_toArray, List.set_cons_zero, List.set_cons_succ]; rfl)))); (repeat ((go_bits; (first | ((with_reducible refine sq (v := ?_) (a' := ?_) ?_ ?_ ?_); rotate_left 2; (focus (intro w' hS; go_simp; (first | done | with_reducible rfl | rfl))); (simp only [Act.put, List.setIfInBounds_toArray, List.set_cons_zero, List.set_cons_succ]; rfl)) | ((with_reducible refine sn (a' := ?_) ?_ ?_ ?_); rotate_left; (focus rfl); (simp only [Act.put, List.setIfInBounds_toArray, List.set_cons_zero, List.set_cons_succ]; rfl)) | ((with_reducible refine sf trivial (a' := ?_) ?_ ?_ ?_); rotate_left; (focus rfl); (simp only [Act.put, List.setIfInBounds_toArray, List.set_cons_zero, List.set_cons_succ]; rfl)) | ((with_reducible refine sqg (v := ?_) (a' := ?_) ?_ ?_ ?_ ?_); rotate_left 2; (focus rfl); (focus (intro w' hS; go_simp; (first | done | with_reducible rfl | rfl))); (simp only [Act.put, List.setIfInBounds_toArray, List.set_cons_zero, List.set_cons_succ]; rfl)))); (repeat (first | ((with_reducible refine sq (v := ?_) (a' := ?_) ?_ ?_ ?_); rotate_left 2; (focus (intro w' hS; go_simp; (first | done | with_reducible rfl | rfl))); (simp only [Act.put, List.setIfInBounds_toArray, List.set_cons_zero, List.set_cons_succ]; rfl)) | ((with_reducible refine sn (a' := ?_) ?_ ?_ ?_); rotate_left; (focus rfl); (simp only [Act.put, List.setIfInBounds_toArray, List.set_cons_zero, List.set_cons_succ]; rfl)) | ((with_reducible refine sf trivial (a' := ?_) ?_ ?_ ?_); rotate_left; (focus rfl); (simp only [Act.put, List.setIfInBounds_toArray, List.set_cons_zero, List.set_cons_succ]; rfl)) | ((with_reducible refine sqg (v := ?_) (a' := ?_) ?_ ?_ ?_ ?_); rotate_left 2; (focus rfl); (focus (intro w' hS; go_simp; (first | done | with_reducible rfl | rfl))); (simp only [Act.put, List.setIfInBounds_toArray, List.set_cons_zero, List.set_cons_succ]; rfl)))))); (try go_bits)
  refine se' fun K hK => ?_
  refine wp_copy_v (.tmp 9) (.tmp 13) _ _ 72 64 g1 0 n c1 ⟨g2, 0, none⟩ n c2 n (pcs D.seen) rfl rfl rfl Try.underlying37 (by kernel_rfl) (by simp) HLEN.out ?_ ?_ pcs_one ?_
  · intro j v hv
    rw [Addr.add_mid]; exact HX.out.1 j v hv
  · rw [HLEN.out]; exact HX.out.2
  have c5 : Chg (fun k => k = g1) w' (w'.drew.setCells g1 0 (pcs D.seen)) := ((Chg.drew w').mono (fun k _ h => h.elim)).trans (chg_setCells g1 _ _ _) (fun _ _ h => h)
  have hg12 : g1 ≠ g2 := fun e => HL.out.1.se (by rw [e]; rfl)
  have L5 : Lies (w'.drew.setCells g1 0 (pcs D.seen)) B d (.slice (some ⟨g1, 0, none⟩) n c1) (.slice (some ⟨g2, 0, none⟩) n c2) W { D with sure := D.seen } := by
    have hs := HL.out.1.sure.kept (Chg.drew w') (fun _ _ h => h)
    rw [HL.out.1.ok.same, ← HL.out.2.2] at hs
    have h2 := hs.set 0 (pcs D.seen) (by rw [HLEN.out]; omega)
    have e : splice (pcs D.sure) 0 (pcs D.seen) = pcs D.seen := by
      unfold splice
      rw [List.take_zero, List.nil_append, List.drop_eq_nil_of_le (by rw [pcs_length HL.out.1.ok.sure, HL.out.1.ok.same, ← HL.out.2.2, HLEN.out]; omega), List.append_nil]
    rw [e] at h2
    exact ⟨by rw [c5.block d (Array.getElem?_eq_some_iff.1 HL.out.1.cells).1 (Ne.symm hg1d)]; exact HL.out.1.cells, HL.out.1.base, by show RowV _ _ _ _ _ D.seen.length (pcs D.seen); rw [← HL.out.2.2]; exact h2,
      HL.out.1.seen.kept c5 (fun k hk h => HL.out.1.se (by rw [hk, h]; rfl)), HL.out.1.waits.kept c5 (fun k hk h => HL.out.1.sw k hk (by rw [h]; rfl)), HL.out.1.s0, HL.out.1.e0, HL.out.1.w0, HL.out.1.se, HL.out.1.sw, HL.out.1.ew,
      ⟨rfl, HL.out.1.ok.pos, HL.out.1.ok.most, HL.out.1.ok.seen, HL.out.1.ok.seen, HL.out.1.ok.waits⟩⟩
  refine hK _ _ ⟨L5.cell.1.trans (by rw [HL.out.2.2]), L5.cell.2.1.trans (by rw [HL.out.2.2])⟩ fun a'' ha => ?_
  obtain ⟨w5, hw5⟩ : ∃ w5, w5 = w'.drew.setCells g1 0 (pcs D.seen) := ⟨_, rfl⟩
  rw [← hw5] at c5 L5 ⊢
  have hc2 := L5.cell.2.2
  have hf2 : w5.frozen? ⟨d, 2, none⟩ = false := frozen_of_row _ _ _ _ _ L5.cells
  have H5 := Lib.hid (And.intro c5 L5)
  clear hK hw5 c5 L5 hc0 hc1
  try (simp only [Act.put, List.setIfInBounds_toArray, List.set_cons_zero, List.set_cons_succ] at ha)
  subst ha
  refine sl_end ?_
  go_wp2
  go_ret
  refine ⟨rfl, blocks d (.slice (some ⟨g1, 0, none⟩) n c1) (.slice (some ⟨g2, 0, none⟩) n c2) (.slice none 0 0), ⟨_, _, _, ⟨?_, H5.out.2.base, ?_, ?_, RowV.nil _ _ _ _, H5.out.2.s0, H5.out.2.e0, ?_, H5.out.2.se, Sep.nil _, Sep.nil _, H.out.ok.sync⟩, fun k => Iff.rfl⟩, ?_, ?_⟩
  · exact heap_setCell_same w5 d 2 _ 40 _ H5.out.2.cells
  · exact H5.out.2.sure.kept (Chg.setCell w5 ⟨d, 2, none⟩ (.slice none 0 0)) (fun k hk h => H5.out.2.s0 (by rw [hk]; exact congrArg some h))
  · exact H5.out.2.seen.kept (Chg.setCell w5 ⟨d, 2, none⟩ (.slice none 0 0)) (fun k hk h => H5.out.2.e0 (by rw [hk]; exact congrArg some h))
  · intro e; simp [Value.ownBlock] at e
  · refine (H5.out.1.then (Chg.setCell w5 ⟨d, 2, none⟩ _)).mono fun k hk h => ?_
    rcases h with h | h
    · exact (HL.out.2.1 _).2 (.inr (.inl (by rw [h]; rfl)))
    · exact (HL.out.2.1 _).2 (.inl h)
  · intro k hk
    rcases hk with h | h | h | h
    · exact (HL.out.2.1 _).2 (.inl h)
    · exact (HL.out.2.1 _).2 (.inr (.inl h))
    · exact (HL.out.2.1 _).2 (.inr (.inr (.inl h)))
    · simp [Value.ownBlock] at h
end Go.Proofs.Ytmpkoacpakepfaa.Disk
