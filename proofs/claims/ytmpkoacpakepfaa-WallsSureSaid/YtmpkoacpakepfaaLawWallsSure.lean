/- The row of WallsSure, over its walk. -/
import Derived.Test.YtmpkoacpakepfaaRows
import Derived.Test.YtmpkoacpakepfaaLWallsSure
import Derived.Test.YtmpkoacpakepfaaRow
import Derived.Test.YtmpkoacpakepfaaRs
import Derived.WalkKit
import Derived.ProofKit
import Derived.OpenShut
import Derived.ShutString
import Derived.ChangeOld
import Derived.Below
import Derived.SizedLaws
import Derived.KernelRfl
namespace Go.Proofs.Ytmpkoacpakepfaa.wallsSure
open Go.ChangeShapes Go.WideShapes Go.ChangeAt Go.RowKit Base
open Go.ChangeMaps (open_string shut_string)
theorem own : ownKnob Try.prog.godebug = none := by kernel_rfl
theorem laidOut : laidOutB Try.prog = true := by kernel_rfl
set_option maxRecDepth 100000 in
theorem lifted (os : Os) (started : os.Started) (H : Type) (enc : TypeId × Value → H) :
    ReturnsInHanded {} Try.checked os 4 .any (Rows.wallsSureSpec.pre6 enc Try.prog Try.f4 Rows.wallsSureRow.domain false) (Rows.wallsSureSpec.post enc Try.prog Try.f4 false true false false) := by
  refine returnsInHanded_of_change_sized (C := Try.checked) own started (by kernel_rfl) Try.func4
    (ChangeSpec.witness6 (enc := enc) (C := Try.checked) false ⟨#[], #[.agg #[.slice none 0 0, .int .u8 0, .int .u64 0, .int .u8 0], .slice none 0 0], []⟩ 8 (by kernel_rfl) (by kernel_rfl) (by kernel_rfl) (by kernel_rfl)) ?_
  intro W base args ds gs before hval0 hW hcnd hsz0 _
  have hsz : (DataW.weightsEach Try.prog (Try.f4.params.toList ++ Rows.wallsSureSpec.plain.varTypes Try.prog) (ds ++ gs)).all (· ≤ reachBytes) = true := hsz0
  have hval : ∀ (j : Nat) t v, Try.f4.params[j]? = some t → args[j]? = some v → Value.okWide Try.prog W .any base t v := hval0
  have hW' := hW
  obtain ⟨p, q, hA0, hV, rfl, hfz, hnd⟩ := hW
  have hA : DataW.TrodAll enc Try.prog W 0 (fun _ => true) true Try.f4.params.toList args.toList ds p := hA0
  rw [Try.params4] at hA hval hsz
  obtain ⟨v0, vs0, d0, ds0, p0, q0, hargs, rfl, rfl, h0, r0⟩ := trodAll_cons hA
  obtain ⟨v1, vs1, d1, ds1, p1, q1, rfl, rfl, rfl, h1, r1⟩ := trodAll_cons r0
  obtain ⟨rfl, rfl, rfl⟩ := trodAll_nil r1
  obtain rfl : args = #[v0, v1] := by cases args; simp_all
  obtain ⟨rfl, rfl⟩ := trodVars_none hV
  obtain ⟨cs0, rfl⟩ := Rdr.okWide_agg (.inl ⟨_, Try.underlying44⟩) (hval 0 44 v0 rfl rfl)
  have k0 := h0
  have lt0 : ∀ x ∈ p0, x.block < W.heap.size := by obtain ⟨m, hm⟩ := k0; exact DataW.trod_lt m _ _ _ hm
  obtain ⟨x0, g0, z0⟩ := Rdr.ofS_agg_arg (r := (Rdr.pair (Rdr.sl (Rdr.sl (Rdr.int .u8))) (Rdr.pair (Rdr.int .u8) (Rdr.pair (Rdr.int .u64) (Rdr.pair (Rdr.int .u8) Rdr.unit))))) hsz (j := 0) (t := 44) rfl rfl (Rdr.ofS_st Try.underlying44 (by kernel_rfl) (Rdr.ofFS_cons rfl (Rdr.ofS_sl Try.underlying34 (by kernel_rfl) (Rdr.ofS_sl Try.underlying22 (by kernel_rfl) (Rdr.ofS (Rdr.of_int Try.underlying5 (by kernel_rfl))) (B := 1) (by kernel_rfl) (by decide)) (B := 24) (by kernel_rfl) (by decide)) (Rdr.ofFS_cons rfl (Rdr.ofS (Rdr.of_int Try.underlying5 (by kernel_rfl))) (Rdr.ofFS_cons rfl (Rdr.ofS (Rdr.of_int Try.underlying42 (by kernel_rfl))) (Rdr.ofFS_cons rfl (Rdr.ofS (Rdr.of_int Try.underlying5 (by kernel_rfl))) (Rdr.ofFS_nil _)))))) h0
  obtain ⟨a1, len1, cap1, rfl⟩ := okWide_slice Try.underlying22 (hval 1 22 v1 rfl rfl)
  have k1 := h1
  have lt1 : ∀ x ∈ p1, x.block < W.heap.size := by obtain ⟨m, hm⟩ := k1; exact DataW.trod_lt m _ _ _ hm
  obtain ⟨z1, w1⟩ : ∃ zs, IsRow .u8 W a1 len1 cap1 zs := by
    obtain ⟨fuel, hf⟩ := h1
    rcases open_ints Try.underlying22 Try.underlying5 (by kernel_rfl) hf with ⟨hcs, _⟩ | ⟨x, l, c, zs, hcs, _, hl, hm, hz, _, hcell, hwz⟩
    · simp [Value.cells] at hcs
      obtain ⟨rfl, rfl, rfl⟩ := hcs
      exact ⟨[], .inl ⟨rfl, rfl, rfl, rfl⟩⟩
    · simp [Value.cells] at hcs
      obtain ⟨rfl, rfl, rfl⟩ := hcs
      exact ⟨zs, .inr ⟨_, rfl, hl, hm, by simpa using hz, hcell, hwz⟩⟩
  have y1 : len1 ≤ 140737488351232 := sized_row hsz (j := 1) (t := 22) (B := 1) rfl rfl Try.underlying22 Try.underlying5 (by kernel_rfl) (by kernel_rfl) (by decide) h1
  obtain ⟨l1, rfl, c1, m1, f1, g1⟩ := w1.reads
  clear hA0 hval0 hsz0 hsz
  refine (Pl.WallsSure_law cs0 x0 a1 cap1 l1 W g0 z0 c1 m1 y1 f1 g1).mono fun e W' ⟨he, bel⟩ => ?_
  subst he
  exact ⟨_, rfl, _, _, _, [], _, [], hW', trodAll_mk1 (shut_bool Try.underlying4 _), (trodAll_cons_mk (Below.trod laidOut (by kernel_rfl) (of_decide_eq_true (by kernel_rfl)) k0 bel lt0) (trodAll_cons_mk (Below.trod laidOut (by kernel_rfl) (of_decide_eq_true (by kernel_rfl)) k1 bel lt1) trodAll_mk0)), rfl, bel.frame _, fun h => by cases h⟩
theorem over : Rows.wallsSureRow.holds Try.pinned (OpenSpec.ofChange Rows.wallsSureSpec) :=
  OpenClaim.holds_of_wide 4 Try.f4 rfl rfl rfl rfl rfl rfl rfl ⟨rfl, rfl, rfl, rfl, rfl⟩ rfl rfl rfl rfl rfl (by kernel_rfl) Try.func4 (by kernel_rfl)
    (of_decide_eq_true (by kernel_rfl)) (by unfold Func.isWrapper; first | (rw [if_pos (by decide +kernel)]; kernel_rfl) | (rw [if_neg (by decide +kernel)]; exact ⟨rfl, rfl⟩))
    (fun os started H enc _ => lifted os started H enc)
theorem proved : Rows.WallsSureSaid := over
end Go.Proofs.Ytmpkoacpakepfaa.wallsSure
namespace Go.Proofs.Ytmpkoacpakepfaa
/-- The row, under a short name, for the claim. -/
theorem wallsSure_holds : Rows.WallsSureSaid := wallsSure.proved
#print axioms wallsSure_holds
end Go.Proofs.Ytmpkoacpakepfaa
