/- The twin of a list, and whether it was left as it was. -/
import Derived.Test.YtifbmhlnkjcmhaaProg
import Derived.Test.YtifbmhlnkjcmhaaOwn
import Derived.ProofKit
import Derived.OpenShut
import Derived.KernelRfl
import Derived.Lib.Hide
import Derived.Deep.LoopGhost
import Derived.Deep.QuietTactic
import Derived.BigQuiet
namespace Go.Proofs.Ytifbmhlnkjcmhaa.TwinBytes
open Go.RowKit Base Own

/-- A row of the call's own with one number more behind it. -/
def Twn (w : World) (B : Nat) (v : Value) (l : List Int) : Prop :=
  ∃ g c, v = .slice (some ⟨g, 0, none⟩) l.length c ∧ OwnI .u8 w B 5 (.slice (some ⟨g, 0, none⟩) (l.length + 1) c) (l ++ [77])
theorem Twn.new {w w' : World} {B : Nat} {v : Value} {l : List Int} (h : Twn w B v l) (hb : Below w.heap.size w w') : Twn w' B v l := by
  obtain ⟨g, c, h1, h2⟩ := h
  exact ⟨g, c, h1, h2.new hb⟩
theorem Twn.lower {w : World} {B B' : Nat} {v : Value} {l : List Int} (h : Twn w B v l) (hB : B' ≤ B) : Twn w B' v l := by
  obtain ⟨g, c, h1, h2⟩ := h
  exact ⟨g, c, h1, h2.lower hB⟩
theorem Twn.reads {w : World} {B : Nat} {v : Value} {l : List Int} (h : Twn w B v l) : ∃ g c, v = .slice (some ⟨g, 0, none⟩) l.length c ∧ l.length < c ∧ B ≤ g ∧ g < w.heap.size ∧ Rd .u8 w (some ⟨g, 0, none⟩) l := by
  obtain ⟨g, c, h1, h2⟩ := h
  have h3 := h2.cell (j := l.length) (by simp)
  obtain ⟨A, c', e, _, _, hr, _⟩ := h2.slice
  injection e with e1 e2 e3
  subst e1
  have := hr.take l.length
  rw [List.take_left] at this
  exact ⟨g, c, h1, by omega, h3.2.2.1, h3.2.2.2.1, this⟩
theorem tyB : RowTy Try.prog 22 5 .u8 := ⟨Try.underlying22, 1, by decide, by kernel_rfl⟩
theorem info1 : (Try.prog.info? 5).map (·.size) = some 1 := by kernel_rfl
theorem mk0 (n : Nat) (hn : n ≤ 1000000000000) : ∀ W : World, (Instr.makeSlice 22 (.int .i64 0) (.int .i64 ((n : Int) + 1))).run Try.prog W = .ok (.slice (some ⟨W.heap.size, 0, none⟩) 0 (n + 1)) (W.alloc (.cells (madeCells #[.int .u8 0] (n + 1)) 5)) := by
  intro W
  obtain ⟨i, hi, hzz⟩ := Option.map_eq_some_iff.1 (show (Try.prog.info? 5).map (fun i => (i.zero, i.size, i.bytes)) = some (some (.int .u8 0), 1, 1) by kernel_rfl)
  simp only [Prod.mk.injEq] at hzz
  obtain ⟨hz0, hs, hby⟩ := hzz
  have h := run_make (P := Try.prog) W 22 5 i (.int .u8 0) Try.underlying22 hi hz0 .i64 .i64 0 ((n : Int) + 1) (by omega) (by omega) (by rw [hby]; omega) (by omega)
  rw [h, hs]
  simp only [Int.toNat_zero]
  have : ((n : Int) + 1).toNat = n + 1 := by omega
  rw [this, Nat.mul_one]
  rfl

set_option maxRecDepth 100000 in
theorem twin (A : Option Addr) (c : Nat) (l : List Int) (w : World) (hl : l.length ≤ 100000000000) (hr : Rd .u8 w A l) :
    Calls Try.prog 12 #[.slice A l.length c] w fun e w' => ∃ v, e = .returned v ∧ Twn w' w.heap.size v l ∧ Below w.heap.size w w' := by
  have HR := Lib.hid hr
  clear hr
  have hmk := mk0 l.length (by omega)
  go_enter Try.func12, Try.ntmps12
  go_wp2
  go_loopw [3, 4] (fun v i wr => ∃ k : Nat, k ≤ l.length ∧ i = .int .i64 k ∧ Hid (OwnI .u8 wr w.heap.size 5 v (l.take k)) ∧ Hid (Below w.heap.size w wr)) (fun _ i _ => l.length - (intOf i).toNat)
  case atStart =>
    refine ⟨0, by omega, rfl, ?_, (Below.refl _ _).alloc (Nat.le_refl _) _⟩
    exact World.ownsRow_made w _ (l.length + 1) (Nat.le_refl _) (by unfold maxLen; omega) (by rw [size_madeCells]; omega)
  case round =>
    clear hmk
    obtain ⟨k, hk, rfl, hown, hbd⟩ := hrel
    by_cases hlt : k < l.length
    · obtain ⟨ad, e, hb, hcell⟩ := (HR.out.below hbd.out).cell hlt
      subst e
      obtain ⟨y, hy⟩ : ∃ y, y = l.getD k 0 := ⟨_, rfl⟩
      rw [← hy] at hcell
      have HY := Lib.hid hy
      clear hy
      go_wp2_with (at_builtin; refine ap_lit rfl tyB hbd.out hown.out [y] rfl (by simp; omega) (.tmp 15) _ 1 1 rfl rfl rfl rfl ?_; clear hown hbd hcell hb; intro v2 w2 own2 bd2 _ _; have H2 := Lib.hid (And.intro own2 bd2); clear own2 bd2)
      go_roundw
      case rel =>
        refine ⟨k + 1, by omega, by go_num, ?_, H2.out.2⟩
        have h1 := H2.out.1
        rw [HY.out] at h1
        have : l.take (k + 1) = l.take k ++ [l.getD k 0] := by rw [List.take_succ_eq_append_getElem hlt, List.getD_eq_getElem?_getD, List.getElem?_eq_getElem hlt]; rfl
        rw [this]
        exact h1
      case measure => simp [intOf]; omega
    · obtain rfl : k = l.length := by omega
      have hown' := hown.out
      rw [List.take_length] at hown'
      have HO := Lib.hid hown'
      clear hown hown'
      go_wp2_with (at_builtin; refine ap_lit rfl tyB hbd.out HO.out [77] rfl (by simp; omega) (.tmp 22) _ 1 1 rfl rfl rfl rfl ?_; clear HO hbd; intro v2 w2 own2 bd2 _ _; obtain ⟨g, cc, rfl⟩ := own2.ptr (by simp); have hcc := (own2.cell (j := l.length) (by simp)).2.2.2.2.2; have hcc' : l.length ≤ cc := Nat.le_trans (by rw [List.length_append]; exact Nat.le_add_right _ _) hcc; have hsl := sl_take (P := Try.prog) 22 5 .i64 Try.underlying22 info1 (some ⟨g, 0, none⟩) (l ++ [77]).length cc l.length hcc'; have H2 := Lib.hid (And.intro own2 bd2); clear own2 bd2 hcc)
      go_ret
      refine ⟨_, rfl, ⟨g, cc, rfl, ?_⟩, H2.out.2⟩
      have h1 := H2.out.1
      have h2 : (l ++ [77]).length = l.length + 1 := by simp
      rwa [h2] at h1

end Go.Proofs.Ytifbmhlnkjcmhaa.TwinBytes
