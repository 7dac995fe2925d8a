/- Texts of this work, one behind the other. -/
import Derived.Test.YticnjkdaccacaaaGreatDoorVSectorsPlay9
import Derived.Test.YticnjkdaccacaaaGreatDoorProg
import Derived.ProofKit
import Derived.OpenShut
import Derived.KernelRfl
import Derived.Lib.Hide
import Derived.Deep.LoopGhost
import Derived.Deep.QuietTactic
import Derived.BigQuiet
import Derived.WalkKit
import Derived.Laws.Tables
import Derived.Lib.SliceRun
import Derived.Laws.BytesArg
section
/- The twin of a list, and whether it was left as it was. -/
namespace Go.Proofs.YticnjkdaccacaaaGreatDoor.TwinBytes
open Go.RowKit Base _root_.Go.Proofs.YticnjkdaccacaaaGreatDoor.Own

/-- A row of the call's own with one number more behind it. -/
def Twn (w : World) (B : Nat) (v : Value) (l : List Int) : Prop :=
  ∃ g c, v = .slice (some ⟨g, 0, none⟩) l.length c ∧ OwnI .u8 w B 5 (.slice (some ⟨g, 0, none⟩) (l.length + 1) c) (l ++ [77])
theorem Twn.new {w w' : World} {B : Nat} {v : Value} {l : List Int} (h : Twn w B v l) (hb : Below w.heap.size w w') : Twn w' B v l := by
  obtain ⟨g, c, h1, h2⟩ := h
  exact ⟨g, c, h1, h2.new hb⟩
theorem Twn.lower {w : World} {B B' : Nat} {v : Value} {l : List Int} (h : Twn w B v l) (hB : B' ≤ B) : Twn w B' v l := by
  obtain ⟨g, c, h1, h2⟩ := h
  exact ⟨g, c, h1, h2.lower hB⟩
theorem Twn.reads {w : World} {B : Nat} {v : Value} {l : List Int} (h : Twn w B v l) : ∃ g c, v = .slice (some ⟨g, 0, none⟩) l.length c ∧ l.length < c ∧ B ≤ g ∧ g < w.heap.size ∧ Rd .u8 w (some ⟨g, 0, none⟩) l := by
  obtain ⟨g, c, h1, h2⟩ := h
  have h3 := h2.cell (j := l.length) (by simp)
  obtain ⟨A, c', e, _, _, hr, _⟩ := h2.slice
  injection e with e1 e2 e3
  subst e1
  have := hr.take l.length
  rw [List.take_left] at this
  exact ⟨g, c, h1, by omega, h3.2.2.1, h3.2.2.2.1, this⟩
theorem tyB : RowTy Tryz.prog 45 5 .u8 := ⟨Tryz.underlying45, 1, by decide, by kernel_rfl⟩
theorem info1 : (Tryz.prog.info? 5).map (·.size) = some 1 := by kernel_rfl
theorem mk0 (n : Nat) (hn : n ≤ 1000000000000) : ∀ W : World, (Instr.makeSlice 45 (.int .i64 0) (.int .i64 ((n : Int) + 1))).run Tryz.prog W = .ok (.slice (some ⟨W.heap.size, 0, none⟩) 0 (n + 1)) (W.alloc (.cells (madeCells #[.int .u8 0] (n + 1)) 5)) := by
  intro W
  obtain ⟨i, hi, hzz⟩ := Option.map_eq_some_iff.1 (show (Tryz.prog.info? 5).map (fun i => (i.zero, i.size, i.bytes)) = some (some (.int .u8 0), 1, 1) by kernel_rfl)
  simp only [Prod.mk.injEq] at hzz
  obtain ⟨hz0, hs, hby⟩ := hzz
  have h := run_make (P := Tryz.prog) W 45 5 i (.int .u8 0) Tryz.underlying45 hi hz0 .i64 .i64 0 ((n : Int) + 1) (by omega) (by omega) (by rw [hby]; omega) (by omega)
  rw [h, hs]
  simp only [Int.toNat_zero]
  have : ((n : Int) + 1).toNat = n + 1 := by omega
  rw [this, Nat.mul_one]
  rfl

set_option maxRecDepth 100000 in
theorem twin (A : Option Addr) (c : Nat) (l : List Int) (w : World) (hl : l.length ≤ 100000000000) (hr : Rd .u8 w A l) :
    Calls Tryz.prog 11 #[.slice A l.length c] w fun e w' => ∃ v, e = .returned v ∧ Twn w' w.heap.size v l ∧ Below w.heap.size w w' := by
  have HR := Lib.hid hr
  clear hr
  have hmk := mk0 l.length (by omega)
  go_enter Tryz.func11, Tryz.ntmps11
  go_wp2
  go_loopw [3, 4] (fun v i wr => ∃ k : Nat, k ≤ l.length ∧ i = .int .i64 k ∧ Hid (OwnI .u8 wr w.heap.size 5 v (l.take k)) ∧ Hid (Below w.heap.size w wr)) (fun _ i _ => l.length - (intOf i).toNat)
  case atStart =>
    refine ⟨0, by omega, rfl, ?_, (Below.refl _ _).alloc (Nat.le_refl _) _⟩
    exact World.ownsRow_made w _ (l.length + 1) (Nat.le_refl _) (by unfold maxLen; omega) (by rw [size_madeCells]; omega)
  case round =>
    clear hmk
    obtain ⟨k, hk, rfl, hown, hbd⟩ := hrel
    by_cases hlt : k < l.length
    · obtain ⟨ad, e, hb, hcell⟩ := (HR.out.below hbd.out).cell hlt
      subst e
      obtain ⟨y, hy⟩ : ∃ y, y = l.getD k 0 := ⟨_, rfl⟩
      rw [← hy] at hcell
      have HY := Lib.hid hy
      clear hy
      go_wp2_with (at_builtin; refine ap_lit rfl tyB hbd.out hown.out [y] rfl (by simp; omega) (.tmp 15) _ 1 1 rfl rfl rfl rfl ?_; clear hown hbd hcell hb; intro v2 w2 own2 bd2 _ _; have H2 := Lib.hid (And.intro own2 bd2); clear own2 bd2)
      go_roundw
      case rel =>
        refine ⟨k + 1, by omega, by go_num, ?_, H2.out.2⟩
        have h1 := H2.out.1
        rw [HY.out] at h1
        have : l.take (k + 1) = l.take k ++ [l.getD k 0] := by rw [List.take_succ_eq_append_getElem hlt, List.getD_eq_getElem?_getD, List.getElem?_eq_getElem hlt]; rfl
        rw [this]
        exact h1
      case measure => simp [intOf]; omega
    · obtain rfl : k = l.length := by omega
      have hown' := hown.out
      rw [List.take_length] at hown'
      have HO := Lib.hid hown'
      clear hown hown'
      go_wp2_with (at_builtin; refine ap_lit rfl tyB hbd.out HO.out [77] rfl (by simp; omega) (.tmp 22) _ 1 1 rfl rfl rfl rfl ?_; clear HO hbd; intro v2 w2 own2 bd2 _ _; obtain ⟨g, cc, rfl⟩ := own2.ptr (by simp); have hcc := (own2.cell (j := l.length) (by simp)).2.2.2.2.2; have hcc' : l.length ≤ cc := Nat.le_trans (by rw [List.length_append]; exact Nat.le_add_right _ _) hcc; have hsl := sl_take (P := Tryz.prog) 45 5 .i64 Tryz.underlying45 info1 (some ⟨g, 0, none⟩) (l ++ [77]).length cc l.length hcc'; have H2 := Lib.hid (And.intro own2 bd2); clear own2 bd2 hcc)
      go_ret
      refine ⟨_, rfl, ⟨g, cc, rfl, ?_⟩, H2.out.2⟩
      have h1 := H2.out.1
      have h2 : (l ++ [77]).length = l.length + 1 := by simp
      rwa [h2] at h1

set_option maxRecDepth 100000 in
theorem left (v : Value) (A : Option Addr) (c B : Nat) (l : List Int) (w : World) (hl : l.length ≤ 100000000000) (ht : Twn w B v l) (hr : Rd .u8 w A l) :
    Calls Tryz.prog 25 #[v, .slice A l.length c] w fun e w' => e = .returned (.bool true) ∧ Below w.heap.size w w' := by
  obtain ⟨g, cc, rfl, hown⟩ := ht
  have hcc0 := (hown.cell (j := l.length) (by simp)).2.2.2.2.2
  have hcc : l.length < cc := hcc0
  clear hcc0
  have hne : ((l.length : Int) != (l.length : Int)) = false := by rw [bne_eq_false_iff_eq]
  have hle : ¬ (cc : Int) ≤ (l.length : Int) := by omega
  have HR := Lib.hid hr
  have HO := Lib.hid hown
  clear hr hown
  go_enter Tryz.func25, Tryz.ntmps25
  go_wp2
  go_loopw [5] (fun i wr => ∃ k : Nat, k ≤ l.length ∧ i = .int .i64 k ∧ Hid (Below w.heap.size w wr)) (fun i _ => l.length - (intOf i).toNat)
  case atStart => exact ⟨0, by omega, rfl, Below.refl _ _⟩
  case round =>
    obtain ⟨k, hk, rfl, hbd⟩ := hrel
    have hown2 := HO.out.new hbd.out
    by_cases hlt : k < l.length
    · obtain ⟨ad, e, hb, hcell⟩ := (HR.out.below hbd.out).cell hlt
      subst e
      have hcell2 := (hown2.cell (j := k) (by simp; omega)).1
      have hk2 : (l ++ [77]).getD k 0 = l.getD k 0 := by rw [List.getD_eq_getElem?_getD, List.getD_eq_getElem?_getD, List.getElem?_append_left hlt]
      rw [hk2] at hcell2
      generalize l.getD k 0 = y at hcell hcell2
      clear hk2
      have HO2 := Lib.hid hown2
      have HC := Lib.hid (And.intro hcell hcell2)
      clear hown2 hcell hcell2 hb
      have ha : (⟨g, 0, none⟩ : Addr).add k = ⟨g, k, none⟩ := by unfold Addr.add; split <;> simp_all
      go_wp2_with fail
      refine wp_region_sl [.one (0, true, some 25), .one (1, true, some 26), .one (2, true, some 27), .one (3, true, some 28), .one (4, true, some 29), .one (5, true, some 30), .one (6, true, some 31), .one (7, true, some 32), .one (8, true, some 33)]
                [.one ⟨true, some 25, (Go.Op.move (Go.Operand.tmp 0)), 45, none⟩,
                .one ⟨true, some 26, (Go.Op.move (Go.Operand.tmp 5)), 3, none⟩,
                .one ⟨true, some 27, (Go.Op.indexAddr 45 (Go.Operand.tmp 25) (Go.Operand.tmp 26)), 0, none⟩,
                .one ⟨true, some 28, (Go.Op.load 5 (Go.Operand.tmp 27)), 5, none⟩,
                .one ⟨true, some 29, (Go.Op.move (Go.Operand.tmp 1)), 45, none⟩,
                .one ⟨true, some 30, (Go.Op.move (Go.Operand.tmp 5)), 3, none⟩,
                .one ⟨true, some 31, (Go.Op.indexAddr 45 (Go.Operand.tmp 29) (Go.Operand.tmp 30)), 0, none⟩,
                .one ⟨true, some 32, (Go.Op.load 5 (Go.Operand.tmp 31)), 5, none⟩,
                .one ⟨true, some 33, (Go.Op.binOp Go.BinOp.neq 5 (Go.Operand.tmp 28) (Go.Operand.tmp 32) 5), 4, none⟩]
                (fun w' => w'.cell? (ad.add k) = some (.int .u8 y) ∧ w'.cell? ⟨g, k, none⟩ = some (.int .u8 y)) rfl (by kernel_rfl) (by kernel_rfl) ?_ ?_
      · exact HC.out
      (repeat (first | ((with_reducible refine sq (v := ?_) (a' := ?_) ?_ ?_ ?_); rotate_left 2; (focus (intro w' hS; go_simp; (first | done | with_reducible rfl | rfl))); (simp only [Act.put, List.setIfInBounds_toArray, List.set_cons_zero, List.set_cons_succ]; rfl)) | ((with_reducible refine sn (a' := ?_) ?_ ?_ ?_); rotate_left; (focus rfl); (simp only [Act.put, List.setIfInBounds_toArray, List.set_cons_zero, List.set_cons_succ]; rfl)) | ((with_reducible refine sf trivial (a' := ?_) ?_ ?_ ?_); rotate_left; (focus rfl); (simp only [Act.put, List.setIfInBounds_toArray, List.set_cons_zero, List.set_cons_succ]; rfl)) | ((with_reducible refine sqg (v := ?_) (a' := ?_) ?_ ?_ ?_ ?_); rotate_left 2; (focus rfl); (focus (intro w' hS; go_simp; (first | done | with_reducible rfl | rfl))); (simp only [Act.put, List.setIfInBounds_toArray, List.set_cons_zero, List.set_cons_succ]; rfl)))); (repeat ((go_bits; (first | ((with_reducible refine sq (v := ?_) (a' := ?_) ?_ ?_ ?_); rotate_left 2; (focus (intro w' hS; go_simp; (first | done | with_reducible rfl | rfl))); (simp only [Act.put, List.setIfInBounds_toArray, List.set_cons_zero, List.set_cons_succ]; rfl)) | ((with_reducible refine sn (a' := ?_) ?_ ?_ ?_); rotate_left; (focus rfl); (simp only [Act.put, List.setIfInBounds_toArray, List.set_cons_zero, List.set_cons_succ]; rfl)) | ((with_reducible refine sf trivial (a' := ?_) ?_ ?_ ?_); rotate_left; (focus rfl); (simp only [Act.put, List.setIfInBounds_toArray, List.set_cons_zero, List.set_cons_succ]; rfl)) | ((with_reducible refine sqg (v := ?_) (a' := ?_) ?_ ?_ ?_ ?_); rotate_left 2; (focus rfl); (focus (intro w' hS; go_simp; (first | done | with_reducible rfl | rfl))); (simp only [Act.put, List.setIfInBounds_toArray, List.set_cons_zero, List.set_cons_succ]; rfl)))); (repeat (first | ((with_reducible refine sq (v := ?_) (a' := ?_) ?_ ?_ ?_); rotate_left 2; (focus (intro w' hS; go_simp; (first | done | with_reducible rfl | rfl))); (simp only [Act.put, List.setIfInBounds_toArray, List.set_cons_zero, List.set_cons_succ]; rfl)) | ((with_reducible refine sn (a' := ?_) ?_ ?_ ?_); rotate_left; (focus rfl); (simp only [Act.put, List.setIfInBounds_toArray, List.set_cons_zero, List.set_cons_succ]; rfl)) | ((with_reducible refine sf trivial (a' := ?_) ?_ ?_ ?_); rotate_left; (focus rfl); (simp only [Act.put, List.setIfInBounds_toArray, List.set_cons_zero, List.set_cons_succ]; rfl)) | ((with_reducible refine sqg (v := ?_) (a' := ?_) ?_ ?_ ?_ ?_); rotate_left 2; (focus rfl); (focus (intro w' hS; go_simp; (first | done | with_reducible rfl | rfl))); (simp only [Act.put, List.setIfInBounds_toArray, List.set_cons_zero, List.set_cons_succ]; rfl)))))); (try go_bits)
      refine sl_end ?_
      go_wp2
      go_roundw
      case rel => exact ⟨k + 1, by omega, by go_num, hbd.out.drew⟩
      case measure => simp [intOf]; omega
    · obtain rfl : k = l.length := by omega
      have hcell := (hown2.cell (j := l.length) (by simp)).1
      have h77 : (l ++ [77]).getD l.length 0 = 77 := by rw [List.getD_eq_getElem?_getD, List.getElem?_append_right (Nat.le_refl _)]; simp
      rw [h77] at hcell
      clear hown2 h77
      have hsl := sl_take (P := Tryz.prog) 45 5 .i64 Tryz.underlying45 info1 (some ⟨g, 0, none⟩) l.length cc (l.length + 1) (by omega)
      rw [show ((l.length + 1 : Nat) : Int) = (l.length : Int) + 1 from by omega] at hsl
      have ha : (⟨g, 0, none⟩ : Addr).add l.length = ⟨g, l.length, none⟩ := by unfold Addr.add; split <;> simp_all
      go_wp2
      go_ret
      exact ⟨rfl, hbd.out⟩
end Go.Proofs.YticnjkdaccacaaaGreatDoor.TwinBytes
end
section
/- Twins of lists of numbers, and the contracts of rings, among the things in memory. -/
namespace Go.Proofs.YticnjkdaccacaaaGreatDoor.Sx
open Go Go.RowKit Base Own TwinBytes

/-- A twin: a row of the call's own with one number more behind it. -/
def twbA (A : Option Addr) (c : Nat) (l : List Int) : Asn := ownA .u8 5 A c (l ++ [77])
section
variable {w0 w : World} {R M : List Asn} {A A' : Option Addr} {c c' : Nat} {l : List Int}
theorem Sat.twbAt (S : Sat w0 w M) (i : Nat) (hi : M[i]? = some (twbA A c l)) : Rk .u8 w A l := by
  have h := (Sat.ownAt S i hi).take l.length
  rwa [List.take_left] at h
theorem Sat.twbOwn (S : Sat w0 w (twbA A c l :: R)) : Sat w0 w (ownA .u8 5 A c l :: R) := by
  obtain ⟨F, ⟨h1, h2, h3⟩, hF, hk⟩ := S.opened
  have hlen : (l ++ [77]).length = l.length + 1 := by simp
  refine hk (A' := ownA .u8 5 A c l) (F' := F) (G := fun _ => False) ⟨?_, fun z hz => h2 z (List.mem_append_left _ hz), fun g => ?_⟩ (Chg.refl _ _) (fun _ _ h => h.elim) fun g hg => .inl hg
  · rcases h1.2 with ⟨e1, e2⟩ | ⟨g, cap, cur, e1, hB, hg, h4, h5, h6, h7⟩
    · rw [hlen] at e2; omega
    · injection e1 with e3 e4 e5
      subst e3 e5
      refine ⟨by simp, .inr ⟨g, c, cur, rfl, hB, hg, by rw [hlen] at h4; omega, h5, h6, ?_⟩⟩
      have h8 := congrArg (List.take l.length) h7
      rw [List.take_take, hlen, List.map_append] at h8
      rw [show min l.length ((l.length + 1) * 1) = l.length by omega, List.take_left' (by simp)] at h8
      rw [Nat.mul_one]; exact h8
  · rw [h3 g]
    cases A <;> simp [Value.ownBlock]
theorem twb_of (S : Sat w0 w (twbA A c l :: R)) : Twn w w0.heap.size (.slice A l.length c) l := by
  obtain ⟨F, ⟨h1, h2, h3⟩, hF, hk⟩ := S.opened
  obtain ⟨g, c2, e⟩ := h1.ptr (by simp)
  injection e with e1 e2 e3
  subst e1
  refine ⟨g, c, rfl, ?_⟩
  have hlen : (l ++ [77]).length = l.length + 1 := by simp
  rw [hlen] at h1
  exact h1
theorem twinb_call (hr : Rk .u8 w A l) (hl : l.length ≤ 100000000000) (S : Sat w0 w R) : Calls Tryz.prog 11 #[.slice A l.length c] w fun e w' => ∃ A' c', e = .returned (.slice A' l.length c') ∧ vok (.slice A' l.length c') = true ∧ Sat w0 w' (twbA A' c' l :: R) := by
  refine (twin A c l w hl hr.rd).mono ?_
  rintro e w' ⟨v, rfl, ⟨g, c', rfl, h2⟩, h3⟩
  have hlen : (l ++ [77]).length = l.length + 1 := by simp
  rw [← hlen] at h2
  obtain ⟨A2, c2, e2, h5, h6⟩ := S.row h3 h2 (fun z hz => by
    rcases List.mem_append.1 hz with hz | hz
    · exact hr.wf z hz
    · rw [List.mem_singleton] at hz; subst hz; decide)
  injection e2 with q1 q2 q3
  subst q1 q3
  obtain ⟨F, hF⟩ := h6.hd
  have hm := h6.own
  rw [hlen] at hm
  exact ⟨_, _, rfl, vok_sl ⟨by omega, hm.2.2⟩, h6⟩
theorem leftb_call (hr : Rk .u8 w A' l) (hl : l.length ≤ 100000000000) (S : Sat w0 w (twbA A c l :: R)) : Calls Tryz.prog 25 #[.slice A l.length c, .slice A' l.length c'] w fun e w' => e = .returned (.bool true) ∧ Sat w0 w' (twbA A c l :: R) := by
  refine (left _ A' c' _ l w hl (twb_of S) hr.rd).mono ?_
  rintro e w' ⟨rfl, h⟩
  exact ⟨rfl, S.new h⟩
end
end Go.Proofs.YticnjkdaccacaaaGreatDoor.Sx
end
section
/- Plain facts on the sums: a step of the register, its linearity, its injectivity. No program here. -/
namespace Go.Proofs.YticnjkdaccacaaaGreatDoor.Crc
open Go

/-- One step of the register. -/
def stp (n : BitVec 32) : BitVec 32 := (n >>> 1) ^^^ (3988292384#32 &&& (-(n &&& 1#32)))
def stps : Nat → BitVec 32 → BitVec 32
  | 0, n => n
  | k + 1, n => stps k (stp n)
/-- A byte as a number of 32 bits. -/
def by32 (c : Int) : BitVec 32 := BitVec.ofInt 32 c
def byt (n : BitVec 32) (c : Int) : BitVec 32 := stps 8 (n ^^^ by32 c)
def raw (n : BitVec 32) (l : List Int) : BitVec 32 := l.foldl byt n
def on (s : BitVec 32) (l : List Int) : BitVec 32 := ~~~ (raw (~~~ s) l)
def num (n : BitVec 32) : Int := (n.toNat : Int)
theorem num_range (n : BitVec 32) : 0 ≤ num n ∧ num n < 4294967296 := by have := n.isLt; unfold num; omega
theorem num_inj {a b : BitVec 32} (h : num a = num b) : a = b := by
  unfold num at h; exact BitVec.eq_of_toNat_eq (by omega)
theorem of_num (n : BitVec 32) : BitVec.ofInt 32 (num n) = n := by
  unfold num; rw [BitVec.ofInt_natCast, BitVec.ofNat_toNat, BitVec.setWidth_eq]
theorem num_of {x : Int} (h0 : 0 ≤ x) (h1 : x < 4294967296) : num (BitVec.ofInt 32 x) = x := by
  unfold num; rw [BitVec.toNat_ofInt]; omega

theorem stps_succ' (k : Nat) : ∀ n, stps (k + 1) n = stp (stps k n) := by
  induction k with
  | zero => intro n; rfl
  | succ k ih => intro n; show stps (k + 1) (stp n) = _; rw [ih]; rfl
theorem stps_add (j k : Nat) : ∀ n, stps (j + k) n = stps k (stps j n) := by
  induction j with
  | zero => intro n; simp [stps]
  | succ j ih => intro n; rw [Nat.succ_add]; show stps (j + k) (stp n) = _; rw [ih]; rfl

theorem neg_and_one (n : BitVec 32) : -(n &&& 1#32) = if n.getLsbD 0 then BitVec.allOnes 32 else 0#32 := by
  by_cases h : n.getLsbD 0 = true
  · rw [if_pos h]
    have : n &&& 1#32 = 1#32 := by
      apply BitVec.eq_of_getLsbD_eq
      intro i hi
      rw [BitVec.getLsbD_and, BitVec.getLsbD_one]
      by_cases e : i = 0
      · subst e; simp [h]
      · simp [e]
    rw [this]; decide
  · rw [if_neg h]
    have : n &&& 1#32 = 0#32 := by
      apply BitVec.eq_of_getLsbD_eq
      intro i hi
      rw [BitVec.getLsbD_and, BitVec.getLsbD_one]
      by_cases e : i = 0
      · subst e; simpa using h
      · simp [e]
    rw [this]; decide
theorem stp_bit (n : BitVec 32) : stp n = (n >>> 1) ^^^ (if n.getLsbD 0 then 3988292384#32 else 0#32) := by
  unfold stp; rw [neg_and_one]; split <;> simp
theorem stp_xor (a b : BitVec 32) : stp (a ^^^ b) = stp a ^^^ stp b := by
  rw [stp_bit, stp_bit, stp_bit, BitVec.getLsbD_xor, BitVec.ushiftRight_xor_distrib]
  cases a.getLsbD 0 <;> cases b.getLsbD 0 <;> simp only [Bool.false_xor, Bool.true_xor, Bool.not_false, Bool.not_true, Bool.false_eq_true, if_true, if_false, BitVec.xor_zero]
  · ac_rfl
  · ac_rfl
  · rw [show a >>> 1 ^^^ 3988292384#32 ^^^ (b >>> 1 ^^^ 3988292384#32) = a >>> 1 ^^^ b >>> 1 ^^^ (3988292384#32 ^^^ 3988292384#32) by ac_rfl]; simp
theorem stp_zero : stp 0#32 = 0#32 := by decide
theorem stp_inj0 {n : BitVec 32} (h : stp n = 0#32) : n = 0#32 := by
  rw [stp_bit] at h
  have h31 : ((n >>> 1) ^^^ (if n.getLsbD 0 then 3988292384#32 else 0#32)).getLsbD 31 = false := by rw [h]; simp
  rw [BitVec.getLsbD_xor, BitVec.getLsbD_ushiftRight] at h31
  have hb : n.getLsbD 32 = false := BitVec.getLsbD_of_ge n 32 (by omega)
  cases h0 : n.getLsbD 0 with
  | true => rw [h0, hb] at h31; exact absurd h31 (by decide)
  | false =>
    rw [h0] at h
    simp at h
    apply BitVec.eq_of_getLsbD_eq
    intro i hi
    cases i with
    | zero => simpa using h0
    | succ i =>
      have : (n >>> 1).getLsbD i = false := by rw [h]; simp
      rw [BitVec.getLsbD_ushiftRight] at this
      rw [Nat.add_comm] at this
      simpa using this
theorem stps_xor (k : Nat) : ∀ a b, stps k (a ^^^ b) = stps k a ^^^ stps k b := by
  induction k with
  | zero => intro a b; rfl
  | succ k ih => intro a b; show stps k (stp (a ^^^ b)) = _; rw [stp_xor, ih]; rfl
theorem stps_inj0 (k : Nat) : ∀ n, stps k n = 0#32 → n = 0#32 := by
  induction k with
  | zero => intro n h; exact h
  | succ k ih => intro n h; exact stp_inj0 (ih _ h)
theorem xor_eq_zero {a b : BitVec 32} : a ^^^ b = 0#32 ↔ a = b := by
  constructor
  · intro h
    have : a ^^^ b ^^^ b = 0#32 ^^^ b := by rw [h]
    rwa [BitVec.xor_assoc, BitVec.xor_self, BitVec.xor_zero, BitVec.zero_xor] at this
  · rintro rfl; exact BitVec.xor_self
theorem stps_inj (k : Nat) {a b : BitVec 32} (h : stps k a = stps k b) : a = b := by
  have := stps_inj0 k (a ^^^ b) (by rw [stps_xor, h]; exact BitVec.xor_self)
  exact xor_eq_zero.1 this

theorem raw_append (n : BitVec 32) (a b : List Int) : raw n (a ++ b) = raw (raw n a) b := List.foldl_append
theorem on_nil (s : BitVec 32) : on s [] = s := by simp [on, raw]
theorem on_append (s : BitVec 32) (a b : List Int) : on s (a ++ b) = on (on s a) b := by
  unfold on; rw [raw_append, BitVec.not_not]
/-- The register's shift, eight at once, of the bits above the lowest byte. -/
theorem stps_shift (k : Nat) : ∀ n : BitVec 32, (∀ i, i < k → n.getLsbD i = false) → stps k n = n >>> k := by
  induction k with
  | zero => intro n _; simp [stps]
  | succ k ih =>
    intro n h
    have h1 : stp n = n >>> 1 := by rw [stp_bit, h 0 (by omega)]; simp
    show stps k (stp n) = _
    rw [h1, ih _ (fun i hi => by rw [BitVec.getLsbD_ushiftRight]; exact h _ (by omega)), ← BitVec.shiftRight_add, Nat.add_comm]
theorem split8 (n : BitVec 32) : n = (n &&& 255#32) ^^^ (n &&& ~~~ 255#32) := by
  apply BitVec.eq_of_getLsbD_eq
  intro i hi
  simp only [BitVec.getLsbD_xor, BitVec.getLsbD_and, BitVec.getLsbD_not]
  cases n.getLsbD i <;> cases (255#32).getLsbD i <;> simp [hi]
theorem low_255 (i : Nat) : (255#32).getLsbD i = decide (i < 8) := by
  by_cases h : i < 32
  · have : ∀ j : Fin 32, (255#32).getLsbD j.val = decide (j.val < 8) := by decide
    exact this ⟨i, h⟩
  · rw [BitVec.getLsbD_of_ge _ _ (by omega)]; simp; omega
/-- Eight steps by the table. -/
theorem byt_table (n : BitVec 32) : stps 8 n = (n >>> 8) ^^^ stps 8 (n &&& 255#32) := by
  have h : stps 8 n = stps 8 ((n &&& 255#32) ^^^ (n &&& ~~~ 255#32)) := by rw [← split8]
  rw [h, stps_xor, stps_shift 8 (n &&& ~~~ 255#32)]
  · rw [BitVec.xor_comm]
    congr 1
    apply BitVec.eq_of_getLsbD_eq
    intro i hi
    rw [BitVec.getLsbD_ushiftRight, BitVec.getLsbD_ushiftRight, BitVec.getLsbD_and, BitVec.getLsbD_not, low_255]
    by_cases h32 : 8 + i < 32
    · simp [h32]
    · rw [BitVec.getLsbD_of_ge n _ (by omega)]; simp
  · intro i hi
    rw [BitVec.getLsbD_and, BitVec.getLsbD_not, low_255]
    simp [hi]

/-! ### In the model's words -/
theorem w32 (x : BitVec 32) : IntKind.u32.wrap (x.toNat : Int) = num x := by
  have := x.isLt
  rw [IntKind.wrap_u32']; unfold num; omega
theorem bits_xor (a b : BitVec 32) : bits .xor .u32 (num a) (num b) = num (a ^^^ b) := by
  unfold bits; show IntKind.u32.wrap ((BitVec.ofInt 32 (num a) ^^^ BitVec.ofInt 32 (num b)).toNat : Int) = _
  rw [of_num, of_num, w32]
theorem bits_and (a b : BitVec 32) : bits .and .u32 (num a) (num b) = num (a &&& b) := by
  unfold bits; show IntKind.u32.wrap ((BitVec.ofInt 32 (num a) &&& BitVec.ofInt 32 (num b)).toNat : Int) = _
  rw [of_num, of_num, w32]
theorem num_neg (a : BitVec 32) : (-(num a)) % 4294967296 = num (-a) := by
  have := a.isLt
  unfold num; rw [BitVec.toNat_neg]; omega
theorem num_shr1 (a : BitVec 32) : num a / (2 : Int) = num (a >>> 1) := by
  unfold num; rw [BitVec.toNat_ushiftRight, Nat.shiftRight_eq_div_pow]; omega
theorem num_shr8 (a : BitVec 32) : num a / (256 : Int) = num (a >>> 8) := by
  unfold num; rw [BitVec.toNat_ushiftRight, Nat.shiftRight_eq_div_pow]; omega
theorem one_num : (1 : Int) = num 1#32 := by decide
theorem poly_num : (3988292384 : Int) = num 3988292384#32 := by decide
theorem all_num : (4294967295 : Int) = num (BitVec.allOnes 32) := by decide
/-- The closure's step as the walk spells it. -/
theorem stp_walk (a : BitVec 32) : bits .xor .u32 (num a / (2 : Int)) (bits .and .u32 3988292384 (-bits .and .u32 (num a) 1 % 4294967296)) = num (stp a) := by
  rw [poly_num, one_num, bits_and, num_neg, bits_and, num_shr1, bits_xor]; rfl
theorem bits_not (x : BitVec 32) : bits .xor .u32 IntKind.u32.max (num x) = num (~~~ x) := by
  have h : bits .xor .u32 4294967295 (num x) = num (~~~ x) := by
    rw [all_num, bits_xor, BitVec.allOnes_xor]
  rw [← h]; rfl
def ix (x : BitVec 32) (y : Int) : BitVec 32 := (x ^^^ by32 y) &&& 255#32
theorem ix_range (x : BitVec 32) (y : Int) : 0 ≤ num (ix x y) ∧ num (ix x y) < 256 := by
  have h : (ix x y).toNat ≤ 255 := by unfold ix; rw [BitVec.toNat_and]; exact Nat.and_le_right
  unfold num; omega
theorem by32_toNat {y : Int} (h0 : 0 ≤ y) (h1 : y < 256) : (by32 y).toNat = y.toNat := by
  unfold by32; rw [BitVec.toNat_ofInt]; omega
theorem bits_ix (x : BitVec 32) (y : Int) (h0 : 0 ≤ y) (h1 : y < 256) : bits .xor .u8 (num x % 256) y = num (ix x y) := by
  obtain ⟨n, rfl⟩ := Int.eq_ofNat_of_zero_le h0
  have e : num x % 256 = ((x.toNat % 256 : Nat) : Int) := by unfold num; omega
  rw [e, u8_xor_nat _ _ (Nat.mod_lt _ (by omega)) (by omega)]
  unfold num ix
  rw [BitVec.toNat_and, BitVec.toNat_xor, by32_toNat h0 h1]
  have h8 : ∀ a : Nat, a &&& 255 = a % 256 := nat_mask8
  show _ = (((x.toNat ^^^ n) &&& 255 : Nat) : Int)
  rw [h8]
  congr 1
  rw [show (256 : Nat) = 2 ^ 8 from rfl, Nat.xor_mod_two_pow, Nat.mod_eq_of_lt (a := n) (by omega)]
theorem byt_walk (x : BitVec 32) (y : Int) (h0 : 0 ≤ y) (h1 : y < 256) : bits .xor .u32 (num x / (256 : Int)) (num (stps 8 (ix x y))) = num (byt x y) := by
  rw [num_shr8, bits_xor]
  unfold byt ix
  rw [byt_table (x ^^^ by32 y), BitVec.ushiftRight_xor_distrib]
  have : by32 y >>> 8 = 0#32 := by
    apply BitVec.eq_of_toNat_eq
    rw [BitVec.toNat_ushiftRight, by32_toNat h0 h1, Nat.shiftRight_eq_div_pow]
    show y.toNat / 256 = 0
    omega
  rw [this, BitVec.xor_zero]
end Go.Proofs.YticnjkdaccacaaaGreatDoor.Crc
end
section
/- The walks of package sums: the closure, the table, On, Of. -/
namespace Go.Proofs.YticnjkdaccacaaaGreatDoor.Sums
open Go.RowKit Crc Base _root_.Go.Proofs.YticnjkdaccacaaaGreatDoor.Own

theorem on1 (n : BitVec 32) (w : World) :
    Calls Tryz.prog 250 #[.int .u32 (num n)] w fun e w' => e = .returned (.int .u32 (num (stps 8 n))) ∧ w = w' := by
  go_enter Tryz.func250, Tryz.ntmps250
  go_wp2
  go_loop [0, 3] (fun v i => ∃ (k : Nat) (x : BitVec 32), k ≤ 8 ∧ i = .int .i64 k ∧ v = .int .u32 (num x) ∧ stps (8 - k) x = stps 8 n) (fun _ i => 8 - (intOf i).toNat)
  case atStart => exact ⟨0, n, by omega, rfl, rfl, rfl⟩
  case round =>
    obtain ⟨k, x, hk, rfl, rfl, hx⟩ := hrel
    have HX := Lib.hid hx
    clear hx
    go_wp2
    · go_round
      case rel =>
        have hk' : k < 8 := by omega
        exact ⟨k + 1, stp x, by omega, by go_num, by rw [stp_walk], by rw [← HX.out, show 8 - k = (8 - (k + 1)) + 1 by omega]; rfl⟩
      case measure => simp [intOf]; omega
    · go_ret
      have hk' : k = 8 := by omega
      subst hk'
      exact ⟨by rw [← HX.out]; rfl, rfl⟩

theorem on1' (k : Int) (h0 : 0 ≤ k) (h1 : k < 4294967296) (w : World) :
    Calls Tryz.prog 250 #[.int .u32 k] w fun e w' => e = .returned (.int .u32 (num (stps 8 (BitVec.ofInt 32 k)))) ∧ w = w' := by
  have h := on1 (BitVec.ofInt 32 k) w
  rwa [num_of h0 h1] at h

def tbl (i : Nat) : Value := .int .u32 (num (stps 8 (BitVec.ofInt 32 (i : Int))))
def cells (k : Nat) : Array Value := ((List.range 256).map fun i => if i < k then tbl i else .int .u32 0).toArray

theorem zeroT (w : World) : (zeroValue 329).run Tryz.prog w = .ok (.agg (cells 0)) w := by kernel_rfl
theorem cells_get (k j : Nat) (hj : j < 256) : (cells k)[j]? = some (if j < k then tbl j else .int .u32 0) := by
  simp [cells, hj]
theorem cells_size (k : Nat) : (cells k).size = 256 := by simp [cells]
theorem cells_one : ((cells 256).all fun x => x.oneCell') = true := by
  rw [Array.all_eq_true]
  intro i hi
  rw [cells_size] at hi
  have h := cells_get 256 i hi
  rw [Array.getElem?_eq_getElem (by rw [cells_size]; exact hi), if_pos hi] at h
  injection h with h
  rw [h]; rfl
theorem cells_set (k : Nat) (hk : k < 256) : (cells k).setIfInBounds k (tbl k) = cells (k + 1) := by
  apply Array.ext_getElem?
  intro i
  rw [Array.getElem?_setIfInBounds, cells_size]
  by_cases hi : i < 256
  · rw [cells_get _ _ hi, cells_get _ _ hi]
    by_cases e : k = i
    · subst e; simp [hk]
    · rw [if_neg e]
      congr 1
      by_cases h : i < k
      · rw [if_pos h, if_pos (by omega)]
      · rw [if_neg h, if_neg (by omega)]
  · have h1 : (cells k)[i]? = none := by rw [Array.getElem?_eq_none_iff, cells_size]; omega
    have h2 : (cells (k + 1))[i]? = none := by rw [Array.getElem?_eq_none_iff, cells_size]; omega
    rw [h1, h2, if_neg (by omega)]

set_option maxRecDepth 100000 in
theorem table (w : World) :
    Calls Tryz.prog 249 #[.func (.func 250) #[] #[]] w fun e w' => e = .returned (.agg (cells 256)) ∧ Below w.heap.size w w' := by
  have hz := zeroT
  go_enter Tryz.func249, Tryz.ntmps249
  go_wp2
  go_loopw [4] (fun i wr => ∃ k : Nat, k ≤ 256 ∧ i = .int .i64 k ∧ Below w.heap.size w wr ∧ wr.heap[w.heap.size]? = some (.cells (cells k) 329 (0, 0))) (fun i _ => 256 - (intOf i).toNat)
  case atStart => exact ⟨0, by omega, rfl, (Below.refl _ _).alloc (Nat.le_refl _) _, heap_alloc_new _ _⟩
  case round =>
    clear hz
    obtain ⟨k, hk, rfl, hb, hg⟩ := hrel
    by_cases hlt : k < 256
    · go_wp2_with fail
      refine (on1' _ (by omega) (by omega) _).mono ?_
      rintro e w' ⟨rfl, rfl⟩
      have hc : wr.cell? ⟨w.heap.size, k, none⟩ = some (.int .u32 0) := by rw [cell_of_row _ _ _ _ _ _ hg, cells_get _ _ hlt, if_neg (by omega)]
      have hf : wr.frozen? ⟨w.heap.size, k, none⟩ = false := frozen_of_row _ _ _ _ _ hg
      have HG := Lib.hid hg
      clear hg
      go_wp2
      go_roundw
      case rel => exact ⟨k + 1, by omega, by go_num, hb.setCell (Nat.le_refl _) _, by rw [heap_setCell_same _ _ _ _ _ _ HG.out]; rw [← cells_set k hlt]; rfl⟩
      case measure => simp [intOf]; omega
    · obtain rfl : k = 256 := by omega
      have hsz : (Tryz.prog.info? 329).map (·.size) = some (cells 256).size := by rw [cells_size]; kernel_rfl
      go_wp2_with (first | (refine wpList_load_row rfl 329 _ rfl _ rfl _ _ _ _ hg Tryz.underlying329 rfl hsz ?_) | (refine wpList_store_row rfl 329 _ _ rfl _ _ rfl rfl _ _ hg hsz rfl cells_one ?_))
      refine bodyPost_ret (results_cell_row rfl _ _ _ _ (cells 256) (0, 0) _ rfl (setRow_heap _ _ _ _ _ _ hg) Tryz.underlying329 rfl hsz) rfl ⟨rfl, ?_⟩
      exact hb.trans ⟨rfl, rfl, rfl, by simp, fun i hi => setRow_other _ _ _ _ (by omega)⟩

set_option maxRecDepth 100000 in
theorem on_nil_any (s : BitVec 32) (A : Option Addr) (c : Nat) (w : World) :
    Calls Tryz.prog 213 #[.int .u32 (num s), .slice A 0 c] w fun e w' => e = .returned (.int .u32 (num s)) ∧ Below w.heap.size w w' := by
  go_enter Tryz.func213, Tryz.ntmps213
  go_wp2
  go_ret
  exact ⟨rfl, Below.refl _ _⟩

/-- What a slice of bytes reads as. -/
def Bts (l : List Int) : Prop := ∀ x ∈ l, 0 ≤ x ∧ x < 256
theorem Bts.take {l : List Int} (h : Bts l) (k : Nat) : Bts (l.take k) := fun x hx => h x (List.mem_of_mem_take hx)
theorem Bts.drop {l : List Int} (h : Bts l) (k : Nat) : Bts (l.drop k) := fun x hx => h x (List.mem_of_mem_drop hx)
theorem Bts.append {l m : List Int} (h : Bts l) (h' : Bts m) : Bts (l ++ m) := fun x hx => (List.mem_append.1 hx).elim (h x) (h' x)
theorem Bts.getD {l : List Int} (h : Bts l) {j : Nat} (hj : j < l.length) : 0 ≤ l.getD j 0 ∧ l.getD j 0 < 256 := by
  rw [List.getD_eq_getElem?_getD, List.getElem?_eq_getElem hj]; exact h _ (List.getElem_mem hj)

set_option maxRecDepth 100000 in
theorem on_any (s : BitVec 32) (A : Option Addr) (c : Nat) (l : List Int) (w : World) (hl : l.length ≤ 9223372036854775807) (hb : Bts l) (hr : Rd .u8 w A l) :
    Calls Tryz.prog 213 #[.int .u32 (num s), .slice A l.length c] w fun e w' => e = .returned (.int .u32 (num (on s l))) ∧ Below w.heap.size w w' := by
  by_cases h0 : l = []
  · subst h0; rw [on_nil]; exact on_nil_any s A c w
  obtain ⟨ad, rfl, hb0, hc⟩ := hr h0
  obtain ⟨b, o, sp⟩ := ad
  have hb1 : b < w.heap.size := hb0
  have hpos : 0 < l.length := List.length_pos_iff.2 h0
  have hne : ((l.length : Int) == 0) = false := by rw [beq_eq_false_iff_ne]; omega
  have HC := Lib.hid hc
  have HB := Lib.hid hb
  clear hc hb h0
  have hz := zeroT
  have HW : w.heap.size ≤ w.heap.size := Nat.le_refl _
  have hsz : (Tryz.prog.info? 329).map (·.size) = some (cells 256).size := by rw [cells_size]; kernel_rfl
  go_enter Tryz.func213, Tryz.ntmps213
  go_wp2_with fail
  refine (table _).mono ?_
  rintro e w1 ⟨rfl, hq1⟩
  have hb2 : Below w.heap.size w (w1.alloc (.cells (cells 0) 329)) := hq1.alloc hq1.size _
  have hg2 : (w1.alloc (.cells (cells 0) 329)).heap[w1.heap.size]? = some (.cells (cells 0) 329 (0, 0)) := heap_alloc_new _ _
  have hs1 := hq1.size
  have HB1 := Lib.hid hq1
  have HS := Lib.hid hsz
  clear hq1 hsz
  have hsg : IntKind.u32.signed = false := rfl
  have hun := bits_not
  go_wp2_with (first | (refine wpList_store_row rfl 329 _ _ rfl _ _ rfl rfl _ _ hg2 HS.out rfl cells_one ?_))
  have hb3 : Below w.heap.size w ((w1.alloc (.cells (cells 0) 329)).setRow w1.heap.size (cells 256)) :=
    hb2.trans ⟨rfl, rfl, rfl, by simp, fun i hi => setRow_other _ _ _ _ (by omega)⟩
  have hg3 := setRow_heap _ _ _ (cells 256) _ _ hg2
  generalize (w1.alloc (.cells (cells 0) 329)).setRow w1.heap.size (cells 256) = w3 at hb3 hg3 ⊢
  clear hg2 hb2 HB1 HS hz HW
  have HG := Lib.hid hg3
  have H3 := Lib.hid hb3
  clear hg3 hb3
  go_loop [6, 18] (fun v i => ∃ (k : Nat) (x : BitVec 32), k ≤ l.length ∧ i = .int .i64 k ∧ v = .int .u32 (num x) ∧ x = raw (~~~ s) (l.take k)) (fun _ i => l.length - (intOf i).toNat)
  case atStart => exact ⟨0, _, by omega, rfl, rfl, rfl⟩
  case round =>
    obtain ⟨k, x, hk, rfl, rfl, hx⟩ := hrel
    have HX := Lib.hid hx
    clear hx
    by_cases hlt : k < l.length
    · have hc3 : w3.cell? ((⟨b, o, sp⟩ : Addr).add k) = some (.int .u8 (l.getD k 0)) := by
        rw [H3.out.cell (p := (⟨b, o, sp⟩ : Addr).add k) (by rw [add_block]; exact hb1)]; exact HC.out k hlt
      obtain ⟨y, hy⟩ : ∃ y, y = l.getD k 0 := ⟨_, rfl⟩
      rw [← hy] at hc3
      have hyr : 0 ≤ y ∧ y < 256 := by rw [hy]; exact HB.out.getD hlt
      have hy0 := hyr.1
      have hy1 := hyr.2
      have HY := Lib.hid hy
      clear hy hyr
      have hj := bits_ix x y hy0 hy1
      have hj0 := (ix_range x y).1
      have hj1 := (ix_range x y).2
      have hcj : w3.cell? ⟨w1.heap.size, (num (ix x y)).toNat, none⟩ = some (.int .u32 (num (stps 8 (ix x y)))) := by
        rw [cell_of_row _ _ _ _ _ _ HG.out, cells_get _ _ (by omega), if_pos (by omega)]
        unfold tbl
        rw [Int.toNat_of_nonneg hj0, of_num]
      have hbw := byt_walk x y hy0 hy1
      go_wp2
      go_round
      case rel => exact ⟨k + 1, byt x y, by omega, by go_num, rfl, by rw [HX.out, HY.out, List.take_succ_eq_append_getElem hlt, raw_append, List.getD_eq_getElem?_getD, List.getElem?_eq_getElem hlt]; rfl⟩
      case measure => simp [intOf]; omega
    · obtain rfl : k = l.length := by omega
      go_wp2
      go_ret
      exact ⟨by rw [HX.out, List.take_length]; rfl, H3.out⟩

set_option maxRecDepth 100000 in
theorem of_any (A : Option Addr) (c : Nat) (l : List Int) (w : World) (hl : l.length ≤ 9223372036854775807) (hb : Bts l) (hr : Rd .u8 w A l) :
    Calls Tryz.prog 214 #[.slice A l.length c] w fun e w' => e = .returned (.int .u32 (num (on 0#32 l))) ∧ Below w.heap.size w w' := by
  go_enter Tryz.func214, Tryz.ntmps214
  go_wp2_with fail
  refine (on_any 0#32 A c l w hl hb hr).mono ?_
  rintro e w1 ⟨rfl, hb⟩
  go_wp2
  go_ret
  exact ⟨rfl, hb⟩
/-- The same behind a start: what is read was there then. -/
theorem on_from {w0 w : World} (hw : Below w0.heap.size w0 w) (s : BitVec 32) (A : Option Addr) (c n : Nat) (l : List Int) (hn : l.length = n) (hl : n ≤ 9223372036854775807) (hb : Bts l) (hr : Rd .u8 w0 A l) :
    Calls Tryz.prog 213 #[.int .u32 (num s), .slice A n c] w fun e w' => e = .returned (.int .u32 (num (on s l))) ∧ Below w0.heap.size w0 w' := by
  subst hn
  exact (on_any s A c l w hl hb (hr.below hw)).mono fun e w' ⟨he, h⟩ => ⟨he, hw.trans (below_weak hw.size h)⟩
theorem of_from {w0 w : World} (hw : Below w0.heap.size w0 w) (A : Option Addr) (c n : Nat) (l : List Int) (hn : l.length = n) (hl : n ≤ 9223372036854775807) (hb : Bts l) (hr : Rd .u8 w0 A l) :
    Calls Tryz.prog 214 #[.slice A n c] w fun e w' => e = .returned (.int .u32 (num (on 0#32 l))) ∧ Below w0.heap.size w0 w' := by
  subst hn
  exact (of_any A c l w hl hb (hr.below hw)).mono fun e w' ⟨he, h⟩ => ⟨he, hw.trans (below_weak hw.size h)⟩
theorem rd_lit (w1 : World) (l : List Int) (cs : Array Value) (t : TypeId) (fr : Nat × Nat) (hc : cs = (l.map (Value.int .u8)).toArray) : Rd .u8 (w1.alloc (.cells cs t fr)) (some ⟨w1.heap.size, 0, none⟩) l := by
  refine Rd.block (heap_alloc_new _ _) (fun j hj => ?_)
  subst hc
  simp [List.getElem?_eq_getElem hj, List.getD_eq_getElem?_getD]
/-- Of a literal's bytes. -/
theorem on_lit {w0 w1 : World} (hw : Below w0.heap.size w0 w1) (s : BitVec 32) (l : List Int) (cs : Array Value) (t : TypeId) (fr : Nat × Nat) (n c : Nat) (hc : cs = (l.map (Value.int .u8)).toArray) (hn : l.length = n) (hl : n ≤ 9223372036854775807) (hb : Bts l) :
    Calls Tryz.prog 213 #[.int .u32 (num s), .slice (some ⟨w1.heap.size, 0, none⟩) n c] (w1.alloc (.cells cs t fr)) fun e w' => e = .returned (.int .u32 (num (on s l))) ∧ Below w0.heap.size w0 w' := by
  subst hn
  have h2 : Below w0.heap.size w0 (w1.alloc (.cells cs t fr)) := hw.alloc hw.size _
  exact (on_any s _ c l _ hl hb (rd_lit w1 l cs t fr hc)).mono fun e w' ⟨he, h⟩ => ⟨he, h2.trans (below_weak h2.size h)⟩
theorem of_lit {w0 w1 : World} (hw : Below w0.heap.size w0 w1) (l : List Int) (cs : Array Value) (t : TypeId) (fr : Nat × Nat) (n c : Nat) (hc : cs = (l.map (Value.int .u8)).toArray) (hn : l.length = n) (hl : n ≤ 9223372036854775807) (hb : Bts l) :
    Calls Tryz.prog 214 #[.slice (some ⟨w1.heap.size, 0, none⟩) n c] (w1.alloc (.cells cs t fr)) fun e w' => e = .returned (.int .u32 (num (on 0#32 l))) ∧ Below w0.heap.size w0 w' := by
  subst hn
  have h2 : Below w0.heap.size w0 (w1.alloc (.cells cs t fr)) := hw.alloc hw.size _
  exact (of_any _ c l _ hl hb (rd_lit w1 l cs t fr hc)).mono fun e w' ⟨he, h⟩ => ⟨he, h2.trans (below_weak h2.size h)⟩
theorem of_own {w0 w : World} {e : TypeId} {v : Value} {l : List Int} (bd : Below w0.heap.size w0 w) (hown : OwnI .u8 w w0.heap.size e v l) (hb : Bts l) (hl : l.length ≤ 9223372036854775807) :
    Calls Tryz.prog 214 #[v] w fun r w' => r = .returned (.int .u32 (num (on 0#32 l))) ∧ Below w0.heap.size w0 w' ∧ Below w.heap.size w w' := by
  obtain ⟨C, cc, rfl, _, _, hr, _⟩ := hown.slice
  exact (of_any C cc l w hl hb hr).mono fun r w' ⟨h1, h2⟩ => ⟨h1, bd.trans (below_weak bd.size h2), h2⟩
theorem on_own {w0 w : World} {e : TypeId} {v : Value} {l : List Int} (bd : Below w0.heap.size w0 w) (s : BitVec 32) (hown : OwnI .u8 w w0.heap.size e v l) (hb : Bts l) (hl : l.length ≤ 9223372036854775807) :
    Calls Tryz.prog 213 #[.int .u32 (num s), v] w fun r w' => r = .returned (.int .u32 (num (on s l))) ∧ Below w0.heap.size w0 w' ∧ Below w.heap.size w w' := by
  obtain ⟨C, cc, rfl, _, _, hr, _⟩ := hown.slice
  exact (on_any s C cc l w hl hb hr).mono fun r w' ⟨h1, h2⟩ => ⟨h1, bd.trans (below_weak bd.size h2), h2⟩
theorem tyB : RowTy Tryz.prog 45 5 .u8 := ⟨Tryz.underlying45, 1, by decide, by kernel_rfl⟩
theorem info1 : (Tryz.prog.info? 5).map (·.size) = some 1 := by kernel_rfl
end Go.Proofs.YticnjkdaccacaaaGreatDoor.Sums
end
section
/- Are two lists the same: slices.Equal, SameBytes; slices.Clone. -/
namespace Go.Proofs.YticnjkdaccacaaaGreatDoor.Same
open Go.RowKit Base _root_.Go.Proofs.YticnjkdaccacaaaGreatDoor.Own Sums

theorem take_next {a b : List Int} {k : Nat} (hl : a.length = b.length) (hk : k < a.length) (h : a.take k = b.take k) (he : a.getD k 0 = b.getD k 0) : a.take (k + 1) = b.take (k + 1) := by
  rw [List.take_succ_eq_append_getElem hk, List.take_succ_eq_append_getElem (by omega), h]
  rw [List.getD_eq_getElem?_getD, List.getD_eq_getElem?_getD, List.getElem?_eq_getElem hk, List.getElem?_eq_getElem (by omega)] at he
  simp only [Option.getD_some] at he
  rw [he]
theorem ne_of_cell {a b : List Int} {k : Nat} (he : ¬ a.getD k 0 = b.getD k 0) : decide (a = b) = false := by
  rw [decide_eq_false_iff_not]
  rintro rfl
  exact he rfl

theorem conv_str (P : Program) (w : World) (src e : TypeId) (hs : P.underlying src = some (.slice e)) (he : P.underlying e = some (.int .u8)) (A : Option Addr) (n c : Nat) (l : List Int) (hn : l.length = n) (h : Rd .u8 w A l) (dst : TypeId) (hd : P.underlying dst = some .string) :
    (convert src dst (.slice A n c)).run P w = .ok (.string (strOfNums l)) w := by
  cases A with
  | none =>
    obtain rfl := h.empty rfl
    exact run_convert_bytes_nil w src e hs he n c dst hd
  | some ad =>
    have hl : (loadCells ad n).run P w = .ok (l.map (Value.int .u8)).toArray w := by
      have := run_loadCells_list (P := P) w ad (l.map (Value.int .u8)) (fun j v hj => by
        have hjl : j < l.length := by
          rcases Nat.lt_or_ge j l.length with h | h
          · exact h
          · simp [List.getElem?_eq_none (show (l.map (Value.int .u8)).length ≤ j by simpa using h)] at hj
        obtain ⟨ad', e', _, hc⟩ := h.cell hjl
        cases e'
        rw [hc]
        simp [List.getElem?_eq_getElem hjl] at hj
        subst hj
        simp [List.getD, List.getElem?_eq_getElem hjl])
      simpa [hn] using this
    rw [run_convert_bytes_string w src dst e _ n c hs he hd, run_bytesToString w _ n c l hl, foldl_push_bytes]
    simp [strOfNums, ByteArray.empty, ByteArray.emptyWithCapacity]
    rfl
theorem str_inj : ∀ (l m : List Int), Bts l → Bts m → strOfNums l = strOfNums m → l = m := by
  intro l m hl hm h
  have h1 := congrArg (fun s : ByteArray => s.data.toList) h
  simp only [strOfNums_data] at h1
  clear h
  induction l generalizing m with
  | nil => cases m with
    | nil => rfl
    | cons y m => simp at h1
  | cons x l ih => cases m with
    | nil => simp at h1
    | cons y m =>
      simp only [List.map_cons, List.cons.injEq] at h1
      have hx := hl x (List.mem_cons_self)
      have hy := hm y (List.mem_cons_self)
      have h2 := congrArg UInt8.toNat h1.1
      rw [UInt8.toNat_ofNat', UInt8.toNat_ofNat'] at h2
      rw [ih m (fun z hz => hl z (List.mem_cons_of_mem _ hz)) (fun z hz => hm z (List.mem_cons_of_mem _ hz)) h1.2]
      congr 1
      omega
set_option maxRecDepth 100000 in
theorem sameBytes (A B : Option Addr) (ca cb : Nat) (a b : List Int) (w : World) (hla : a.length ≤ 1000000000) (hlb : b.length ≤ 1000000000) (ha : Rd .u8 w A a) (hb : Rd .u8 w B b) :
    Calls Tryz.prog 18 #[.slice A a.length ca, .slice B b.length cb] w fun e w' => e = .returned (.bool (decide (a = b))) ∧ Below w.heap.size w w' := by
  have HA := Lib.hid ha
  have HB := Lib.hid hb
  clear ha hb
  by_cases hlen : a.length = b.length
  · have hz : ((a.length : Int) == b.length) = true := by rw [beq_iff_eq]; omega
    have HL := Lib.hid hlen
    obtain ⟨n, hn⟩ : ∃ n, n = a.length := ⟨_, rfl⟩
    have HN := Lib.hid hn
    rw [← hlen, ← hn]
    rw [← hn] at hla
    clear hlen hlb hz hn
    go_enter Tryz.func18, Tryz.ntmps18
    go_wp2
    go_loopw [5] (fun i wr => ∃ k : Nat, k ≤ n ∧ i = .int .i64 k ∧ Hid (a.take k = b.take k) ∧ Hid (Below w.heap.size w wr)) (fun i _ => n - (intOf i).toNat)
    case atStart => exact ⟨0, by omega, rfl, by simp [Hid], Below.refl _ _⟩
    case round =>
      obtain ⟨k, hk, rfl, hat, hbd⟩ := hrel
      by_cases hlt : k < n
      · obtain ⟨x, rfl, hxb, hxc⟩ := (HA.out.below hbd.out).cell (j := k) (by rw [← HN.out]; exact hlt)
        obtain ⟨y, rfl, hyb, hyc⟩ := (HB.out.below hbd.out).cell (j := k) (by rw [← HL.out, ← HN.out]; exact hlt)
        by_cases he : a.getD k 0 = b.getD k 0
        · have HE := Lib.hid he
          rw [← he] at hyc
          clear he
          obtain ⟨z, hz⟩ : ∃ z, z = a.getD k 0 := ⟨_, rfl⟩
          rw [← hz] at hxc hyc
          clear hz
          go_wp2
          refine wp_region_sl [.one (0, true, some 17), .one (1, true, some 18), .one (2, true, some 19), .one (3, true, some 20), .one (4, true, some 21), .one (5, true, some 22), .one (6, true, some 23), .one (7, true, some 24), .one (8, true, some 25)]
                [.one ⟨true, some 17, (Go.Op.move (Go.Operand.tmp 0)), 45, none⟩,
                .one ⟨true, some 18, (Go.Op.move (Go.Operand.tmp 5)), 3, none⟩,
                .one ⟨true, some 19, (Go.Op.indexAddr 45 (Go.Operand.tmp 17) (Go.Operand.tmp 18)), 0, none⟩,
                .one ⟨true, some 20, (Go.Op.load 5 (Go.Operand.tmp 19)), 5, none⟩,
                .one ⟨true, some 21, (Go.Op.move (Go.Operand.tmp 1)), 45, none⟩,
                .one ⟨true, some 22, (Go.Op.move (Go.Operand.tmp 5)), 3, none⟩,
                .one ⟨true, some 23, (Go.Op.indexAddr 45 (Go.Operand.tmp 21) (Go.Operand.tmp 22)), 0, none⟩,
                .one ⟨true, some 24, (Go.Op.load 5 (Go.Operand.tmp 23)), 5, none⟩,
                .one ⟨true, some 25, (Go.Op.binOp Go.BinOp.neq 5 (Go.Operand.tmp 20) (Go.Operand.tmp 24) 5), 4, none⟩]
                (fun w' => w'.cell? (x.add k) = some (.int .u8 z) ∧ w'.cell? (y.add k) = some (.int .u8 z)) rfl (by kernel_rfl) (by kernel_rfl) ?_ ?_
          · exact ⟨hxc, hyc⟩
          (repeat (first | ((with_reducible refine sq (v := ?_) (a' := ?_) ?_ ?_ ?_); rotate_left 2; (focus (intro w' hS; go_simp; (first | done | with_reducible rfl | rfl))); (simp only [Act.put, List.setIfInBounds_toArray, List.set_cons_zero, List.set_cons_succ]; rfl)) | ((with_reducible refine sn (a' := ?_) ?_ ?_ ?_); rotate_left; (focus rfl); (simp only [Act.put, List.setIfInBounds_toArray, List.set_cons_zero, List.set_cons_succ]; rfl)) | ((with_reducible refine sf trivial (a' := ?_) ?_ ?_ ?_); rotate_left; (focus rfl); (simp only [Act.put, List.setIfInBounds_toArray, List.set_cons_zero, List.set_cons_succ]; rfl)) | ((with_reducible refine sqg (v := ?_) (a' := ?_) ?_ ?_ ?_ ?_); rotate_left 2; (focus rfl); (focus (intro w' hS; go_simp; (first | done | with_reducible rfl | rfl))); (simp only [Act.put, List.setIfInBounds_toArray, List.set_cons_zero, List.set_cons_succ]; rfl)))); (repeat ((go_bits; (first | ((with_reducible refine sq (v := ?_) (a' := ?_) ?_ ?_ ?_); rotate_left 2; (focus (intro w' hS; go_simp; (first | done | with_reducible rfl | rfl))); (simp only [Act.put, List.setIfInBounds_toArray, List.set_cons_zero, List.set_cons_succ]; rfl)) | ((with_reducible refine sn (a' := ?_) ?_ ?_ ?_); rotate_left; (focus rfl); (simp only [Act.put, List.setIfInBounds_toArray, List.set_cons_zero, List.set_cons_succ]; rfl)) | ((with_reducible refine sf trivial (a' := ?_) ?_ ?_ ?_); rotate_left; (focus rfl); (simp only [Act.put, List.setIfInBounds_toArray, List.set_cons_zero, List.set_cons_succ]; rfl)) | ((with_reducible refine sqg (v := ?_) (a' := ?_) ?_ ?_ ?_ ?_); rotate_left 2; (focus rfl); (focus (intro w' hS; go_simp; (first | done | with_reducible rfl | rfl))); (simp only [Act.put, List.setIfInBounds_toArray, List.set_cons_zero, List.set_cons_succ]; rfl)))); (repeat (first | ((with_reducible refine sq (v := ?_) (a' := ?_) ?_ ?_ ?_); rotate_left 2; (focus (intro w' hS; go_simp; (first | done | with_reducible rfl | rfl))); (simp only [Act.put, List.setIfInBounds_toArray, List.set_cons_zero, List.set_cons_succ]; rfl)) | ((with_reducible refine sn (a' := ?_) ?_ ?_ ?_); rotate_left; (focus rfl); (simp only [Act.put, List.setIfInBounds_toArray, List.set_cons_zero, List.set_cons_succ]; rfl)) | ((with_reducible refine sf trivial (a' := ?_) ?_ ?_ ?_); rotate_left; (focus rfl); (simp only [Act.put, List.setIfInBounds_toArray, List.set_cons_zero, List.set_cons_succ]; rfl)) | ((with_reducible refine sqg (v := ?_) (a' := ?_) ?_ ?_ ?_ ?_); rotate_left 2; (focus rfl); (focus (intro w' hS; go_simp; (first | done | with_reducible rfl | rfl))); (simp only [Act.put, List.setIfInBounds_toArray, List.set_cons_zero, List.set_cons_succ]; rfl)))))); (try go_bits)
          refine sl_end ?_
          go_wp2
          go_roundw
          case rel => exact ⟨k + 1, by omega, rfl, take_next HL.out (by rw [← HN.out]; exact hlt) hat.out HE.out, hbd.out.drew⟩
          case measure => simp [intOf]; omega
        · have HE := Lib.hid he
          obtain ⟨z, hz⟩ : ∃ z, z = a.getD k 0 := ⟨_, rfl⟩
          obtain ⟨z2, hz2⟩ : ∃ z, z = b.getD k 0 := ⟨_, rfl⟩
          rw [← hz, ← hz2] at he
          rw [← hz] at hxc
          rw [← hz2] at hyc
          clear hz hz2
          have hne : (z == z2) = false := by rw [beq_eq_false_iff_ne]; exact he
          clear he
          go_wp2
          refine wp_region_sl [.one (0, true, some 17), .one (1, true, some 18), .one (2, true, some 19), .one (3, true, some 20), .one (4, true, some 21), .one (5, true, some 22), .one (6, true, some 23), .one (7, true, some 24), .one (8, true, some 25)]
                [.one ⟨true, some 17, (Go.Op.move (Go.Operand.tmp 0)), 45, none⟩,
                .one ⟨true, some 18, (Go.Op.move (Go.Operand.tmp 5)), 3, none⟩,
                .one ⟨true, some 19, (Go.Op.indexAddr 45 (Go.Operand.tmp 17) (Go.Operand.tmp 18)), 0, none⟩,
                .one ⟨true, some 20, (Go.Op.load 5 (Go.Operand.tmp 19)), 5, none⟩,
                .one ⟨true, some 21, (Go.Op.move (Go.Operand.tmp 1)), 45, none⟩,
                .one ⟨true, some 22, (Go.Op.move (Go.Operand.tmp 5)), 3, none⟩,
                .one ⟨true, some 23, (Go.Op.indexAddr 45 (Go.Operand.tmp 21) (Go.Operand.tmp 22)), 0, none⟩,
                .one ⟨true, some 24, (Go.Op.load 5 (Go.Operand.tmp 23)), 5, none⟩,
                .one ⟨true, some 25, (Go.Op.binOp Go.BinOp.neq 5 (Go.Operand.tmp 20) (Go.Operand.tmp 24) 5), 4, none⟩]
                (fun w' => w'.cell? (x.add k) = some (.int .u8 z) ∧ w'.cell? (y.add k) = some (.int .u8 z2)) rfl (by kernel_rfl) (by kernel_rfl) ?_ ?_
          · exact ⟨hxc, hyc⟩
          (repeat (first | ((with_reducible refine sq (v := ?_) (a' := ?_) ?_ ?_ ?_); rotate_left 2; (focus (intro w' hS; go_simp; (first | done | with_reducible rfl | rfl))); (simp only [Act.put, List.setIfInBounds_toArray, List.set_cons_zero, List.set_cons_succ]; rfl)) | ((with_reducible refine sn (a' := ?_) ?_ ?_ ?_); rotate_left; (focus rfl); (simp only [Act.put, List.setIfInBounds_toArray, List.set_cons_zero, List.set_cons_succ]; rfl)) | ((with_reducible refine sf trivial (a' := ?_) ?_ ?_ ?_); rotate_left; (focus rfl); (simp only [Act.put, List.setIfInBounds_toArray, List.set_cons_zero, List.set_cons_succ]; rfl)) | ((with_reducible refine sqg (v := ?_) (a' := ?_) ?_ ?_ ?_ ?_); rotate_left 2; (focus rfl); (focus (intro w' hS; go_simp; (first | done | with_reducible rfl | rfl))); (simp only [Act.put, List.setIfInBounds_toArray, List.set_cons_zero, List.set_cons_succ]; rfl)))); (repeat ((go_bits; (first | ((with_reducible refine sq (v := ?_) (a' := ?_) ?_ ?_ ?_); rotate_left 2; (focus (intro w' hS; go_simp; (first | done | with_reducible rfl | rfl))); (simp only [Act.put, List.setIfInBounds_toArray, List.set_cons_zero, List.set_cons_succ]; rfl)) | ((with_reducible refine sn (a' := ?_) ?_ ?_ ?_); rotate_left; (focus rfl); (simp only [Act.put, List.setIfInBounds_toArray, List.set_cons_zero, List.set_cons_succ]; rfl)) | ((with_reducible refine sf trivial (a' := ?_) ?_ ?_ ?_); rotate_left; (focus rfl); (simp only [Act.put, List.setIfInBounds_toArray, List.set_cons_zero, List.set_cons_succ]; rfl)) | ((with_reducible refine sqg (v := ?_) (a' := ?_) ?_ ?_ ?_ ?_); rotate_left 2; (focus rfl); (focus (intro w' hS; go_simp; (first | done | with_reducible rfl | rfl))); (simp only [Act.put, List.setIfInBounds_toArray, List.set_cons_zero, List.set_cons_succ]; rfl)))); (repeat (first | ((with_reducible refine sq (v := ?_) (a' := ?_) ?_ ?_ ?_); rotate_left 2; (focus (intro w' hS; go_simp; (first | done | with_reducible rfl | rfl))); (simp only [Act.put, List.setIfInBounds_toArray, List.set_cons_zero, List.set_cons_succ]; rfl)) | ((with_reducible refine sn (a' := ?_) ?_ ?_ ?_); rotate_left; (focus rfl); (simp only [Act.put, List.setIfInBounds_toArray, List.set_cons_zero, List.set_cons_succ]; rfl)) | ((with_reducible refine sf trivial (a' := ?_) ?_ ?_ ?_); rotate_left; (focus rfl); (simp only [Act.put, List.setIfInBounds_toArray, List.set_cons_zero, List.set_cons_succ]; rfl)) | ((with_reducible refine sqg (v := ?_) (a' := ?_) ?_ ?_ ?_ ?_); rotate_left 2; (focus rfl); (focus (intro w' hS; go_simp; (first | done | with_reducible rfl | rfl))); (simp only [Act.put, List.setIfInBounds_toArray, List.set_cons_zero, List.set_cons_succ]; rfl)))))); (try go_bits)
          refine sl_end ?_
          go_wp2
          go_ret
          exact ⟨by rw [ne_of_cell HE.out]; rfl, hbd.out.drew⟩
      · obtain rfl : k = n := by omega
        go_wp2
        go_ret
        have e : a = b := by
          have h := hat.out
          rw [HN.out, List.take_length, HL.out, List.take_length] at h
          exact h
        exact ⟨by rw [decide_eq_true e]; rfl, hbd.out⟩
  · have hz : ((a.length : Int) == b.length) = false := by rw [beq_eq_false_iff_ne]; omega
    have e : decide (a = b) = false := by rw [decide_eq_false_iff_not]; rintro rfl; exact hlen rfl
    rw [e]
    go_enter Tryz.func18, Tryz.ntmps18
    go_wp2
    go_ret
    exact ⟨rfl, Below.refl _ _⟩
theorem sameBytes_m (A B : Option Addr) (n m ca cb : Nat) (a b : List Int) (w : World) (hn : a.length = n) (hm : b.length = m) (hla : n ≤ 1000000000) (hlb : m ≤ 1000000000) (ha : Rd .u8 w A a) (hb : Rd .u8 w B b) :
    Calls Tryz.prog 18 #[.slice A n ca, .slice B m cb] w fun e w' => e = .returned (.bool (decide (a = b))) ∧ Below w.heap.size w w' := by
  subst hn hm
  exact sameBytes A B ca cb a b w hla hlb ha hb
set_option maxRecDepth 100000 in
theorem equal (A B : Option Addr) (ca cb : Nat) (a b : List Int) (w : World) (hla : a.length ≤ 1000000000) (hlb : b.length ≤ 1000000000) (ha : Rd .u8 w A a) (hb : Rd .u8 w B b) :
    Calls Tryz.prog 248 #[.slice A a.length ca, .slice B b.length cb] w fun e w' => e = .returned (.bool (decide (a = b))) ∧ Below w.heap.size w w' := by
  have HA := Lib.hid ha
  have HB := Lib.hid hb
  clear ha hb
  by_cases hlen : a.length = b.length
  · have hz : ((a.length : Int) == b.length) = true := by rw [beq_iff_eq]; omega
    have HL := Lib.hid hlen
    obtain ⟨n, hn⟩ : ∃ n, n = a.length := ⟨_, rfl⟩
    have HN := Lib.hid hn
    rw [← hlen, ← hn]
    rw [← hn] at hla
    clear hlen hlb hz hn
    go_enter Tryz.func248, Tryz.ntmps248
    go_wp2
    go_loopw [13] (fun i wr => ∃ k : Nat, k ≤ n ∧ i = .int .i64 k ∧ Hid (a.take k = b.take k) ∧ Hid (Below w.heap.size w wr)) (fun i _ => n - (intOf i).toNat)
    case atStart => exact ⟨0, by omega, rfl, by simp [Hid], Below.refl _ _⟩
    case round =>
      obtain ⟨k, hk, rfl, hat, hbd⟩ := hrel
      by_cases hlt : k < n
      · obtain ⟨x, rfl, hxb, hxc⟩ := (HA.out.below hbd.out).cell (j := k) (by rw [← HN.out]; exact hlt)
        obtain ⟨y, rfl, hyb, hyc⟩ := (HB.out.below hbd.out).cell (j := k) (by rw [← HL.out, ← HN.out]; exact hlt)
        by_cases he : a.getD k 0 = b.getD k 0
        · have HE := Lib.hid he
          rw [← he] at hyc
          clear he
          obtain ⟨z, hz⟩ : ∃ z, z = a.getD k 0 := ⟨_, rfl⟩
          rw [← hz] at hxc hyc
          clear hz
          go_wp2
          refine wp_region_sl [.one (0, true, some 16), .one (1, true, some 17), .one (2, true, some 18), .one (3, true, some 19), .one (4, true, some 20), .one (5, true, some 21), .one (6, true, some 22), .one (7, true, some 23), .one (8, true, some 24)]
                [.one ⟨true, some 16, (Go.Op.move (Go.Operand.tmp 0)), 45, none⟩,
                .one ⟨true, some 17, (Go.Op.move (Go.Operand.tmp 5)), 3, none⟩,
                .one ⟨true, some 18, (Go.Op.indexAddr 45 (Go.Operand.tmp 16) (Go.Operand.tmp 17)), 0, none⟩,
                .one ⟨true, some 19, (Go.Op.load 5 (Go.Operand.tmp 18)), 5, none⟩,
                .one ⟨true, some 20, (Go.Op.move (Go.Operand.tmp 1)), 45, none⟩,
                .one ⟨true, some 21, (Go.Op.move (Go.Operand.tmp 5)), 3, none⟩,
                .one ⟨true, some 22, (Go.Op.indexAddr 45 (Go.Operand.tmp 20) (Go.Operand.tmp 21)), 0, none⟩,
                .one ⟨true, some 23, (Go.Op.load 5 (Go.Operand.tmp 22)), 5, none⟩,
                .one ⟨true, some 24, (Go.Op.binOp Go.BinOp.neq 5 (Go.Operand.tmp 19) (Go.Operand.tmp 23) 5), 4, none⟩]
                (fun w' => w'.cell? (x.add k) = some (.int .u8 z) ∧ w'.cell? (y.add k) = some (.int .u8 z)) rfl (by kernel_rfl) (by kernel_rfl) ?_ ?_
          · exact ⟨hxc, hyc⟩
          (repeat (first | ((with_reducible refine sq (v := ?_) (a' := ?_) ?_ ?_ ?_); rotate_left 2; (focus (intro w' hS; go_simp; (first | done | with_reducible rfl | rfl))); (simp only [Act.put, List.setIfInBounds_toArray, List.set_cons_zero, List.set_cons_succ]; rfl)) | ((with_reducible refine sn (a' := ?_) ?_ ?_ ?_); rotate_left; (focus rfl); (simp only [Act.put, List.setIfInBounds_toArray, List.set_cons_zero, List.set_cons_succ]; rfl)) | ((with_reducible refine sf trivial (a' := ?_) ?_ ?_ ?_); rotate_left; (focus rfl); (simp only [Act.put, List.setIfInBounds_toArray, List.set_cons_zero, List.set_cons_succ]; rfl)) | ((with_reducible refine sqg (v := ?_) (a' := ?_) ?_ ?_ ?_ ?_); rotate_left 2; (focus rfl); (focus (intro w' hS; go_simp; (first | done | with_reducible rfl | rfl))); (simp only [Act.put, List.setIfInBounds_toArray, List.set_cons_zero, List.set_cons_succ]; rfl)))); (repeat ((go_bits; (first | ((with_reducible refine sq (v := ?_) (a' := ?_) ?_ ?_ ?_); rotate_left 2; (focus (intro w' hS; go_simp; (first | done | with_reducible rfl | rfl))); (simp only [Act.put, List.setIfInBounds_toArray, List.set_cons_zero, List.set_cons_succ]; rfl)) | ((with_reducible refine sn (a' := ?_) ?_ ?_ ?_); rotate_left; (focus rfl); (simp only [Act.put, List.setIfInBounds_toArray, List.set_cons_zero, List.set_cons_succ]; rfl)) | ((with_reducible refine sf trivial (a' := ?_) ?_ ?_ ?_); rotate_left; (focus rfl); (simp only [Act.put, List.setIfInBounds_toArray, List.set_cons_zero, List.set_cons_succ]; rfl)) | ((with_reducible refine sqg (v := ?_) (a' := ?_) ?_ ?_ ?_ ?_); rotate_left 2; (focus rfl); (focus (intro w' hS; go_simp; (first | done | with_reducible rfl | rfl))); (simp only [Act.put, List.setIfInBounds_toArray, List.set_cons_zero, List.set_cons_succ]; rfl)))); (repeat (first | ((with_reducible refine sq (v := ?_) (a' := ?_) ?_ ?_ ?_); rotate_left 2; (focus (intro w' hS; go_simp; (first | done | with_reducible rfl | rfl))); (simp only [Act.put, List.setIfInBounds_toArray, List.set_cons_zero, List.set_cons_succ]; rfl)) | ((with_reducible refine sn (a' := ?_) ?_ ?_ ?_); rotate_left; (focus rfl); (simp only [Act.put, List.setIfInBounds_toArray, List.set_cons_zero, List.set_cons_succ]; rfl)) | ((with_reducible refine sf trivial (a' := ?_) ?_ ?_ ?_); rotate_left; (focus rfl); (simp only [Act.put, List.setIfInBounds_toArray, List.set_cons_zero, List.set_cons_succ]; rfl)) | ((with_reducible refine sqg (v := ?_) (a' := ?_) ?_ ?_ ?_ ?_); rotate_left 2; (focus rfl); (focus (intro w' hS; go_simp; (first | done | with_reducible rfl | rfl))); (simp only [Act.put, List.setIfInBounds_toArray, List.set_cons_zero, List.set_cons_succ]; rfl)))))); (try go_bits)
          refine sl_end ?_
          go_wp2
          go_roundw
          case rel => exact ⟨k + 1, by omega, rfl, take_next HL.out (by rw [← HN.out]; exact hlt) hat.out HE.out, hbd.out.drew⟩
          case measure => simp [intOf]; omega
        · have HE := Lib.hid he
          obtain ⟨z, hz⟩ : ∃ z, z = a.getD k 0 := ⟨_, rfl⟩
          obtain ⟨z2, hz2⟩ : ∃ z, z = b.getD k 0 := ⟨_, rfl⟩
          rw [← hz, ← hz2] at he
          rw [← hz] at hxc
          rw [← hz2] at hyc
          clear hz hz2
          have hne : (z == z2) = false := by rw [beq_eq_false_iff_ne]; exact he
          clear he
          go_wp2
          refine wp_region_sl [.one (0, true, some 16), .one (1, true, some 17), .one (2, true, some 18), .one (3, true, some 19), .one (4, true, some 20), .one (5, true, some 21), .one (6, true, some 22), .one (7, true, some 23), .one (8, true, some 24)]
                [.one ⟨true, some 16, (Go.Op.move (Go.Operand.tmp 0)), 45, none⟩,
                .one ⟨true, some 17, (Go.Op.move (Go.Operand.tmp 5)), 3, none⟩,
                .one ⟨true, some 18, (Go.Op.indexAddr 45 (Go.Operand.tmp 16) (Go.Operand.tmp 17)), 0, none⟩,
                .one ⟨true, some 19, (Go.Op.load 5 (Go.Operand.tmp 18)), 5, none⟩,
                .one ⟨true, some 20, (Go.Op.move (Go.Operand.tmp 1)), 45, none⟩,
                .one ⟨true, some 21, (Go.Op.move (Go.Operand.tmp 5)), 3, none⟩,
                .one ⟨true, some 22, (Go.Op.indexAddr 45 (Go.Operand.tmp 20) (Go.Operand.tmp 21)), 0, none⟩,
                .one ⟨true, some 23, (Go.Op.load 5 (Go.Operand.tmp 22)), 5, none⟩,
                .one ⟨true, some 24, (Go.Op.binOp Go.BinOp.neq 5 (Go.Operand.tmp 19) (Go.Operand.tmp 23) 5), 4, none⟩]
                (fun w' => w'.cell? (x.add k) = some (.int .u8 z) ∧ w'.cell? (y.add k) = some (.int .u8 z2)) rfl (by kernel_rfl) (by kernel_rfl) ?_ ?_
          · exact ⟨hxc, hyc⟩
          (repeat (first | ((with_reducible refine sq (v := ?_) (a' := ?_) ?_ ?_ ?_); rotate_left 2; (focus (intro w' hS; go_simp; (first | done | with_reducible rfl | rfl))); (simp only [Act.put, List.setIfInBounds_toArray, List.set_cons_zero, List.set_cons_succ]; rfl)) | ((with_reducible refine sn (a' := ?_) ?_ ?_ ?_); rotate_left; (focus rfl); (simp only [Act.put, List.setIfInBounds_toArray, List.set_cons_zero, List.set_cons_succ]; rfl)) | ((with_reducible refine sf trivial (a' := ?_) ?_ ?_ ?_); rotate_left; (focus rfl); (simp only [Act.put, List.setIfInBounds_toArray, List.set_cons_zero, List.set_cons_succ]; rfl)) | ((with_reducible refine sqg (v := ?_) (a' := ?_) ?_ ?_ ?_ ?_); rotate_left 2; (focus rfl); (focus (intro w' hS; go_simp; (first | done | with_reducible rfl | rfl))); (simp only [Act.put, List.setIfInBounds_toArray, List.set_cons_zero, List.set_cons_succ]; rfl)))); (repeat ((go_bits; (first | ((with_reducible refine sq (v := ?_) (a' := ?_) ?_ ?_ ?_); rotate_left 2; (focus (intro w' hS; go_simp; (first | done | with_reducible rfl | rfl))); (simp only [Act.put, List.setIfInBounds_toArray, List.set_cons_zero, List.set_cons_succ]; rfl)) | ((with_reducible refine sn (a' := ?_) ?_ ?_ ?_); rotate_left; (focus rfl); (simp only [Act.put, List.setIfInBounds_toArray, List.set_cons_zero, List.set_cons_succ]; rfl)) | ((with_reducible refine sf trivial (a' := ?_) ?_ ?_ ?_); rotate_left; (focus rfl); (simp only [Act.put, List.setIfInBounds_toArray, List.set_cons_zero, List.set_cons_succ]; rfl)) | ((with_reducible refine sqg (v := ?_) (a' := ?_) ?_ ?_ ?_ ?_); rotate_left 2; (focus rfl); (focus (intro w' hS; go_simp; (first | done | with_reducible rfl | rfl))); (simp only [Act.put, List.setIfInBounds_toArray, List.set_cons_zero, List.set_cons_succ]; rfl)))); (repeat (first | ((with_reducible refine sq (v := ?_) (a' := ?_) ?_ ?_ ?_); rotate_left 2; (focus (intro w' hS; go_simp; (first | done | with_reducible rfl | rfl))); (simp only [Act.put, List.setIfInBounds_toArray, List.set_cons_zero, List.set_cons_succ]; rfl)) | ((with_reducible refine sn (a' := ?_) ?_ ?_ ?_); rotate_left; (focus rfl); (simp only [Act.put, List.setIfInBounds_toArray, List.set_cons_zero, List.set_cons_succ]; rfl)) | ((with_reducible refine sf trivial (a' := ?_) ?_ ?_ ?_); rotate_left; (focus rfl); (simp only [Act.put, List.setIfInBounds_toArray, List.set_cons_zero, List.set_cons_succ]; rfl)) | ((with_reducible refine sqg (v := ?_) (a' := ?_) ?_ ?_ ?_ ?_); rotate_left 2; (focus rfl); (focus (intro w' hS; go_simp; (first | done | with_reducible rfl | rfl))); (simp only [Act.put, List.setIfInBounds_toArray, List.set_cons_zero, List.set_cons_succ]; rfl)))))); (try go_bits)
          refine sl_end ?_
          go_wp2
          go_ret
          exact ⟨by rw [ne_of_cell HE.out]; rfl, hbd.out.drew⟩
      · obtain rfl : k = n := by omega
        go_wp2
        go_ret
        have e : a = b := by
          have h := hat.out
          rw [HN.out, List.take_length, HL.out, List.take_length] at h
          exact h
        exact ⟨by rw [decide_eq_true e]; rfl, hbd.out⟩
  · have hz : ((a.length : Int) == b.length) = false := by rw [beq_eq_false_iff_ne]; omega
    have e : decide (a = b) = false := by rw [decide_eq_false_iff_not]; rintro rfl; exact hlen rfl
    rw [e]
    go_enter Tryz.func248, Tryz.ntmps248
    go_wp2
    go_ret
    exact ⟨rfl, Below.refl _ _⟩
theorem equal_m (A B : Option Addr) (n m ca cb : Nat) (a b : List Int) (w : World) (hn : a.length = n) (hm : b.length = m) (hla : n ≤ 1000000000) (hlb : m ≤ 1000000000) (ha : Rd .u8 w A a) (hb : Rd .u8 w B b) :
    Calls Tryz.prog 248 #[.slice A n ca, .slice B m cb] w fun e w' => e = .returned (.bool (decide (a = b))) ∧ Below w.heap.size w w' := by
  subst hn hm
  exact equal A B ca cb a b w hla hlb ha hb
/-- slices.Clone. -/
theorem clone (A : Option Addr) (n c : Nat) (l : List Int) (w : World) (hn : l.length = n) (hl : n ≤ 1000000000) (hA : A ≠ none ∨ n = 0 ∧ c = 0) (hr : Rd .u8 w A l) :
    Calls Tryz.prog 80 #[.slice A n c] w fun e w' => ∃ v, e = .returned v ∧ OwnI .u8 w' w.heap.size 5 v l ∧ Below w.heap.size w w' := by
  have hq : ∀ (W : World) (a : Option Addr) (n c n' c' : Nat), (binOp .eql 45 (.slice a n c) (.slice none n' c')).run Tryz.prog W = .ok (.bool a.isNone) W := fun W a n c n' c' => Lib.run_eql_slice_nil W _ _ a n c n' c' Tryz.underlying45
  cases A with
  | none =>
    obtain rfl := hr.empty rfl
    obtain ⟨rfl, rfl⟩ : n = 0 ∧ c = 0 := hA.elim (fun h => absurd rfl h) id
    go_enter Tryz.func80, Tryz.ntmps80
    go_wp2
    go_ret
    exact ⟨_, rfl, OwnI.nil _ _ _ _, Below.refl _ _⟩
  | some ad =>
    have HR := Lib.hid hr
    clear hr
    go_enter Tryz.func80, Tryz.ntmps80
    have H0 := Lib.hid (show Below w.heap.size w (w.alloc (.cells #[] 5)) ∧ OwnI .u8 (w.alloc (.cells #[] 5)) w.heap.size 5 (.slice (some ⟨w.heap.size, 0, none⟩) 0 0) [] from
      ⟨(Below.refl _ _).alloc (Nat.le_refl _) _, OwnI.made w .u8 [] 5 #[] rfl (Nat.le_refl _) (Nat.zero_le _)⟩)
    go_wp2_with (at_builtin; refine ap_list rfl Sums.tyB H0.out.1 H0.out.2 (HR.out.below H0.out.1) (fun e => by cases e) (by simp; omega) (.tmp 5) (.tmp 6) n c rfl rfl rfl hn ?_; intro v2 w2 own2 bd2 _ _; have H2 := Lib.hid (And.intro own2 bd2); clear own2 bd2)
    go_ret
    refine ⟨_, rfl, ?_, H2.out.2⟩
    have h := H2.out.1
    rwa [List.nil_append] at h
end Go.Proofs.YticnjkdaccacaaaGreatDoor.Same
end
section
/- Rows of structs that are read; slices of slices from here to there. -/
namespace Go.Proofs.YticnjkdaccacaaaGreatDoor.Sx
open Go Go.RowKit Base Own

theorem rs_get {α : Type} [Inhabited α] {r : Rdr α} {w : World} {A : Option Addr} {l : List α} (h : Rdr.Row r w A l) {i : Int} (hi : 0 ≤ i ∧ i < (l.length : Int)) :
    ∃ cs, r.R w cs (l.getD i.toNat default) ∧ ∃ ad, A = some ad ∧ ∀ j u, cs[j]? = some u → w.cell? (ad.add (i.toNat * r.sz + j)) = some u := by
  obtain ⟨j, rfl⟩ : ∃ j : Nat, i = j := ⟨i.toNat, by omega⟩
  have hj : j < l.length := by omega
  obtain ⟨ad, e, _, h2⟩ := h (by intro e; rw [e] at hj; exact absurd hj (Nat.not_lt_zero _))
  obtain ⟨c, h3, h4⟩ := h2 j _ (List.getElem?_eq_getElem hj)
  have hg : l.getD j default = l[j] := by rw [List.getD_eq_getElem?_getD, List.getElem?_eq_getElem hj]; rfl
  rw [Int.toNat_natCast, hg]
  exact ⟨c, h3, ad, e, h4⟩
/-- What is known of each element. -/
theorem rs_facts {α : Type} {r : Rdr α} {w : World} {A : Option Addr} {l : List α} (h : Rdr.Row r w A l) : ∀ x ∈ l, ∃ cs, r.R w cs x := fun x hx => by
  obtain ⟨i, hi, rfl⟩ := List.getElem_of_mem hx
  obtain ⟨ad, e, _, h2⟩ := h (by intro e; rw [e] at hi; exact absurd hi (Nat.not_lt_zero _))
  obtain ⟨c, h3, _⟩ := h2 i _ (List.getElem?_eq_getElem hi)
  exact ⟨c, h3⟩
section
variable {P : Program} {T : Orc} {ops : Array Oper} {Q : Exit → Act → World → Prop} {S' : World → Prop} {Df : List Deferred} {N : Nat} {a : Act} {w w0 : World} {L : Env} {R : List Asn}
theorem ldagg_at (hT : T.Ok P) (fr : FrD Df N a L) {o : Oper} {t : TypeId} {x : Operand} (ho : o.op = .load t x) {ad : Addr} {cs : List Value} {d : TypeDesc} (hx : ev L x = some (.pointer (some ad))) (ht : T.ty.lookup t = some d) (hd : aggD d = true) (hs : T.sz.lookup t = some cs.length)
    (hc : ∀ j u, cs[j]? = some u → w.cell? (ad.add j) = some u) : (execOp a.eval o).run P w = .ok (.value (.agg cs.toArray)) w := by
  have hld := run_loadCells_list (P := P) w ad cs hc
  unfold execOp
  simp only [ho, (fr.ev hx).1, Instr.loadAt, Instr.sureAddr, loadVar]
  simp [isAgg_run (hT.und ht), hd, size_run hT hs, hld]
theorem vok_agl {cs : List Value} (h : ∀ v ∈ cs, vok1 v = true) : vok (.agg cs.toArray) = true := by
  simp only [vok, vokC, List.all_eq_true]
  exact h
/-- An element of a row of structs. -/
theorem wl_ldrs (hT : T.Ok P) {o1 o2 : Oper} {rest : List Oper} {t te : TypeId} {x ix : Operand} {d1 d2 : Nat} {n c e z : Nat} {A : Option Addr} {ki : IntKind} {i : Int} {de : TypeDesc} {cs : List Value}
    (hr : ∃ ad, A = some ad ∧ ∀ j u, cs[j]? = some u → w.cell? (ad.add (i.toNat * z + j)) = some u) (hv : vok (.agg cs.toArray) = true) (fr : FrD Df N a L) (hw : wantL ops L o1 = some true) (ho1 : o1.op = .indexAddr t x ix) (hd1 : o1.dst = some d1) (hw2 : wantL ops L o2 = some true) (ho2 : o2.op = .load te (.tmp d1)) (hd2 : o2.dst = some d2) (hl1 : Nat.blt d1 N = true) (hl2 : Nat.blt d2 N = true)
    (hx : ev L x = some (.slice A n c)) (hi : ev L ix = some (.int ki i)) (ht : T.ty.lookup t = some (.slice e)) (hs : T.sz.lookup e = some z) (hte : T.ty.lookup te = some de) (hde : aggD de = true) (hse : T.sz.lookup te = some cs.length) (hf : L.lookup d1 = none) (hb : 0 ≤ i ∧ i < (n : Int))
    (h : ∀ a', FrD Df N a' ((d2, .agg cs.toArray) :: L) → wpList P ops Q rest a' w) : wpList P ops Q (o1 :: o2 :: rest) a w := by
  obtain ⟨ad, rfl, hc⟩ := hr
  refine wl_val fr hw hd1 hl1 (indexAddr_run hT fr ho1 hx hi ht hs hb.1 hb.2 w) rfl fun a1 fr1 => ?_
  exact wl_val fr1 (want_skip hw2 hf) hd2 hl2 (ldagg_at hT fr1 ho2 (by show ((d1, _) :: L).lookup d1 = _; rw [lookup_cons, if_pos rfl]) hte hde hse (fun j u hu => by rw [add_add]; exact hc j u hu)) hv fun a2 fr2 => h a2 (fr2.skip2 hf)
/-- A slice of a slice, from here to there. -/
theorem mid_run (hT : T.Ok P) (fr : FrD Df N a L) {o : Oper} {t : TypeId} {x y z : Operand} (ho : o.op = .slice t x (some y) (some z) none) {A : Option Addr} {n c e : Nat} {k1 k2 : IntKind} {i j : Int} (hx : ev L x = some (.slice A n c)) (hy : ev L y = some (.int k1 i)) (hz : ev L z = some (.int k2 j))
    (ht : T.ty.lookup t = some (.slice e)) (hi : (P.info? e).map (·.size) = some 1) (hb : (0 ≤ i ∧ i ≤ j) ∧ j ≤ (c : Int)) (w : World) : (execOp a.eval o).run P w = .ok (.value (.slice (dropA A c i.toNat) (j.toNat - i.toNat) (c - i.toNat))) w := by
  refine slice_run hT fr ho hx (vlo := some (.int k1 i)) (vhi := some (.int k2 j)) (vmx := none) (by simp [(fr.ev hy).1]) (by simp [(fr.ev hz).1]) rfl ht (fun w => ?_) w
  exact sl_mid t e k1 k2 (hT.und ht) hi A n c i.toNat j.toNat i j (by omega) (by omega) (by omega) (by omega) w
theorem wl_mid (hT : T.Ok P) {o : Oper} {rest : List Oper} {t : TypeId} {x y z : Operand} {d : Nat} {A : Option Addr} {l : List Int} {n c e : Nat} {k1 k2 : IntKind} {i j : Int} (fr : FrD Df N a L) (hw : wantL ops L o = some true) (ho : o.op = .slice t x (some y) (some z) none) (hd : o.dst = some d) (hlt : Nat.blt d N = true)
    (hx : ev L x = some (.slice A n c)) (hy : ev L y = some (.int k1 i)) (hz : ev L z = some (.int k2 j)) (ht : T.ty.lookup t = some (.slice e)) (hi : (P.info? e).map (·.size) = some 1) (hn : n = l.length) (hb : (0 ≤ i ∧ i ≤ j) ∧ j ≤ (l.length : Int))
    (h : ∀ a', FrD Df N a' ((d, .slice (dropA A c i.toNat) ((l.take j.toNat).drop i.toNat).length (c - i.toNat)) :: L) → wpList P ops Q rest a' w) : wpList P ops Q (o :: rest) a w := by
  subst hn
  have hs := fr.ev hx
  have hc : l.length ≤ c ∧ c ≤ maxLen := by simpa [vok, vokC, vok1] using hs.2
  have e : ((l.take j.toNat).drop i.toNat).length = j.toNat - i.toNat := by rw [List.length_drop, List.length_take]; omega
  rw [e] at h
  exact wl_val fr hw hd hlt (mid_run hT fr ho hx hy hz ht hi ⟨hb.1, by omega⟩ w) (vok_sl ⟨by omega, by omega⟩) h
end
end Go.Proofs.YticnjkdaccacaaaGreatDoor.Sx
end
section
/- Disks and the document's disk together: what is refused; both alike; rows of structs, a field of an element. -/
namespace Go.Proofs.YticnjkdaccacaaaGreatDoor.Sx
open Go Go.RowKit Base Own OwnV Disk Bytes

theorem vok1_c {v : Value} {vs : List Value} (h : vok1 v = true) (h2 : vs.all vok1 = true) : (v :: vs).all vok1 = true := by rw [List.all_cons, h, h2]; rfl
theorem vok1_ag {vs : List Value} (h : vs.all vok1 = true) : vok (.agg vs.toArray) = true := h
/-- A struct's variable, written over whole. -/
theorem wl_stu {P : Program} {T : Orc} {ops : Array Oper} {Q : Exit → Act → World → Prop} {Df : List Deferred} {N : Nat} {a : Act} {w w0 : World} {L : Env} {R : List Asn} (hT : T.Ok P) {o : Oper} {rest : List Oper} {te : TypeId} {p v : Operand} {b e' : Nat} {cs vs : List Value} (fr : FrD Df N a L) (hw : wantL ops L o = some true) (hd : o.dst = none) (ho : o.op = .store te p v) (hp : ev L p = some (.pointer (some ⟨b, 0, none⟩))) (hv : ev L v = some (.agg vs.toArray)) (hs : T.sz.lookup te = some vs.length)
    (hl : cs.length = vs.length) (h1 : vs.all (fun v => v.oneCell') = true) (h2 : vs.all vok = true) (S : Sat w0 w (stA e' b cs :: R)) (h : ∀ w', Sat w0 w' (stA e' b vs :: R) → wpList P ops Q rest a w') : wpList P ops Q (o :: rest) a w := by
  refine wl_stg hT fr hw hd ho hp hv hs hl ?_ S h
  rw [List.all_eq_true] at h1 h2 ⊢
  exact fun x hx => by rw [h1 x hx, h2 x hx]; rfl
section
variable {w w0 : World} {R : List Asn}
theorem same_call {A B : Option Addr} {ca cb : Nat} {a b : List Int} (ra : Rk .u8 w A a) (rb : Rk .u8 w B b) (hl : a.length ≤ 1000000000 ∧ b.length ≤ 1000000000) (S : Sat w0 w R) :
    Calls Tryz.prog 18 #[.slice A a.length ca, .slice B b.length cb] w fun e w' => e = .returned (.bool (decide (a = b))) ∧ Sat w0 w' R :=
  (Same.sameBytes A B ca cb a b w hl.1 hl.2 ra.rd rb.rd).mono fun e w' ⟨h1, h2⟩ => ⟨h1, S.new h2⟩
end
section
variable {w w0 : World} {d b : Nat} {D : Dk} {E : DM} {R : List Asn}
def likeOk (D : Dk) (E : DM) : Bool := decide (D.seen.length = E.1.length ∧ D.waits.length = E.2.length ∧ ∀ i, i < D.seen.length → D.seen.getD i [] = seenM E i)
theorem disk_read_no (S : Sat w0 w (diskA d D :: R)) {x : Int} (hx : ¬ (0 ≤ x ∧ x < D.seen.length)) :
    Calls Tryz.prog 16 #[.pointer (some ⟨d, 0, none⟩), .int .i64 x] w fun e w' => e = .returned (.tuple #[.slice none 0 0, .int .i64 1]) ∧ Sat w0 w' (diskA d D :: R) := by
  obtain ⟨F, h⟩ := S.hd
  have hm : mayOk D.seen.length x = 1 := by unfold mayOk; rw [if_neg hx]
  refine (Disk.read h x).mono ?_
  rintro e w' ⟨⟨v, rfl, h1, _⟩, hb⟩
  rw [hm] at h1 ⊢
  rw [h1 rfl]
  exact ⟨rfl, S.new hb⟩
def orcDr : Orc := ⟨[(3, .int .i64), (4, .bool), (5, .int .u8), (25, .int .i64), (45, .slice 5), (145, .struct #[Go.Field.mk "sure" 66 0 false "" "concordat/concordatref04" 0, Go.Field.mk "waits" 143 1 false "" "concordat/concordatref04" 24]), (28, .pointer 145), (142, .struct #[Go.Field.mk "sure" 139 0 false "" "concordat/sectors" 0, Go.Field.mk "seen" 139 1 false "" "concordat/sectors" 24, Go.Field.mk "waits" 140 2 false "" "concordat/sectors" 48]), (24, .pointer 142)],
  [(3, 1), (4, 1), (5, 1), (25, 1), (45, 1), (145, 2), (28, 1), (142, 3), (24, 1)]⟩
theorem orcDr_ok : orcDr.Ok Tryz.prog := ⟨⟨Tryz.underlying3, Tryz.underlying4, Tryz.underlying5, Tryz.underlying25, Tryz.underlying45, Tryz.underlying145, Tryz.underlying28, Tryz.underlying142, Tryz.underlying24, trivial⟩, ⟨by kernel_rfl, by kernel_rfl, by kernel_rfl, by kernel_rfl, by kernel_rfl, by kernel_rfl, by kernel_rfl, by kernel_rfl, by kernel_rfl, trivial⟩⟩
theorem enL1 : Enters Tryz.prog 79 := fun _ _ => by kernel_rfl
theorem enL2 : Enters Tryz.prog 83 := fun _ _ => by kernel_rfl
theorem enL3 : Enters Tryz.prog 23 := fun _ _ => by kernel_rfl
theorem enL4 : Enters Tryz.prog 24 := fun _ _ => by kernel_rfl
theorem enL5 : Enters Tryz.prog 16 := fun _ _ => by kernel_rfl
theorem enL6 : Enters Tryz.prog 17 := fun _ _ => by kernel_rfl
theorem enL7 : Enters Tryz.prog 18 := fun _ _ => by kernel_rfl
set_option maxRecDepth 100000 in
set_option maxHeartbeats 1000000 in
theorem like_call (hok : likeOk D E = true) (hb : E.2.length ≤ 1000000) (S : Sat w0 w (diskA d D :: ddkA b E :: R)) :
    Calls Tryz.prog 22 #[.pointer (some ⟨d, 0, none⟩), .pointer (some ⟨b, 0, none⟩)] w fun e w' => e = .returned (.bool true) ∧ Sat w0 w' (diskA d D :: ddkA b E :: R) := by
  obtain ⟨ho1, ho2, ho3⟩ := of_decide_eq_true hok
  have hmost := (disk_seen S).most
  have hDok := disk_seen S
  refine calls_start (N := 59) [.pointer (some ⟨d, 0, none⟩), .pointer (some ⟨b, 0, none⟩)] Tryz.func22 rfl rfl rfl rfl fun a fr => ?_
  skip; (repeat (with_reducible refine wp_seq ?_)); refine wp_region_lit ?_
  refine wl_run orcDr_ok 1 rfl fr fun a fr => ?_
  refine wpList_nil ?_; (repeat (with_reducible refine then_n ?_))
  skip; (repeat (with_reducible refine wp_seq ?_)); refine wp_region_lit ?_
  refine wl_run orcDr_ok 4 rfl fr fun a fr => ?_
  refine wl_call fr rfl rfl rfl rfl enL1 (disk_size S) ?_
  rintro _ w ⟨rfl, hw⟩
  subst hw
  refine ⟨_, rfl, vok_small hmost, fun a fr => ?_⟩
  refine wl_run orcDr_ok 1 rfl fr fun a fr => ?_
  refine wl_call fr rfl rfl rfl rfl enL2 (dd_size (S.frontAt 1 rfl)) ?_
  rintro _ w ⟨rfl, hv, S⟩
  refine ⟨_, rfl, hv, fun a fr => ?_⟩
  refine wl_run orcDr_ok 1 rfl fr fun a fr => ?_
  have fr := fr.bool (d := 18) rfl (show ((D.seen.length : Int) != (E.1.length : Int)) = false by simp [ho1])
  refine wl_run orcDr_ok 3 rfl fr fun a fr => ?_
  refine wl_call fr rfl rfl rfl rfl enL3 (disk_waits (S.frontAt 1 rfl)) ?_
  rintro _ w ⟨rfl, hv, hw⟩
  subst hw
  refine ⟨_, rfl, hv, fun a fr => ?_⟩
  refine wl_run orcDr_ok 1 rfl fr fun a fr => ?_
  refine wl_call fr rfl rfl rfl rfl enL4 (dd_waits S) ?_
  rintro _ w ⟨rfl, hv, S⟩
  refine ⟨_, rfl, hv, fun a fr => ?_⟩
  refine wl_run orcDr_ok 1 rfl fr fun a fr => ?_
  have fr := fr.bool (d := 25) rfl (show ((D.waits.length : Int) != (E.2.length : Int)) = false by simp [ho2])
  refine wl_run orcDr_ok 1 rfl fr fun a fr => ?_
  refine wpList_nil ?_; (repeat (with_reducible refine then_n ?_))
  skip; (repeat (with_reducible refine wp_seq ?_))
  refine cw_f fr rfl ?_
  refine wp_skip ?_
  (with_reducible refine then_n ?_)
  skip; (repeat (with_reducible refine wp_seq ?_)); refine wp_region_lit ?_
  refine wl_run orcDr_ok 1 rfl fr fun a fr => ?_
  refine wl_call fr rfl rfl rfl rfl enL2 (dd_size S) ?_
  rintro _ w ⟨rfl, hv, S⟩
  refine ⟨_, rfl, hv, fun a fr => ?_⟩
  refine wl_pv orcDr_ok fr rfl rfl rfl (po_quo rfl rfl rfl (by decide)) fun a fr => ?_
  refine wl_run orcDr_ok 2 rfl fr fun a fr => ?_
  refine wpList_nil ?_; (repeat (with_reducible refine then_n ?_))
  obtain ⟨st, hst, h1, h2⟩ : ∃ st : Nat, IntKind.wrap .i64 (1 + IntKind.wrap .i64 (Int.tdiv (E.1.length : Int) 40)) = (st : Int) ∧ 1 ≤ st ∧ st ≤ 1000 := by
    refine ⟨1 + E.1.length / 40, ?_, by omega, by omega⟩
    have e1 : Int.tdiv (E.1.length : Int) 40 = ((E.1.length / 40 : Nat) : Int) := by rw [Int.tdiv_eq_ediv_of_nonneg (by omega)]; omega
    have e2 : ∀ x : Int, 0 ≤ x → x ≤ 100000 → IntKind.wrap .i64 x = x := fun x h h' => IntWalk.i64_in _ ⟨by omega, by omega⟩
    rw [e1, e2 ((E.1.length / 40 : Nat) : Int) (by omega) (by omega), e2 _ (by omega) (by omega)]
    omega
  have fr := fr.spell (d := 5) rfl (congrArg (Value.int .i64) hst)
  skip; (repeat (with_reducible refine wp_seq ?_)); refine wp_region_lit ?_
  refine wl_run orcDr_ok 1 rfl fr fun a fr => ?_
  refine wpList_nil ?_; (repeat (with_reducible refine then_n ?_))
  have S := S.frontAt 1 rfl
  skip; (repeat (with_reducible refine wp_seq ?_))
  refine wp_block ?_
  refine cw_loop (fun q a w1 => ∃ i : Nat, (E.1.length - i) + 1 ≤ q ∧ i ≤ E.1.length + 1000 ∧ Fr 59 a [(0, .pointer (some ⟨d, 0, none⟩)), (1, .pointer (some ⟨b, 0, none⟩)), (5, .int .i64 (st : Int)), (6, .int .i64 (i : Int))] ∧ Sat w0 w1 (diskA d D :: ddkA b E :: R)) (E.1.length + 1)
    ⟨0, by omega, by omega, fr.sub ⟨rfl, rfl, rfl, rfl, trivial⟩, S⟩ ?_ ?_
  · rintro a w1 ⟨i, h, h', -⟩
    omega
  clear fr S
  rintro q a w1 ⟨i, hi, hi', fr, S⟩
  skip; (repeat (with_reducible refine wp_seq ?_)); refine wp_region_lit ?_
  refine wl_run orcDr_ok 2 rfl fr fun a fr => ?_
  refine wl_call fr rfl rfl rfl rfl enL2 (dd_size (S.frontAt 1 rfl)) ?_
  rintro _ w2 ⟨rfl, hv, S⟩
  refine ⟨_, rfl, hv, fun a fr => ?_⟩
  refine wl_run orcDr_ok 1 rfl fr fun a fr => ?_
  refine wpList_nil ?_; (repeat (with_reducible refine then_n ?_))
  by_cases hlt : i < E.1.length
  rotate_left
  · have fr := fr.bool (d := 34) rfl (decide_eq_false (show ¬ (i : Int) < (E.1.length : Int) by omega))
    skip; (repeat (with_reducible refine wp_seq ?_))
    refine cw_f fr rfl ?_
    refine wp_exit ?_
    skip; (repeat (first | (with_reducible refine then_e ?_) | (with_reducible refine ng_e ?_) | (with_reducible refine blk_e (by decide) ?_))); (with_reducible refine blk_y ?_); (repeat (with_reducible refine then_n ?_))
    skip; (repeat (with_reducible refine wp_seq ?_)); refine wp_region_lit ?_
    refine wl_run orcDr_ok 1 rfl fr fun a fr => ?_
    refine wpList_nil ?_; (repeat (with_reducible refine then_n ?_))
    refine wp_ret ?_
    skip; (repeat (first | (with_reducible refine then_r ?_) | (with_reducible refine blk_r ?_) | (with_reducible refine ng_r ?_)))
    refine ret1 fr rfl rfl ?_
    exact ⟨rfl, S.frontAt 1 rfl⟩
  have fr := fr.bool (d := 34) rfl (decide_eq_true (show (i : Int) < (E.1.length : Int) by omega))
  have eqi : D.seen.getD i [] = seenM E i := ho3 i (by omega)
  have hp64 : (seenM E i).length = 64 := by rw [← eqi]; exact (seen_pc hDok (by omega)).1
  skip; (repeat (with_reducible refine wp_seq ?_))
  refine cw_t fr rfl ?_
  refine wp_skip ?_
  (with_reducible refine then_n ?_)
  skip; (repeat (with_reducible refine wp_seq ?_))
  refine wp_block ?_
  skip; (repeat (with_reducible refine wp_seq ?_)); refine wp_region_lit ?_
  refine wl_run orcDr_ok 2 rfl fr fun a fr => ?_
  have H := disk_read (x := (i : Int)) (S.frontAt 1 rfl) ⟨by omega, by omega⟩
  rw [Int.toNat_natCast, eqi] at H
  refine wl_call fr rfl rfl rfl rfl enL5 H ?_
  clear H
  rintro _ w3 ⟨A1, c1, rfl, hv, S⟩
  refine ⟨_, rfl, hv, fun a fr => ?_⟩
  refine wl_run orcDr_ok 5 rfl fr fun a fr => ?_
  refine wpList_nil ?_; (repeat (with_reducible refine then_n ?_))
  skip; (repeat (with_reducible refine wp_seq ?_)); refine wp_region_lit ?_
  refine wl_run orcDr_ok 2 rfl fr fun a fr => ?_
  have H := dd_read (x := (i : Int)) ⟨by omega, by omega⟩ ⟨hb, by omega, by rw [Int.toNat_natCast, hp64]; decide⟩ (S.frontAt 2 rfl)
  rw [Int.toNat_natCast] at H
  refine wl_call fr rfl rfl rfl rfl enL6 H ?_
  clear H
  rintro _ w4 ⟨A2, c2, rfl, hv, S⟩
  refine ⟨_, rfl, hv, fun a fr => ?_⟩
  refine wl_run orcDr_ok 5 rfl fr fun a fr => ?_
  refine wpList_nil ?_; (repeat (with_reducible refine then_n ?_))
  skip; (repeat (with_reducible refine wp_seq ?_)); refine wp_region_lit ?_
  refine wl_run orcDr_ok 4 rfl fr fun a fr => ?_
  have fr := fr.bool (d := 53) rfl (show ((0 : Int) != 0) = false by decide)
  refine wl_run orcDr_ok 2 rfl fr fun a fr => ?_
  refine wl_call fr rfl rfl rfl rfl enL7 (same_call (Sat.ownAt S 2 rfl) (Sat.ownAt S 0 rfl) ⟨by omega, by omega⟩ S) ?_
  rintro _ w5 ⟨rfl, S⟩
  refine ⟨_, rfl, rfl, fun a fr => ?_⟩
  have fr := fr.bool (d := 56) rfl (show decide (seenM E i = seenM E i) = true by simp)
  refine wl_run orcDr_ok 2 rfl fr fun a fr => ?_
  refine wpList_nil ?_; (repeat (with_reducible refine then_n ?_))
  skip; (repeat (with_reducible refine wp_seq ?_))
  refine cw_f fr rfl ?_
  refine wp_skip ?_
  (repeat (first | (with_reducible refine then_n ?_) | (with_reducible refine blk_n ?_) | (with_reducible refine ng_n ?_)))
  skip; (repeat (with_reducible refine wp_seq ?_)); refine wp_region_lit ?_
  refine wl_run orcDr_ok 4 rfl fr fun a fr => ?_
  refine wpList_nil ?_; (repeat (with_reducible refine then_n ?_))
  have e2 : IntKind.wrap .i64 ((i : Int) + (st : Int)) = ((i + st : Nat) : Int) := by rw [show IntKind.wrap .i64 ((i : Int) + (st : Int)) = (i : Int) + (st : Int) from IntWalk.i64_in _ ⟨by omega, by omega⟩]; omega
  have fr := fr.spell (d := 6) rfl (congrArg (Value.int .i64) e2)
  have S := (S.tl.frontAt 1 rfl).tl
  exact ⟨i + st, by omega, by omega, fr.sub ⟨rfl, rfl, rfl, rfl, trivial⟩, S.frontAt 1 rfl⟩
end
end Go.Proofs.YticnjkdaccacaaaGreatDoor.Sx
end
section
/- Plain functions, printed out of the program's own by a program of this work (wip/tools/shal.py). -/
namespace Go.Proofs.YticnjkdaccacaaaGreatDoor.Pl
open Go Go.RowKit Sx Base Own Disk Bytes

def great.l1 : Nat → List (Int × Int × List (Int) × Int × Int × Unit) → Int → Int → Option (Bool)
  | 0, _, _, _ => none
  | k1 + 1, l0, x1, x2 =>
    (if (decide (x2 < (List.length l0 : Int))) = true then (if 0 ≤ x2 ∧ x2 < (List.length l0 : Int) then (lt (List.getD l0 (Int.toNat x2) default) fun y6 => (lt (IntKind.wrap .i64 ((IntKind.wrap .i64 (x1 + (1 : Int))) + (List.length y6.2.2.1 : Int))) fun y9 => (if (decide (y9 > (20000 : Int))) = true then (some (true)) else ((great.l1 k1 l0) y9 (IntKind.wrap .i64 (x2 + (1 : Int))))))) else none) else (lt (decide ((List.length l0 : Int) > (200 : Int))) fun y10 => (some (y10))))
def great.f (k : Nat) (l0 : List (Int × Int × List (Int) × Int × Int × Unit)) : Option (Bool) :=
  (great.l1 k l0 (0 : Int) (0 : Int))
def SectorsPlay.j1 (kl1 : Int → List (List Int) × List (Int × List Int) → Dk → Int → Option (Bool)) (y19 : Int × Int × List (Int) × Int × Int × Unit) (x11 : Int) (D26 : List (List Int) × List (Int × List Int)) (D28 : Dk) (x29 : Int) : Option (Bool) :=
  (lt (List.length D26.2 : Int) fun y30 => (if ((List.length D28.waits : Int) != y30) = true then none else (if List.length y19.2.2.1 ≤ 100000000000 then (if List.length y19.2.2.1 ≤ 100000000000 ∧ x29 < (1000000000 : Int) then (kl1 (x29 + 1) D26 D28 (IntKind.wrap .i64 (x11 + (1 : Int)))) else none) else none)))
def SectorsPlay.l1 : Nat → List (Int × Int × List (Int) × Int × Int × Unit) → Int → List (List Int) × List (Int × List Int) → Dk → Int → Option (Bool)
  | 0, _, _, _, _, _ => none
  | k1 + 1, l1, x6, D8, D10, x11 =>
    (if (decide (x11 < (List.length l1 : Int))) = true then (if 0 ≤ x11 ∧ x11 < (List.length l1 : Int) then (lt (List.getD l1 (Int.toNat x11) default) fun y19 => (if List.length y19.2.2.1 ≤ 100000000000 then (if ((Int.tmod y19.1 (6 : Int)) == (0 : Int)) = true then (if ((Int.tmod y19.1 (6 : Int)) == (0 : Int)) = true then (if (List.length D10.waits ≤ 1000000000 ∧ List.length y19.2.2.1 ≤ 1000000000) then (lt (Dk.writeR D10 y19.2.1 y19.2.2.1) fun D31 => (if List.length D8.2 ≤ 1000000 then (lt (wrE (List.length D8.1) y19.2.1 y19.2.2.1) fun y32 => (lt (wrM D8 y19.2.1 y19.2.2.1) fun D33 => (if ((writeCode (List.length D10.seen) y19.2.1 y19.2.2.1) != y32) = true then none else (SectorsPlay.j1 (SectorsPlay.l1 k1 l1) y19 x11 D33 D31 x6)))) else none)) else none) else (if ((Int.tmod y19.1 (6 : Int)) == (2 : Int)) = true then (if (∀ p ∈ D8.2, 0 ≤ p.1 ∧ p.1 < (List.length D8.1 : Int)) ∧ List.length D8.2 ≤ 1000000 ∧ List.length D8.1 ≤ 1000000 then (lt (syncM D8) fun D34 => (SectorsPlay.j1 (SectorsPlay.l1 k1 l1) y19 x11 D34 (Dk.sync D10) x6)) else none) else (if ((Int.tmod y19.1 (6 : Int)) == (3 : Int)) = true then (if (0 ≤ y19.2.1 ∧ y19.2.1 < (List.length D10.seen : Int)) then (lt (List.getD D10.seen (Int.toNat y19.2.1) []) fun l35 => (if (0 ≤ y19.2.1 ∧ y19.2.1 < (List.length D8.1 : Int)) then (if List.length D8.2 ≤ 1000000 ∧ List.length D8.1 ≤ 1000000 ∧ List.length (seenM D8 (Int.toNat y19.2.1)) ≤ 1000000 then (lt (seenM D8 (Int.toNat y19.2.1)) fun l38 => (if List.length l35 ≤ 1000000000 ∧ List.length l38 ≤ 1000000000 then (lt (decide (l35 = l38)) fun y41 => (if (!y41) = true then none else (if List.length l35 ≤ 100000000000 ∧ x6 < (1000000000 : Int) then (SectorsPlay.j1 (SectorsPlay.l1 k1 l1) y19 x11 D8 D10 (x6 + 1)) else none))) else none)) else none) else none)) else (if (0 ≤ y19.2.1 ∧ y19.2.1 < (List.length D8.1 : Int)) then none else (if List.length ([] : List Int) ≤ 1000000000 ∧ List.length ([] : List Int) ≤ 1000000000 then (lt (decide (([] : List Int) = ([] : List Int))) fun y45 => (if (!y45) = true then none else (if List.length ([] : List Int) ≤ 100000000000 ∧ x6 < (1000000000 : Int) then (SectorsPlay.j1 (SectorsPlay.l1 k1 l1) y19 x11 D8 D10 (x6 + 1)) else none))) else none))) else (if ((-1 : Int) ≤ y19.2.2.2.2.1) then (if List.length D10.waits ≤ 1000000 then (lt (Dk.fail D10 y19.2.2.2.1 y19.2.2.2.2.1) fun D46 => (if ((-1 : Int) ≤ y19.2.2.2.2.1) then (if (∀ p ∈ D8.2, (0 ≤ p.1 ∧ p.1 < (List.length D8.1 : Int)) ∧ List.length p.2 = 64) ∧ (∀ p ∈ D8.1, List.length p = 64) ∧ List.length D8.2 ≤ 1000000 ∧ List.length D8.1 ≤ 1000000 then (lt ((failQ y19.2.2.2.2.1 0 y19.2.2.2.1 D8.1 D8.2, []) : List (List Int) × List (Int × List Int)) fun D48 => (if likeOk D46 D48 = true ∧ List.length D48.2 ≤ 1000000 then (if ((Int.tmod y19.1 (6 : Int)) == (4 : Int)) = true then (SectorsPlay.j1 (SectorsPlay.l1 k1 l1) y19 x11 D48 D46 x6) else (SectorsPlay.j1 (SectorsPlay.l1 k1 l1) y19 x11 D8 D10 x6)) else none)) else none) else none)) else none) else (if ((-1 : Int) ≤ y19.2.2.2.2.1) then none else (SectorsPlay.j1 (SectorsPlay.l1 k1 l1) y19 x11 D8 D10 x6)))))) else (if ((Int.tmod y19.1 (6 : Int)) == (1 : Int)) = true then (if (List.length D10.waits ≤ 1000000000 ∧ List.length y19.2.2.1 ≤ 1000000000) then (lt (Dk.writeR D10 y19.2.1 y19.2.2.1) fun D52 => (if List.length D8.2 ≤ 1000000 then (lt (wrE (List.length D8.1) y19.2.1 y19.2.2.1) fun y53 => (lt (wrM D8 y19.2.1 y19.2.2.1) fun D54 => (if ((writeCode (List.length D10.seen) y19.2.1 y19.2.2.1) != y53) = true then none else (SectorsPlay.j1 (SectorsPlay.l1 k1 l1) y19 x11 D54 D52 x6)))) else none)) else none) else (if ((Int.tmod y19.1 (6 : Int)) == (2 : Int)) = true then (if (∀ p ∈ D8.2, 0 ≤ p.1 ∧ p.1 < (List.length D8.1 : Int)) ∧ List.length D8.2 ≤ 1000000 ∧ List.length D8.1 ≤ 1000000 then (lt (syncM D8) fun D55 => (SectorsPlay.j1 (SectorsPlay.l1 k1 l1) y19 x11 D55 (Dk.sync D10) x6)) else none) else (if ((Int.tmod y19.1 (6 : Int)) == (3 : Int)) = true then (if (0 ≤ y19.2.1 ∧ y19.2.1 < (List.length D10.seen : Int)) then (lt (List.getD D10.seen (Int.toNat y19.2.1) []) fun l56 => (if (0 ≤ y19.2.1 ∧ y19.2.1 < (List.length D8.1 : Int)) then (if List.length D8.2 ≤ 1000000 ∧ List.length D8.1 ≤ 1000000 ∧ List.length (seenM D8 (Int.toNat y19.2.1)) ≤ 1000000 then (lt (seenM D8 (Int.toNat y19.2.1)) fun l59 => (if List.length l56 ≤ 1000000000 ∧ List.length l59 ≤ 1000000000 then (lt (decide (l56 = l59)) fun y62 => (if (!y62) = true then none else (if List.length l56 ≤ 100000000000 ∧ x6 < (1000000000 : Int) then (SectorsPlay.j1 (SectorsPlay.l1 k1 l1) y19 x11 D8 D10 (x6 + 1)) else none))) else none)) else none) else none)) else (if (0 ≤ y19.2.1 ∧ y19.2.1 < (List.length D8.1 : Int)) then none else (if List.length ([] : List Int) ≤ 1000000000 ∧ List.length ([] : List Int) ≤ 1000000000 then (lt (decide (([] : List Int) = ([] : List Int))) fun y66 => (if (!y66) = true then none else (if List.length ([] : List Int) ≤ 100000000000 ∧ x6 < (1000000000 : Int) then (SectorsPlay.j1 (SectorsPlay.l1 k1 l1) y19 x11 D8 D10 (x6 + 1)) else none))) else none))) else (if ((-1 : Int) ≤ y19.2.2.2.2.1) then (if List.length D10.waits ≤ 1000000 then (lt (Dk.fail D10 y19.2.2.2.1 y19.2.2.2.2.1) fun D67 => (if ((-1 : Int) ≤ y19.2.2.2.2.1) then (if (∀ p ∈ D8.2, (0 ≤ p.1 ∧ p.1 < (List.length D8.1 : Int)) ∧ List.length p.2 = 64) ∧ (∀ p ∈ D8.1, List.length p = 64) ∧ List.length D8.2 ≤ 1000000 ∧ List.length D8.1 ≤ 1000000 then (lt ((failQ y19.2.2.2.2.1 0 y19.2.2.2.1 D8.1 D8.2, []) : List (List Int) × List (Int × List Int)) fun D69 => (if likeOk D67 D69 = true ∧ List.length D69.2 ≤ 1000000 then (if ((Int.tmod y19.1 (6 : Int)) == (4 : Int)) = true then (SectorsPlay.j1 (SectorsPlay.l1 k1 l1) y19 x11 D69 D67 x6) else (SectorsPlay.j1 (SectorsPlay.l1 k1 l1) y19 x11 D8 D10 x6)) else none)) else none) else none)) else none) else (if ((-1 : Int) ≤ y19.2.2.2.2.1) then none else (SectorsPlay.j1 (SectorsPlay.l1 k1 l1) y19 x11 D8 D10 x6))))))) else none)) else none) else (if likeOk D10 D8 = true ∧ List.length D8.2 ≤ 1000000 then (some (true)) else none))
def SectorsPlay.f (k : Nat) (a0 : Int) (l1 : List (Int × Int × List (Int) × Int × Int × Unit)) : Option (Bool) :=
  (Option.bind (great.f k l1) fun r1 => (if r1 = true then (some (true)) else (if (1 ≤ a0 ∧ a0 ≤ (4096 : Int)) then (if (1 ≤ a0 ∧ a0 ≤ (4096 : Int)) then (lt ((List.replicate (Int.toNat a0) (List.replicate 64 (0 : Int)), []) : List (List Int) × List (Int × List Int)) fun D3 => (SectorsPlay.l1 k l1 (0 : Int) D3 (Disk.blank (Int.toNat a0)) (0 : Int))) else none) else (if (1 ≤ a0 ∧ a0 ≤ (4096 : Int)) then none else (some (true))))))
end Go.Proofs.YticnjkdaccacaaaGreatDoor.Pl
end
