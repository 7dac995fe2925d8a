/- SumsTurned walked. -/
import Derived.Test.YtdhogkenmpgklaaAlive03
import Derived.Test.YtdhogkenmpgklaaCrc2
import Derived.OpenShut
namespace Go.Proofs.Ytdhogkenmpgklaa.LawTurned
open Go.RowKit Crc Sums Base Alive Own

set_option maxRecDepth 100000 in
theorem law (B : Option Addr) (cb : Nat) (b : List Int) (at_ : Int) (s : BitVec 32) (w : World) (hb : b.length ≤ 140737488351232) (hbb : Bts b) (hrb : Rd .u8 w B b) (h0 : 0 ≤ at_) (h1 : at_ < 4294967296) :
    Calls Try.prog 5 #[.slice B b.length cb, .int .u32 at_, .int .u32 (num s)] w fun e w' => e = .returned (.bool true) ∧ Below w.heap.size w w' := by
  by_cases hbig : 100000 < b.length
  · go_enter Try.func5, Try.ntmps5
    go_wp2_with fail
    refine (alive_any _).mono ?_
    rintro e w1 ⟨rfl, hb1⟩
    go_wp2_with fail
    refine (alive_any _).mono ?_
    rintro e w2 ⟨rfl, hb2⟩
    go_wp2
    go_ret
    exact ⟨rfl, hb1.trans (below_weak hb1.size hb2)⟩
  by_cases hz : b.length = 0
  · have hz1 : ((b.length : Int) == 0) = true := by rw [beq_iff_eq]; omega
    have hz2 : b.isEmpty = true := by rw [List.isEmpty_iff]; exact List.eq_nil_of_length_eq_zero hz
    have hz3 : b = [] := List.eq_nil_of_length_eq_zero hz
    subst hz3
    go_enter Try.func5, Try.ntmps5
    go_wp2_with fail
    refine (alive_any _).mono ?_
    rintro e w1 ⟨rfl, hb1⟩
    go_wp2_with fail
    refine (alive_any _).mono ?_
    rintro e w2 ⟨rfl, hb2⟩
    go_wp2
    go_ret
    exact ⟨rfl, hb1.trans (below_weak hb1.size hb2)⟩
  · have hz1 : ((b.length : Int) == 0) = false := by rw [beq_eq_false_iff_ne]; omega
    have hpos : 0 < b.length := by omega
    have HBB := Lib.hid hbb
    have HRB := Lib.hid hrb
    clear hbb hrb
    go_enter Try.func5, Try.ntmps5
    go_wp2_with fail
    refine (alive_any _).mono ?_
    rintro e w1 ⟨rfl, bd⟩
    have own0 := OwnI.nil .u8 w1 w.heap.size 5
    go_wp2_with (first
      | (at_builtin; refine ap_list rfl tyB bd own0 (HRB.out.below bd) HRB.out.empty (by simp; omega) (.const (.slice none 0 0)) _ b.length cb rfl rfl rfl rfl ?_; clear own0 bd; intro v2 w3 own2 bd2 _ _; have H2 := Lib.hid (And.intro own2 bd2); clear own2 bd2))
    obtain ⟨F, hF, hF2⟩ : ∃ F : Nat, F < 8 * b.length ∧ wrap64 (at_ % (8 * (b.length : Int))) = F := by
      have a1 := Int.emod_nonneg at_ (b := 8 * (b.length : Int)) (by omega)
      have a2 := Int.emod_lt_of_pos at_ (b := 8 * (b.length : Int)) (by omega)
      refine ⟨(at_ % (8 * (b.length : Int))).toNat, by omega, ?_⟩
      unfold wrap64
      omega
    have hor : bits .or .u32 (num s) 1 = num (s ||| 1#32) := by
      rw [one_num]
      unfold bits; show IntKind.u32.wrap ((BitVec.ofInt 32 (num s) ||| BitVec.ofInt 32 (num 1#32)).toNat : Int) = _
      rw [of_num, of_num, w32]
    have hs0 : (s ||| 1#32).getLsbD 0 = true := by rw [BitVec.getLsbD_or]; simp
    rw [hF2, hor]
    generalize (s ||| 1#32) = S at hs0 ⊢
    have HS0 := Lib.hid hs0
    have own2 := H2.out.1
    have bd2 := H2.out.2
    rw [List.nil_append] at own2
    obtain ⟨g, cc, rfl⟩ := own2.ptr hpos
    have HO := Lib.hid own2
    have HB := Lib.hid bd2
    clear H2 own2 bd2 hor hF2 hs0
    go_loopw [9] (fun i wr => ∃ (k : Nat) (l : List Int), k ≤ 32 ∧ F + k ≤ 8 * b.length ∧ i = .int .i64 k ∧ Hid (l.length = b.length) ∧ Hid (Bts l) ∧ Hid (OwnI .u8 wr w.heap.size 5 (.slice (some ⟨g, 0, none⟩) b.length cc) l) ∧ Hid (Below w.heap.size w wr) ∧ Hid (raw (~~~ 0#32) l = raw (~~~ 0#32) b ^^^ stps (8 * b.length - F) (low S k))) (fun i _ => 32 - (intOf i).toNat)
    case atStart =>
      refine ⟨0, b, by omega, by omega, rfl, rfl, HBB.out, HO.out, HB.out, ?_⟩
      show raw (~~~ 0#32) b = _
      have : stps (8 * b.length - F) 0#32 = 0#32 := stps_zero _
      rw [low_zero, this, BitVec.xor_zero]
    case round =>
      obtain ⟨k, l, hk, hk2, rfl, hll, hlb, hlo, hbd, hraw⟩ := hrel
      by_cases hc : k < 32 ∧ F + k < 8 * b.length
      · have hc1 : (k : Int) < 32 := by omega
        have hc2 : (F : Int) + k < 8 * (b.length : Int) := by omega
        have hj : (F + k) / 8 < l.length := by rw [hll.out]; omega
        obtain ⟨hce, hfr, hgB, hgs, _, hncc⟩ := hlo.out.cell hj
        have hbit := bit_walk S k
        cases hS : S.getLsbD k with
        | true =>
          rw [hS] at hbit
          have HSk := Lib.hid hS
          clear hS
          have hgd : l[(F + k) / 8] = l.getD ((F + k) / 8) 0 := by rw [List.getD_eq_getElem?_getD, List.getElem?_eq_getElem hj]; rfl
          have HG := Lib.hid hgd
          clear hgd
          go_wp2
          go_roundw
          case measure => simp [intOf]; omega
          case rel =>
            refine ⟨k + 1, l.set ((F + k) / 8) (bits .xor .u8 (l.getD ((F + k) / 8) 0) ((2 : Int) ^ ((F + k) % 8) % 256)), by omega, by omega, by go_num, by rw [List.length_set]; exact hll.out, bt_set hlb.out hj (Nat.mod_lt _ (by omega)), ?_, hbd.out.setCell hgB _, ?_⟩
            · rw [HG.out]; exact hlo.out.set hj
            · exact turn_step b l S b.length F k hll.out hlb.out hc.1 hc.2 HSk.out hraw.out
        | false =>
          rw [hS] at hbit
          have HSk := Lib.hid hS
          clear hS
          go_wp2
          go_roundw
          case measure => simp [intOf]; omega
          case rel => exact ⟨k + 1, l, by omega, by omega, by go_num, hll, hlb, hlo, hbd, turn_skip b l S _ k hc.1 HSk.out hraw.out⟩
      · have hk0 : 0 < k := by omega
        have hfin := turn_end b l S _ k hk0 HS0.out hraw.out
        have hlo' := hlo.out
        rw [← hll.out] at hlo'
        have HO' := Lib.hid hlo'
        clear hlo'
        by_cases h32 : k < 32
        · have hc1 : (k : Int) < 32 := by omega
          have hc2 : ¬ (F : Int) + k < 8 * (b.length : Int) := by omega
          go_wp2_with fail
          refine (of_own (w0 := w) hbd.out hlo.out hlb.out (by rw [hll.out]; omega)).mono ?_
          rintro e w6 ⟨rfl, bd, _⟩
          go_wp2_with fail
          refine (of_from bd B cb b.length b rfl (by omega) HBB.out HRB.out).mono ?_
          clear bd
          rintro e w7 ⟨rfl, bd⟩
          go_wp2
          go_ret
          exact ⟨rfl, bd⟩
        · have hc1 : ¬ (k : Int) < 32 := by omega
          go_wp2_with fail
          refine (of_own (w0 := w) hbd.out hlo.out hlb.out (by rw [hll.out]; omega)).mono ?_
          rintro e w6 ⟨rfl, bd, _⟩
          go_wp2_with fail
          refine (of_from bd B cb b.length b rfl (by omega) HBB.out HRB.out).mono ?_
          clear bd
          rintro e w7 ⟨rfl, bd⟩
          go_wp2
          go_ret
          exact ⟨rfl, bd⟩
theorem sumsTurned (B : Option Addr) (cb : Nat) (b : List Int) (x y : Int) (w : World)
    (_ : b.length ≤ cb) (hb : b.length ≤ 140737488351232) (wb : ∀ n ∈ b, (Lit.int .u8 n).wf = true) (hrb : Rd .u8 w B b) (wx : (Lit.int .u32 x).wf = true) (wy : (Lit.int .u32 y).wf = true) :
    Calls Try.prog 5 #[.slice B b.length cb, .int .u32 x, .int .u32 y] w fun e w' => e = .returned (.bool true) ∧ Below w.heap.size w w' := by
  have hx := bounds_u32 wx
  have hy := bounds_u32 wy
  have := law B cb b x (BitVec.ofInt 32 y) w hb (fun x hx => by have := bounds_u8 (wb x hx); omega) hrb (by omega) (by omega)
  rwa [num_of (by omega) (by omega)] at this
end Go.Proofs.Ytdhogkenmpgklaa.LawTurned
