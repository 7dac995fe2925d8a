/- FramesAny walked. -/
import Derived.Test.YtifbmhlnkjcmhaaAlive05
namespace Go.Proofs.Ytifbmhlnkjcmhaa.LawFAny
open Go.RowKit Crc Sums Base Own Frames Same Alive

set_option maxHeartbeats 1000000 in
set_option maxRecDepth 100000 in
theorem law (A : Option Addr) (ca : Nat) (b : List Int) (w : World) (hl : b.length ≤ 140737488351232) (hc : b.length ≤ ca) (hb : Bts b) (hr : Rd .u8 w A b) :
    Calls Try.prog 4 #[.slice A b.length ca] w fun e w' => e = .returned (.bool true) ∧ Below w.heap.size w w' := by
  have HA := Lib.hid (And.intro hb (And.intro hr hc))
  clear hb hr hc
  go_enter Try.func4, Try.ntmps4
  go_wp2_with fail
  refine (alive_any _).mono ?_
  rintro e w1 ⟨rfl, b1⟩
  have B1 := Lib.hid b1
  clear b1
  by_cases h1 : 30000 < b.length
  · go_wp2_with fail
    refine (alive_any _).mono ?_
    rintro e w2 ⟨rfl, b2⟩
    go_wp2
    go_ret
    exact ⟨rfl, B1.out.trans (below_weak B1.out.size b2)⟩
  go_wp2_with fail
  refine (get_any A ca b w1 (by omega) HA.out.1 (HA.out.2.1.below B1.out) HA.out.2.2).mono ?_
  cases hg : get b with
  | none =>
    rintro e w2 ⟨rfl, b2⟩
    clear hg
    go_wp2
    go_ret
    exact ⟨rfl, B1.out.trans (below_weak B1.out.size b2)⟩
  | some x =>
    obtain ⟨r, k⟩ := x
    rintro e w2 ⟨⟨v, rfl, o2⟩, b2⟩
    have hgs := get_some hg
    have hrb : Bts r := by rw [hgs.2.2.2.2]; exact (HA.out.1.drop 8).take _
    have B2 := Lib.hid (B1.out.trans (below_weak B1.out.size b2))
    have HG := Lib.hid (And.intro hgs hrb)
    have O2 := Lib.hid o2
    clear hg hgs hrb b2 o2
    go_wp2_with fail
    refine (put_own O2.out HG.out.1.2.1 HG.out.2).mono ?_
    rintro e w3 ⟨v3, rfl, o3, b3⟩
    obtain ⟨A3, c3, rfl, -, -, hr3, -⟩ := o3.slice
    have hpl : (put r).length = k * 64 := by rw [put_length, ← HG.out.1.1]
    obtain ⟨L, hL⟩ : ∃ L, L = (put r).length := ⟨_, rfl⟩
    rw [← hL] at hpl ⊢
    have hkb := HG.out.1.2.2.2.1
    have q1 : 64 * (k : Int) = L := by omega
    have q2 : (L : Int) ≤ b.length := by omega
    have q3 : L ≤ ca := by have := HA.out.2.2; omega
    have q4 : (k : Int) ≤ 1000 := by omega
    have s1 := sl_take (P := Try.prog) 22 5 .i64 Try.underlying22 TwinBytes.info1 A b.length ca L q3
    have B3 := Lib.hid (B2.out.trans (below_weak B2.out.size b3))
    have H3 := Lib.hid (And.intro hr3 (And.intro hL hpl))
    clear o3 hr3 b3 hL hpl hkb q3
    go_wp2_with fail
    refine (sameBytes_m A3 A L L c3 ca (put r) (b.take L) w3 H3.out.2.1.symm (by rw [List.length_take]; omega) (by omega) (by omega) H3.out.1 ((HA.out.2.1.take L).below B3.out)).mono ?_
    rw [show decide (put r = b.take L) = true by rw [decide_eq_true_iff, H3.out.2.2]; exact HG.out.1.2.2.1]
    rintro e w4 ⟨rfl, b4⟩
    have B4 := Lib.hid (B3.out.trans (below_weak B3.out.size b4))
    clear b4
    go_wp2
    go_ret
    exact ⟨rfl, B4.out⟩
theorem framesAny (A : Option Addr) (ca : Nat) (r : List Int) (w : World) (hc : r.length ≤ ca) (hr : r.length ≤ 140737488351232) (wr : ∀ n ∈ r, (Lit.int .u8 n).wf = true) (hrr : Rd .u8 w A r) :
    Calls Try.prog 4 #[.slice A r.length ca] w fun e w' => e = .returned (.bool true) ∧ Below w.heap.size w w' :=
  law A ca r w hr hc (fun x hx => by have := bounds_u8 (wr x hx); omega) hrr
end Go.Proofs.Ytifbmhlnkjcmhaa.LawFAny
