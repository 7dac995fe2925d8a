/- The walk of frames.Get. -/
import Derived.Test.YticnjkdaccacaaaDoorFrames
import Derived.Test.YticnjkdaccacaaaDoorSame
namespace Go.Proofs.YticnjkdaccacaaaDoor.Frames
open Go.RowKit Crc Sums Base Own

def val (b : List Int) : Nat → Int
  | 0 => 0
  | k + 1 => val b k * 256 + b.getD k 0
theorem val_range {b : List Int} (hb : Bts b) : ∀ k, k ≤ b.length → 0 ≤ val b k ∧ val b k < 256 ^ k := by
  intro k
  induction k with
  | zero => intro _; exact ⟨Int.le_refl _, by unfold val; decide⟩
  | succ k ih =>
    intro hk
    have h1 := ih (by omega)
    have h2 := hb.getD (j := k) (by omega)
    unfold val
    rw [Int.pow_succ]
    omega
/-- What stands at the beginning of bytes. -/
def get (b : List Int) : Option (List Int × Nat) :=
  if b.length < 8 then none else
  if 16384 < val b 4 then none else
  if b.length < nsec (val b 4).toNat * 64 then none else
  if put ((b.drop 8).take (val b 4).toNat) = b.take (nsec (val b 4).toNat * 64) then some ((b.drop 8).take (val b 4).toNat, nsec (val b 4).toNat) else none
def Got (w' : World) (B : Nat) (e : Ending) : Option (List Int × Nat) → Prop
  | none => e = .returned (.tuple #[.slice none 0 0, .int .i64 0, .int .i64 4])
  | some (r, k) => ∃ v, e = .returned (.tuple #[v, .int .i64 k, .int .i64 0]) ∧ OwnI .u8 w' B 5 v r
theorem or_low (n y : Int) (h0 : 0 ≤ n) (h1 : n < 16777216) (h2 : 0 ≤ y) (h3 : y < 256) : bits .or .u32 (n * 256) y = n * 256 + y := by
  have e1 : ∀ x : Int, 0 ≤ x → x < 4294967296 → (BitVec.ofInt 32 x).toNat = x.toNat := fun x a b => by rw [BitVec.toNat_ofInt]; simp; omega
  have h5 := Nat.shiftLeft_add_eq_or_of_lt (show y.toNat < 2 ^ 8 by omega) n.toNat
  unfold bits; show IntKind.u32.wrap ((BitVec.ofInt 32 (n * 256) ||| BitVec.ofInt 32 y).toNat : Int) = _
  rw [BitVec.toNat_or, e1 _ (by omega) (by omega), e1 _ (by omega) (by omega), show (n * 256).toNat = n.toNat <<< 8 by rw [Nat.shiftLeft_eq]; omega, ← h5, IntKind.wrap_u32', Nat.shiftLeft_eq]
  omega

set_option maxRecDepth 100000 in
theorem get_any (A : Option Addr) (c : Nat) (b : List Int) (w : World) (hl : b.length ≤ 100000000) (hb : Bts b) (hr : Rd .u8 w A b) (hc : b.length ≤ c) :
    Calls Tryd.prog 12 #[.slice A b.length c] w fun e w' => Got w' w.heap.size e (get b) ∧ Below w.heap.size w w' := by
  by_cases h8 : b.length < 8
  · have : get b = none := by unfold get; rw [if_pos h8]
    rw [this]
    go_enter Tryd.func12, Tryd.ntmps12
    go_wp2
    go_ret3
    exact ⟨rfl, Below.refl _ _⟩
  · have HR := Lib.hid hr
    have HB := Lib.hid hb
    clear hr hb
    have h4 : (4 : Int) ≤ c := by omega
    have h4' : 4 ≤ c := by omega
    go_enter Tryd.func12, Tryd.ntmps12
    go_wp2
    go_loopw [5, 17] (fun n i wr => ∃ (k : Nat) (N : Int), k ≤ 4 ∧ i = .int .i64 k ∧ n = .int .u32 N ∧ Hid (N = val b k) ∧ Hid (Below w.heap.size w wr)) (fun _ i _ => 4 - (intOf i).toNat)
    case atStart => exact ⟨0, 0, by omega, rfl, rfl, rfl, Below.refl _ _⟩
    case round =>
      obtain ⟨k, N, hk, rfl, rfl, hN, hbd⟩ := hrel
      by_cases hlt : k < 4
      · obtain ⟨x, rfl, hxb, hxc⟩ := (HR.out.below hbd.out).cell (j := k) (by omega)
        have hv := val_range HB.out k (by omega)
        have hy := HB.out.getD (j := k) (by omega)
        have hN1 : 0 ≤ N ∧ N < 16777216 := by
          rw [hN.out]
          have : (256 : Int) ^ k ≤ 16777216 := by
            rcases (show k = 0 ∨ k = 1 ∨ k = 2 ∨ k = 3 by omega) with rfl | rfl | rfl | rfl <;> decide
          omega
        clear hv
        obtain ⟨y, hye⟩ : ∃ y, y = b.getD k 0 := ⟨_, rfl⟩
        rw [← hye] at hxc hy
        have HY := Lib.hid hye
        clear hye
        go_wp2
        go_roundw
        case rel =>
          refine ⟨k + 1, N * 256 + y, by omega, rfl, by rw [or_low N y hN1.1 hN1.2 hy.1 hy.2], ?_, hbd⟩
          show _ = val b k * 256 + b.getD k 0
          rw [hN.out, HY.out]
        case measure => simp [intOf]; omega
      · obtain rfl : k = 4 := by omega
        have hNr : 0 ≤ N := by rw [hN.out]; exact (val_range HB.out 4 (by omega)).1
        by_cases hbig : 16384 < N
        · have : get b = none := by unfold get; rw [if_neg h8, if_pos (by rw [← hN.out]; exact hbig)]
          have HG := Lib.hid this
          clear this
          go_wp2
          go_ret3
          exact ⟨by rw [HG.out]; rfl, hbd.out⟩
        · obtain ⟨n, rfl⟩ : ∃ n : Nat, N = n := ⟨N.toNat, by omega⟩
          have hn : n ≤ 16384 := by omega
          have hval : (val b 4).toNat = n := by rw [← hN.out]; simp
          have hval2 : ¬ 16384 < val b 4 := by rw [← hN.out]; exact hbig
          have HVA := Lib.hid (And.intro hval hval2)
          clear hval hval2 hN hNr
          go_wp2_with fail
          refine (sectors n (by omega) _).mono ?_
          rintro e w1 ⟨rfl, h⟩
          subst h
          have hSb : nsec n ≤ 258 ∧ n + 8 ≤ nsec n * 64 := by unfold nsec; omega
          by_cases hlen : b.length < nsec n * 64
          · have : get b = none := by unfold get; rw [if_neg h8, if_neg (Int.not_lt.2 HVA.out.2), HVA.out.1, if_pos hlen]
            have HG := Lib.hid this
            clear this HVA
            obtain ⟨S, hS⟩ : ∃ S, S = nsec n := ⟨_, rfl⟩
            rw [← hS] at hlen hSb ⊢
            have hS2 : (S : Int) ≤ 258 := by omega
            have hlt : (b.length : Int) < S * 64 := by omega
            clear hS hSb
            go_wp2
            go_ret3
            exact ⟨by rw [HG.out]; rfl, hbd.out⟩
          · obtain ⟨S, hS⟩ : ∃ S, S = nsec n := ⟨_, rfl⟩
            have HS := Lib.hid hS
            rw [← hS] at hlen hSb ⊢
            clear hS
            have hS2 : (S : Int) ≤ 258 := by omega
            have hlt : ¬ (b.length : Int) < S * 64 := by omega
            have hcut := sl_cut (P := Tryd.prog) 22 5 .i64 .i64 .i64 Tryd.underlying22 Sums.info1 A b.length c 8 (8 + n) (8 + n) 8 (8 + (n : Int)) (8 + (n : Int)) (by omega) (by omega) (by omega) (by omega) (by omega) (by omega)
            rw [show 8 + n - 8 = n by omega] at hcut
            go_wp2_with fail
            have hrr : Rd .u8 w1 (dropA A (8 + n) 8) ((b.drop 8).take n) := by
              have h1 := (((HR.out.below hbd.out).take (8 + n)).drop (n := 8) (c := 8 + n) (by rw [List.length_take]; omega))
              rwa [List.drop_take, show 8 + n - 8 = n by omega] at h1
            refine (Same.clone (dropA A (8 + n) 8) n n ((b.drop 8).take n) w1 (by rw [List.length_take, List.length_drop]; omega) (by omega) ?_ hrr).mono ?_
            · left; obtain ⟨x, rfl, _⟩ := HR.out.cell (j := 0) (by omega); unfold dropA; split <;> simp
            rintro e w2 ⟨v, rfl, own2, bd2⟩
            obtain ⟨r, hrE⟩ : ∃ r, r = (b.drop 8).take n := ⟨_, rfl⟩
            have HRE := Lib.hid hrE
            rw [← hrE] at own2
            clear hrr hrE
            have hrl : r.length = n := by rw [HRE.out, List.length_take, List.length_drop]; omega
            have hrb : Bts r := by rw [HRE.out]; exact (HB.out.drop 8).take n
            have H2 := Lib.hid (And.intro own2 (And.intro bd2 (And.intro hrl hrb)))
            clear own2 bd2 hrl hrb
            go_wp2_with fail
            refine (put_own H2.out.1 (by rw [H2.out.2.2.1]; omega) H2.out.2.2.2).mono ?_
            rintro e w3 ⟨v3, rfl, own3, bd3⟩
            have hput := put_length r
            rw [H2.out.2.2.1, ← HS.out] at hput
            have HP := Lib.hid hput
            have H3 := Lib.hid (And.intro own3 (And.intro bd3 (H2.out.1.new bd3)))
            clear own3 bd3 hput hcut
            have hcut2 : ∀ W, (Instr.slice 22 (.slice A b.length c) none (some (.int .i64 ((S : Int) * 64))) none).run Tryd.prog W = .ok (.slice A (S * 64) c) W := by
              have h := sl_take (P := Tryd.prog) 22 5 .i64 Tryd.underlying22 Sums.info1 A b.length c (S * 64) (by omega)
              rwa [show ((S * 64 : Nat) : Int) = (S : Int) * 64 by omega] at h
            obtain ⟨A3, c3, hv3, _, _, hr3, _⟩ := H3.out.1.slice
            rw [HP.out] at hv3
            subst hv3
            have HR3 := Lib.hid hr3
            clear hr3
            go_wp2_with fail
            have hbd3 : Below w1.heap.size w1 w3 := H2.out.2.1.trans (below_weak H2.out.2.1.size H3.out.2.1)
            have hbd4 := hbd.out.trans (below_weak hbd.out.size hbd3)
            have HB4 := Lib.hid hbd4
            refine (Same.equal_m A3 A (S * 64) (S * 64) c3 c (put r) (b.take (S * 64)) w3 HP.out (by rw [List.length_take]; omega) (by omega) (by omega) HR3.out ((HR.out.below hbd4).take _)).mono ?_
            clear hbd3 hbd4
            rintro e w4 ⟨rfl, bd4⟩
            have HB5 := Lib.hid (HB4.out.trans (below_weak HB4.out.size bd4))
            have H5 := Lib.hid (H3.out.2.2.new bd4)
            clear bd4
            by_cases heq : put r = b.take (S * 64)
            · have hg : get b = some (r, S) := by
                unfold get; rw [if_neg h8, if_neg (Int.not_lt.2 HVA.out.2), HVA.out.1, ← HS.out, if_neg hlen, ← HRE.out, if_pos heq]
              have HG := Lib.hid hg
              rw [decide_eq_true heq]
              clear hg heq
              go_wp2
              go_ret3
              exact ⟨by rw [HG.out]; exact ⟨_, rfl, H5.out.lower hbd.out.size⟩, HB5.out⟩
            · have hg : get b = none := by
                unfold get; rw [if_neg h8, if_neg (Int.not_lt.2 HVA.out.2), HVA.out.1, ← HS.out, if_neg hlen, ← HRE.out, if_neg heq]
              have HG := Lib.hid hg
              rw [decide_eq_false heq]
              clear hg heq
              go_wp2
              go_ret3
              exact ⟨by rw [HG.out]; rfl, HB5.out⟩
end Go.Proofs.YticnjkdaccacaaaDoor.Frames
