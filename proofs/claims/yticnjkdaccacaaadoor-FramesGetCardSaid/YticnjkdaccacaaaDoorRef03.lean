/- The chapter's reference, walked. -/
import Derived.Test.YticnjkdaccacaaaDoorSums
import Derived.Test.YticnjkdaccacaaaDoorCrc2
namespace Go.Proofs.YticnjkdaccacaaaDoor.Ref03
open Go.RowKit Crc Sums Base Own

set_option maxRecDepth 100000 in
theorem on_any (s : BitVec 32) (A : Option Addr) (c : Nat) (l : List Int) (w : World) (hl : l.length ≤ 9223372036854775807) (hb : Bts l) (hr : Rd .u8 w A l) :
    Calls Tryd.prog 62 #[.int .u32 (num s), .slice A l.length c] w fun e w' => e = .returned (.int .u32 (num (on s l))) ∧ w = w' := by
  have HB := Lib.hid hb
  have HR := Lib.hid hr
  clear hb hr
  have hs0 := (num_range s).1
  have hs1 := (num_range s).2
  go_enter Tryd.func62, Tryd.ntmps62
  go_wp2
  go_loop [5, 6] (fun v i => ∃ (k : Nat) (x : BitVec 32), k ≤ l.length ∧ i = .int .i64 k ∧ v = .int .u32 (num x) ∧ Hid (x = raw (~~~ s) (l.take k))) (fun _ i => l.length - (intOf i).toNat)
  case atStart => exact ⟨0, ~~~ s, by omega, rfl, by rw [sub_walk'], rfl⟩
  case round =>
    obtain ⟨k, x, hk, rfl, rfl, hx⟩ := hrel
    have hx0 := (num_range x).1
    have hx1 := (num_range x).2
    by_cases hlt : k < l.length
    · obtain ⟨ad, e, hb, hcell⟩ := HR.out.cell hlt
      subst e
      obtain ⟨y, hy⟩ : ∃ y, y = l.getD k 0 := ⟨_, rfl⟩
      rw [← hy] at hcell
      have hyr : 0 ≤ y ∧ y < 256 := by rw [hy]; exact HB.out.getD hlt
      have hy0 := hyr.1
      have hy1 := hyr.2
      have HY := Lib.hid hy
      have hxw := xor_walk x y hy0 hy1
      clear hy hyr hb
      go_wp2
      go_loop [5, 7] (fun v i => ∃ (j : Nat) (z : BitVec 32), j ≤ 8 ∧ i = .int .i64 j ∧ v = .int .u32 (num z) ∧ Hid (stps (8 - j) z = byt x y)) (fun _ i => 8 - (intOf i).toNat)
      case atStart => exact ⟨0, _, by omega, rfl, rfl, rfl⟩
      case round =>
        clear hxw
        obtain ⟨j, z, hj, rfl, rfl, hz⟩ := hrel
        by_cases hlj : j < 8
        · have hodd := odd_walk_t z
          have hz' : stps (8 - (j + 1)) (stp z) = byt x y := by rw [← hz.out, show 8 - j = (8 - (j + 1)) + 1 by omega]; rfl
          have HZ := Lib.hid hz'
          clear hz hz'
          cases hbit : z.getLsbD 0 with
          | true =>
            rw [hbit] at hodd
            have hst := half_odd_t z hbit
            clear hbit
            clear hx0 hx1 hs0 hs1
            go_wp2
            go_round
            case rel => exact ⟨j + 1, stp z, by omega, by go_num, rfl, HZ⟩
            case measure => simp [intOf]; omega
          | false =>
            rw [hbit] at hodd
            have HST := Lib.hid (half_even_t z hbit)
            clear hbit
            clear hx0 hx1 hs0 hs1
            go_wp2
            go_round
            case rel => exact ⟨j + 1, stp z, by omega, by go_num, by rw [HST.out], HZ⟩
            case measure => simp [intOf]; omega
        · obtain rfl : j = 8 := by omega
          have hz' : z = byt x y := hz.out
          subst hz'
          clear hz
          go_wp2
          go_round
          case rel => exact ⟨k + 1, byt x y, by omega, by go_num, rfl, by show byt x y = _; rw [hx.out, HY.out, List.take_succ_eq_append_getElem hlt, raw_append, List.getD_eq_getElem?_getD, List.getElem?_eq_getElem hlt]; rfl⟩
          case measure => simp [intOf]; omega
    · obtain rfl : k = l.length := by omega
      go_wp2
      go_ret
      exact ⟨by show Ending.returned (.int .u32 (4294967295 - num x)) = _; rw [sub_walk', hx.out, List.take_length]; rfl, rfl⟩
set_option maxRecDepth 100000 in
theorem of_any (A : Option Addr) (c : Nat) (l : List Int) (w : World) (hl : l.length ≤ 9223372036854775807) (hb : Bts l) (hr : Rd .u8 w A l) :
    Calls Tryd.prog 19 #[.slice A l.length c] w fun e w' => e = .returned (.int .u32 (num (on 0#32 l))) ∧ w = w' := by
  go_enter Tryd.func19, Tryd.ntmps19
  go_wp2_with fail
  refine (on_any 0#32 A c l w hl hb hr).mono ?_
  rintro e w1 ⟨rfl, rfl⟩
  go_wp2
  go_ret
  exact ⟨rfl, rfl⟩
end Go.Proofs.YticnjkdaccacaaaDoor.Ref03
