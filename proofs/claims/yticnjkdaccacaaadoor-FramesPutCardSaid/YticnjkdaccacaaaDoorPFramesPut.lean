/- The plain law of FramesPut. -/
import Derived.Test.YticnjkdaccacaaaDoorDFramesPut
import Derived.Test.YticnjkdaccacaaaDoorPh
import Derived.IntWalk
namespace Go.Proofs.YticnjkdaccacaaaDoor.Pl
open Go Go.RowKit Sx Base Own

theorem wrap8 (x : Int) : IntKind.wrap .u8 x = x % 256 := IntKind.wrap_u8 x
theorem wrap32 {x : Int} (h0 : 0 ≤ x) (h1 : x < 4294967296) : IntKind.wrap .u32 x = x := IntWalk.u32_in x ⟨h0, by omega⟩
theorem number_is {n : Int} (h0 : 0 ≤ n) (h1 : n < 4294967296) : number.f n = some (Frames.head n) := by
  unfold number.f
  rw [Frames.head_eq, Int.tdiv_eq_ediv_of_nonneg h0, Int.tdiv_eq_ediv_of_nonneg h0, Int.tdiv_eq_ediv_of_nonneg h0, wrap8, wrap8, wrap8, wrap8, wrap32 (by omega) (by omega), wrap32 (by omega) (by omega), wrap32 (by omega) (by omega)]
theorem pad_is : ∀ (d k : Nat) (b : List Int) (m : Nat), d < k → d < 64 → b.length + d = m * 64 → b.length ≤ 1000000 → Put.l1 k b = some (b ++ List.replicate d 0, 0) := by
  intro d
  induction d with
  | zero =>
    intro k b m hk _ hb hl
    obtain ⟨k, rfl⟩ : ∃ q, k = q + 1 := ⟨k - 1, by omega⟩
    have e : Int.tmod (b.length : Int) 64 = 0 := by rw [tm (by omega)]; omega
    rw [Put.l1, e, iff_ (by rfl), List.replicate_zero, List.append_nil]
  | succ d ih =>
    intro k b m hk hd hb hl
    obtain ⟨k, rfl⟩ : ∃ q, k = q + 1 := ⟨k - 1, by omega⟩
    have e : (Int.tmod (b.length : Int) 64 != 0) = true := by rw [tm (by omega)]; simp; omega
    rw [Put.l1, ift e, if_pos (by simp; omega), ih k (b ++ [0]) m (by omega) (by omega) (by simp; omega) (by simp; omega), List.append_assoc, List.replicate_succ]
    rfl
theorem put_is (l : List Int) (hl : l.length ≤ 20000) (k : Nat) (hk : 70 ≤ k) : Put.f k l = some (putR l, putE l) := by
  unfold Put.f putR putE
  by_cases h : l.length ≤ 16384
  · rw [if_pos h, if_pos h, iff_ (df (by omega)), wrap32 (by omega) (by omega), number_is (by omega) (by omega), Option.bind_some]
    have h4 : (Frames.head (l.length : Int)).length = 4 := rfl
    have hr := Crc.num_range (Crc.on 0#32 ([] ++ Frames.head (l.length : Int) ++ l))
    have h4' : ∀ n, (Frames.head n).length = 4 := fun _ => rfl
    rw [if_pos (by rw [h4]; decide), if_pos (by rw [List.nil_append, h4]; omega), if_pos (by rw [h4]; decide), if_pos (by rw [List.nil_append, List.length_append, h4]; omega), lt_is rfl, number_is hr.1 hr.2, Option.bind_some, if_pos (by rw [List.nil_append, h4, h4']; decide), if_pos (by rw [List.nil_append, List.length_append, h4, h4']; omega)]
    have hlen : ([] ++ Frames.head (l.length : Int) ++ Frames.head (Crc.num (Crc.on 0#32 ([] ++ Frames.head (l.length : Int) ++ l))) ++ l).length = 8 + l.length := by
      rw [List.nil_append, List.length_append, List.length_append, h4, h4']
    have hn := Frames.nsec_ge l.length
    have hn2 : Frames.nsec l.length * 64 < l.length + 8 + 64 := by unfold Frames.nsec; omega
    rw [pad_is (Frames.nsec l.length * 64 - 8 - l.length) k _ (Frames.nsec l.length) (by omega) (by omega) (by rw [hlen]; omega) (by rw [hlen]; omega), Frames.put_eq, List.nil_append, Crc.on_append]
    simp only [List.append_assoc]
  · rw [if_neg h, if_neg h, ift (dt (by omega))]

theorem FramesPut_pure (l0 : List Int) (hy0 : l0.length ≤ 140737488351232) (v0 : ∀ n ∈ l0, (Lit.int .u8 n).wf = true) : ∃ k, FramesPut.f k l0 = some true := by
  refine ⟨100, ?_⟩
  unfold FramesPut.f
  by_cases hb : l0.length ≤ 20000
  · have hp : (putR l0).length ≤ 100000 := by
      unfold putR
      split
      · rw [Frames.put_length]; unfold Frames.nsec; omega
      · exact Nat.zero_le _
    rw [iff_ (df (by omega)), if_pos (by omega), if_pos (by omega), lt_is rfl, lt_is rfl, if_pos (by omega), lt_is rfl, lt_is rfl, put_is l0 hb 100 (by decide), Option.bind_some, if_pos ⟨by omega, by show (putR l0).length ≤ _; omega⟩, lt_is (dt rfl), iff_ (by rfl), if_pos ⟨by omega, by show (putR l0).length ≤ _; omega⟩, lt_is (dt rfl), iff_ (by rfl), iff_ (by simp), if_pos (by omega), if_pos ⟨by omega, by decide⟩, if_pos ⟨by omega, by decide⟩, if_pos ⟨by omega, by decide⟩]
  · rw [ift (dt (by omega))]
end Go.Proofs.YticnjkdaccacaaaDoor.Pl
