/- The plain law of FramesGet. -/
import Derived.Test.YticnjkdaccacaaaDoorDFramesGet
import Derived.Test.YticnjkdaccacaaaDoorPh
import Derived.IntWalk
namespace Go.Proofs.YticnjkdaccacaaaDoor.Pl
open Go Go.RowKit Sx Base Own

theorem wrap8 (x : Int) : IntKind.wrap .u8 x = x % 256 := IntKind.wrap_u8 x
theorem wrap32 {x : Int} (h0 : 0 ≤ x) (h1 : x < 4294967296) : IntKind.wrap .u32 x = x := IntWalk.u32_in x ⟨h0, by omega⟩
theorem number_is {n : Int} (h0 : 0 ≤ n) (h1 : n < 4294967296) : number.f n = some (Frames.head n) := by
  unfold number.f
  rw [Frames.head_eq, Int.tdiv_eq_ediv_of_nonneg h0, Int.tdiv_eq_ediv_of_nonneg h0, Int.tdiv_eq_ediv_of_nonneg h0, wrap8, wrap8, wrap8, wrap8, wrap32 (by omega) (by omega), wrap32 (by omega) (by omega), wrap32 (by omega) (by omega)]
theorem pad_is : ∀ (d k : Nat) (b : List Int) (m : Nat), d < k → d < 64 → b.length + d = m * 64 → b.length ≤ 1000000 → Put.l1 k b = some (b ++ List.replicate d 0, 0) := by
  intro d
  induction d with
  | zero =>
    intro k b m hk _ hb hl
    obtain ⟨k, rfl⟩ : ∃ q, k = q + 1 := ⟨k - 1, by omega⟩
    have e : Int.tmod (b.length : Int) 64 = 0 := by rw [tm (by omega)]; omega
    rw [Put.l1, e, iff_ (by rfl), List.replicate_zero, List.append_nil]
  | succ d ih =>
    intro k b m hk hd hb hl
    obtain ⟨k, rfl⟩ : ∃ q, k = q + 1 := ⟨k - 1, by omega⟩
    have e : (Int.tmod (b.length : Int) 64 != 0) = true := by rw [tm (by omega)]; simp; omega
    rw [Put.l1, ift e, if_pos (by simp; omega), ih k (b ++ [0]) m (by omega) (by omega) (by simp; omega) (by simp; omega), List.append_assoc, List.replicate_succ]
    rfl
theorem put_is (l : List Int) (hl : l.length ≤ 20000) (k : Nat) (hk : 70 ≤ k) : Put.f k l = some (putR l, putE l) := by
  unfold Put.f putR putE
  by_cases h : l.length ≤ 16384
  · rw [if_pos h, if_pos h, iff_ (df (by omega)), wrap32 (by omega) (by omega), number_is (by omega) (by omega), Option.bind_some]
    have h4 : (Frames.head (l.length : Int)).length = 4 := rfl
    have hr := Crc.num_range (Crc.on 0#32 ([] ++ Frames.head (l.length : Int) ++ l))
    have h4' : ∀ n, (Frames.head n).length = 4 := fun _ => rfl
    rw [if_pos (by rw [h4]; decide), if_pos (by rw [List.nil_append, h4]; omega), if_pos (by rw [h4]; decide), if_pos (by rw [List.nil_append, List.length_append, h4]; omega), lt_is rfl, number_is hr.1 hr.2, Option.bind_some, if_pos (by rw [List.nil_append, h4, h4']; decide), if_pos (by rw [List.nil_append, List.length_append, h4, h4']; omega)]
    have hlen : ([] ++ Frames.head (l.length : Int) ++ Frames.head (Crc.num (Crc.on 0#32 ([] ++ Frames.head (l.length : Int) ++ l))) ++ l).length = 8 + l.length := by
      rw [List.nil_append, List.length_append, List.length_append, h4, h4']
    have hn := Frames.nsec_ge l.length
    have hn2 : Frames.nsec l.length * 64 < l.length + 8 + 64 := by unfold Frames.nsec; omega
    rw [pad_is (Frames.nsec l.length * 64 - 8 - l.length) k _ (Frames.nsec l.length) (by omega) (by omega) (by rw [hlen]; omega) (by rw [hlen]; omega), Frames.put_eq, List.nil_append, Crc.on_append]
    simp only [List.append_assoc]
  · rw [if_neg h, if_neg h, ift (dt (by omega))]

theorem sectors_is {n : Nat} (hn : n ≤ 1000000) : Sectors.f (n : Int) = some ((Frames.nsec n : Nat) : Int) := by
  unfold Sectors.f
  have e : IntKind.wrap .i64 (Int.tdiv (IntKind.wrap .i64 (IntKind.wrap .i64 (IntKind.wrap .i64 (8 + (n : Int)) + 64) - 1)) 64) = ((Frames.nsec n : Nat) : Int) := by
    rw [w64 (x := 8 + (n : Int)) (by omega) (by omega), w64 (x := 8 + (n : Int) + 64) (by omega) (by omega), w64 (x := 8 + (n : Int) + 64 - 1) (by omega) (by omega), Int.tdiv_eq_ediv_of_nonneg (by omega), w64 (by omega) (by omega)]
    unfold Frames.nsec
    omega
  rw [lt_is e]
theorem str_eq {a b : List Int} (ha : Sums.Bts a) (hb : Sums.Bts b) : (ByteArray.toList (strOfNums a) == ByteArray.toList (strOfNums b)) = decide (a = b) := by
  by_cases h : a = b
  · subst h; simp
  · rw [decide_eq_false h]
    simp only [beq_eq_false_iff_ne]
    intro e
    rw [ByteArray.toList_eq, ByteArray.toList_eq] at e
    have e2 : (strOfNums a).data = (strOfNums b).data := Array.toList_inj.1 e
    have e3 : strOfNums a = strOfNums b := by
      cases hx : strOfNums a with
      | mk x =>
        cases hy : strOfNums b with
        | mk y =>
          rw [hx, hy] at e2
          simp only at e2
          rw [e2]
    exact h (Same.str_inj a b ha hb e3)
theorem get_is (b : List Int) (hl : b.length ≤ 30000) (hb : Sums.Bts b) (k : Nat) (hk : 70 ≤ k) : Get.f k b = some (getR b, getN b, getE b) := by
  unfold Get.f
  by_cases h8 : b.length < 8
  · have hn : Frames.get b = none := by unfold Frames.get; rw [if_pos h8]
    rw [ift (dt (by omega))]
    unfold getR getN getE
    rw [hn]
  have b0 := hb.getD (j := 0) (by omega)
  have b1 := hb.getD (j := 1) (by omega)
  have b2 := hb.getD (j := 2) (by omega)
  have b3 := hb.getD (j := 3) (by omega)
  have hv : Frames.val b 4 = 16777216 * b.getD 0 0 + 65536 * b.getD 1 0 + 256 * b.getD 2 0 + b.getD 3 0 := by
    simp only [Frames.val]
    omega
  obtain ⟨n, hn⟩ : ∃ n : Nat, Frames.val b 4 = n := ⟨(Frames.val b 4).toNat, by omega⟩
  have hE : IntKind.wrap .i64 (IntKind.wrap .i64 (IntKind.wrap .i64 (IntKind.wrap .i64 (16777216 * IntKind.wrap .i64 (b.getD (Int.toNat 0) 0)) + IntKind.wrap .i64 (65536 * IntKind.wrap .i64 (b.getD (Int.toNat 1) 0))) + IntKind.wrap .i64 (256 * IntKind.wrap .i64 (b.getD (Int.toNat 2) 0))) + IntKind.wrap .i64 (b.getD (Int.toNat 3) 0)) = (n : Int) := by
    have t0 : b.getD (Int.toNat 0) 0 = b.getD 0 0 := rfl
    have t1 : b.getD (Int.toNat 1) 0 = b.getD 1 0 := rfl
    have t2 : b.getD (Int.toNat 2) 0 = b.getD 2 0 := rfl
    have t3 : b.getD (Int.toNat 3) 0 = b.getD 3 0 := rfl
    rw [t0, t1, t2, t3, w64 (x := b.getD 0 0) (by omega) (by omega), w64 (x := b.getD 1 0) (by omega) (by omega), w64 (x := b.getD 2 0) (by omega) (by omega), w64 (x := b.getD 3 0) (by omega) (by omega), w64 (x := 16777216 * b.getD 0 0) (by omega) (by omega), w64 (x := 65536 * b.getD 1 0) (by omega) (by omega), w64 (x := 256 * b.getD 2 0) (by omega) (by omega), w64 (x := 16777216 * b.getD 0 0 + 65536 * b.getD 1 0) (by omega) (by omega), w64 (x := 16777216 * b.getD 0 0 + 65536 * b.getD 1 0 + 256 * b.getD 2 0) (by omega) (by omega), w64 (by omega) (by omega), ← hn, hv]
  rw [iff_ (df (by omega)), if_pos ⟨by omega, by omega⟩, if_pos ⟨by omega, by omega⟩, if_pos ⟨by omega, by omega⟩, if_pos ⟨by omega, by omega⟩, hE]
  have hg : Frames.get b = if 16384 < (n : Int) then none else if b.length < Frames.nsec n * 64 then none else if Frames.put ((b.drop 8).take n) = b.take (Frames.nsec n * 64) then some ((b.drop 8).take n, Frames.nsec n) else none := by
    unfold Frames.get
    rw [if_neg h8, hn, Int.toNat_natCast]
  unfold getR getN getE
  rw [hg]
  by_cases hbig : (16384 : Int) < n
  · rw [ift (dt (by omega)), if_pos hbig]
  rw [iff_ (df (by omega)), if_neg hbig, sectors_is (by omega), Option.bind_some]
  have hns : Frames.nsec n ≤ 300 := by unfold Frames.nsec; omega
  have hng := Frames.nsec_ge n
  have hw : IntKind.wrap .i64 (((Frames.nsec n : Nat) : Int) * 64) = ((Frames.nsec n * 64 : Nat) : Int) := by rw [w64 (by omega) (by omega)]; omega
  rw [hw]
  by_cases hsh : b.length < Frames.nsec n * 64
  · rw [ift (dt (by omega)), if_pos hsh]
  have hw8 : IntKind.wrap .i64 (8 + (n : Int)) = ((8 + n : Nat) : Int) := by rw [w64 (by omega) (by omega)]; omega
  have hr : List.drop (Int.toNat 8) (List.take (8 + n) b) = (b.drop 8).take n := by
    show List.drop 8 (List.take (8 + n) b) = _
    rw [List.drop_take, show 8 + n - 8 = n by omega]
  have hrl : ((b.drop 8).take n).length = n := by rw [List.length_take, List.length_drop]; omega
  rw [iff_ (df (by omega)), if_neg hsh, hw8, if_pos ⟨⟨by omega, by omega⟩, by omega⟩, Int.toNat_natCast, hr, List.nil_append, if_pos (by rw [hrl]; simp; omega), put_is _ (by rw [hrl]; omega) k hk, Option.bind_some, if_pos ⟨by omega, by omega⟩, Int.toNat_natCast]
  have hpr : putR ((b.drop 8).take n) = Frames.put ((b.drop 8).take n) := by
    unfold putR
    rw [if_pos (by rw [hrl]; omega)]
  simp only [hpr]
  rw [str_eq (Frames.put_bts ((hb.drop 8).take n)) (hb.take _)]
  by_cases hp : Frames.put ((b.drop 8).take n) = b.take (Frames.nsec n * 64)
  · rw [decide_eq_true hp, if_pos hp, iff_ (by rfl)]
  · rw [decide_eq_false hp, if_neg hp, ift (by rfl)]
theorem bts_of {l : List Int} (h : ∀ n ∈ l, (Lit.int .u8 n).wf = true) : Sums.Bts l := fun x hx => by
  have := h x hx
  rw [wf_int] at this
  have h1 : IntKind.u8.min = 0 := by decide
  have h2 : IntKind.u8.max = 255 := by decide
  omega
theorem FramesGet_pure (l0 : List Int) (hy0 : l0.length ≤ 140737488351232) (v0 : ∀ n ∈ l0, (Lit.int .u8 n).wf = true) : ∃ k, FramesGet.f k l0 = some true := by
  refine ⟨100, ?_⟩
  unfold FramesGet.f
  by_cases hb : l0.length ≤ 30000
  · have hp : (getR l0).length ≤ 100000 := by
      unfold getR
      cases hg : Frames.get l0 with
      | none => exact Nat.zero_le _
      | some p =>
        obtain ⟨r, m⟩ := p
        have := Frames.get_some hg
        show r.length ≤ _
        omega
    rw [iff_ (df (by omega)), if_pos (by omega), if_pos (by omega), lt_is rfl, lt_is rfl, lt_is rfl, if_pos (by omega), lt_is rfl, lt_is rfl, lt_is rfl, get_is l0 hb (bts_of v0) 100 (by decide), Option.bind_some, if_pos ⟨by omega, by show (getR l0).length ≤ _; omega⟩, lt_is (dt rfl), iff_ (by rfl), if_pos ⟨by omega, by show (getR l0).length ≤ _; omega⟩, lt_is (dt rfl), iff_ (by rfl), iff_ (by simp), iff_ (by simp), if_pos (by omega), if_pos ⟨by omega, by decide⟩, if_pos ⟨by omega, by decide⟩, if_pos ⟨by omega, by decide⟩]
  · rw [ift (dt (by omega))]
end Go.Proofs.YticnjkdaccacaaaDoor.Pl
