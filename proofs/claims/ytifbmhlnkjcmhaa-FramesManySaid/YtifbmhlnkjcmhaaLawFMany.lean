/- FramesMany walked. -/
import Derived.Test.YtifbmhlnkjcmhaaAlive05
namespace Go.Proofs.Ytifbmhlnkjcmhaa.LawFMany
open Go.RowKit Crc Sums Base Own Frames Same Alive

theorem zeros_bts (n : Nat) : Bts (List.replicate n 0) := by intro x hx; rw [List.eq_of_mem_replicate hx]; decide
set_option maxHeartbeats 1000000 in
set_option maxRecDepth 100000 in
theorem law (x : Int) (k : Nat) (w : World) (hk : x.tmod 6 = (k : Int)) (hk6 : k < 6) :
    Calls Try.prog 5 #[.int .u8 x] w fun e w' => e = .returned (.bool true) ∧ Below w.heap.size w w' := by
  obtain ⟨n, hn⟩ : ∃ n : Nat, n = 16381 + k := ⟨_, rfl⟩
  have hn2 : (16381 : Int) + k = n := by omega
  have hmk := mk n n rfl (by omega)
  have hnb : n ≤ 16386 := by omega
  clear hn hk6
  go_enter Try.func5, Try.ntmps5
  go_wp2_with fail
  have hb0 : Below w.heap.size w (w.alloc (.cells (Array.replicate n (.int .u8 0)) 5)) := (Below.refl _ _).alloc (Nat.le_refl _) _
  by_cases h3 : 16384 < n
  · refine (put_big _ n n _ h3 (by omega)).mono ?_
    rintro e w2 ⟨rfl, b2⟩
    have B2 := Lib.hid (hb0.trans (below_weak hb0.size b2))
    clear hb0 b2
    go_wp2_with fail
    refine (alive_any _).mono ?_
    rintro e w3 ⟨rfl, b3⟩
    go_wp2
    go_ret
    exact ⟨rfl, B2.out.trans (below_weak B2.out.size b3)⟩
  · have o1 := made_own n w.heap.size w (Nat.le_refl _) (by omega)
    have hl : (List.replicate n (0 : Int)).length = n := List.length_replicate
    have hr1 : Rd .u8 (w.alloc (.cells (Array.replicate n (.int .u8 0)) 5)) (some ⟨w.heap.size, 0, none⟩) (List.replicate n 0) := by
      obtain ⟨A', c', e, -, -, hr, -⟩ := OwnI.slice (l := List.replicate n 0) o1
      injection e with e1; rw [e1]; exact hr
    have h4 := put_any (some ⟨w.heap.size, 0, none⟩) n (List.replicate n 0) _ (by rw [hl]; omega) (zeros_bts n) hr1
    rw [hl] at h4
    refine h4.mono ?_
    rintro e w2 ⟨v, rfl, o2, b2⟩
    have B2 := Lib.hid (hb0.trans (below_weak hb0.size b2))
    obtain ⟨A2, c2, rfl, hc2, -, hr2, -⟩ := o2.slice
    have hpl := put_length (List.replicate n (0 : Int))
    rw [hl] at hpl
    have H2 := Lib.hid (And.intro hc2 (And.intro hr2 hpl))
    have hS : (nsec n : Int) = ((n : Int) + 71) / 64 := by unfold nsec; omega
    have hnb : nsec n ≤ 258 := by unfold nsec; omega
    have HS := Lib.hid (And.intro hS hnb)
    clear h4 hr1 o1 o2 hc2 hr2 hpl hb0 b2 hS hnb hmk
    obtain ⟨L, hL⟩ : ∃ L, L = (put (List.replicate n (0 : Int))).length := ⟨_, rfl⟩
    rw [← hL]
    have HL := Lib.hid hL
    clear hL
    go_wp2_with fail
    have h5 := get_any A2 c2 (put (List.replicate n 0)) w2 (by rw [H2.out.2.2]; have := HS.out.2; omega) (put_bts (zeros_bts n)) H2.out.2.1 H2.out.1
    have h6 := get_put (List.replicate n (0 : Int)) [] (by rw [hl]; omega)
    rw [List.append_nil] at h6
    rw [h6, ← HL.out] at h5
    refine h5.mono ?_
    clear h5 h6
    rintro e w3 ⟨⟨v3, rfl, o3⟩, b3⟩
    have B3 := Lib.hid (B2.out.trans (below_weak B2.out.size b3))
    obtain ⟨A3, c3, rfl, -, -, -, -⟩ := o3.slice
    clear b3 o3
    rw [hl]
    obtain ⟨S, hS⟩ : ∃ S, S = nsec n := ⟨_, rfl⟩
    rw [← hS]
    have hS1 := HS.out.1
    rw [← hS] at hS1
    clear hS hl
    go_wp2_with fail
    refine (alive_any _).mono ?_
    rintro e w4 ⟨rfl, b4⟩
    have B4 := Lib.hid (B3.out.trans (below_weak B3.out.size b4))
    clear b4
    have q1 : ((n : Int) + 8 + 63) / 64 = S := by omega
    go_wp2
    go_ret
    exact ⟨rfl, B4.out⟩
theorem framesMany (x : Int) (w : World) (wx : (Lit.int .u8 x).wf = true) :
    Calls Try.prog 5 #[.int .u8 x] w fun e w' => e = .returned (.bool true) ∧ Below w.heap.size w w' := by
  have hx := bounds_u8 wx
  exact law x (x.tmod 6).toNat w (by rw [Int.tmod_eq_emod_of_nonneg (by omega)]; omega) (by rw [Int.tmod_eq_emod_of_nonneg (by omega)]; omega)
end Go.Proofs.Ytifbmhlnkjcmhaa.LawFMany
