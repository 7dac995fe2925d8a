/- FramesGrow walked. -/
import Derived.Test.YtifbmhlnkjcmhaaAlive05
namespace Go.Proofs.Ytifbmhlnkjcmhaa.LawFGrow
open Go.RowKit Crc Sums Base Own Frames Same Alive

set_option maxHeartbeats 1000000 in
set_option maxRecDepth 100000 in
theorem law (A : Option Addr) (ca : Nat) (r : List Int) (B : Option Addr) (cb : Nat) (m : List Int) (w : World) (hlr : r.length ≤ 140737488351232) (hlm : m.length ≤ 140737488351232) (hbr : Bts r) (hbm : Bts m) (hrr : Rd .u8 w A r) (hrm : Rd .u8 w B m) :
    Calls Try.prog 7 #[.slice A r.length ca, .slice B m.length cb] w fun e w' => e = .returned (.bool true) ∧ Below w.heap.size w w' := by
  have HA := Lib.hid (And.intro hbr hrr)
  have HB := Lib.hid (And.intro hbm hrm)
  clear hbr hbm hrr hrm
  go_enter Try.func7, Try.ntmps7
  go_wp2_with fail
  refine (alive_any _).mono ?_
  rintro e w1 ⟨rfl, b1⟩
  have B1 := Lib.hid b1
  clear b1
  by_cases h1 : 16384 < r.length + m.length
  · have h1' : (16384 : Int) < r.length + m.length := by omega
    go_wp2_with fail
    refine (alive_any _).mono ?_
    rintro e w2 ⟨rfl, b2⟩
    go_wp2
    go_ret
    exact ⟨rfl, B1.out.trans (below_weak B1.out.size b2)⟩
  have h1' : (r.length : Int) + m.length ≤ 16384 := by omega
  go_wp2_with fail
  refine (put_any A ca r w1 (by omega) HA.out.1 (HA.out.2.below B1.out)).mono ?_
  rintro e w2 ⟨v, rfl, o2, b2⟩
  obtain ⟨A2, c2, rfl, -, -, -, -⟩ := o2.slice
  have B2 := Lib.hid (B1.out.trans (below_weak B1.out.size b2))
  obtain ⟨L, hL⟩ : ∃ L, L = (put r).length := ⟨_, rfl⟩
  rw [← hL]
  rw [put_length] at hL
  have HL := Lib.hid hL
  clear o2 b2 hL
  go_wp2_with fail
  refine (put_any B cb m w2 (by omega) HB.out.1 (HB.out.2.below B2.out)).mono ?_
  rintro e w3 ⟨v, rfl, o3, b3⟩
  obtain ⟨A3, c3, rfl, -, -, -, -⟩ := o3.slice
  have B3 := Lib.hid (B2.out.trans (below_weak B2.out.size b3))
  obtain ⟨M, hM⟩ : ∃ M, M = (put m).length := ⟨_, rfl⟩
  rw [← hM]
  rw [put_length] at hM
  have HM := Lib.hid hM
  clear o3 b3 hM
  go_wp2_with fail
  refine (TwinBytes.twin A ca r w3 (by omega) (HA.out.2.below B3.out)).mono ?_
  rintro e w4 ⟨v, rfl, ht, b4⟩
  obtain ⟨g, cc, rfl, hcc, hg, _, hr⟩ := ht.reads
  have ho : OwnI .u8 w4 w3.heap.size 5 (.slice (some ⟨g, 0, none⟩) r.length cc) r := by
    obtain ⟨g', c', e, h2⟩ := ht
    injection e with e1 e2 e3
    injection e1 with e1
    injection e1 with e1
    subst e1 e3
    refine ⟨by simp, .inr ?_⟩
    rcases h2.2 with ⟨hx, _⟩ | ⟨g2, cap, cur, hx, h3, h4, h5, h6, h7, h8⟩
    · cases hx
    · injection hx with hx hy hz
      injection hx with hx
      injection hx with hx
      subst hx hz
      refine ⟨g, cc, cur, rfl, h3, h4, by omega, h6, h7, ?_⟩
      have h9 := congrArg (List.take r.length) h8
      rw [List.take_take, List.length_append, List.map_append, List.take_left' (by simp)] at h9
      rw [show min r.length ((r.length + ([77] : List Int).length) * 1) = r.length * 1 by simp] at h9
      exact h9
  have B4 := Lib.hid (B3.out.trans (below_weak B3.out.size b4))
  have H4 := Lib.hid (ho.lower (B' := w.heap.size) B3.out.size)
  clear ht hr ho b4 hcc
  go_wp2_with (at_builtin; refine ap_list rfl TwinBytes.tyB B4.out H4.out (news := m) (X := B) (HB.out.2.below B4.out) (fun e => (HB.out.2.empty e)) (by omega) (.tmp 34) _ m.length cb rfl rfl rfl rfl ?_; intro v5 w5 o5 b5 g5 hv5; have H5 := Lib.hid (And.intro o5 b5); clear o5 b5 g5 hv5)
  refine (put_own H5.out.1 (by rw [List.length_append]; omega) (HA.out.1.append HB.out.1)).mono ?_
  rintro e w6 ⟨v6, rfl, o6, b6⟩
  obtain ⟨A6, c6, rfl, -, -, -, -⟩ := o6.slice
  have B6 := Lib.hid (H5.out.2.trans (below_weak H5.out.2.size b6))
  obtain ⟨Z, hZ⟩ : ∃ Z, Z = (put (r ++ m)).length := ⟨_, rfl⟩
  rw [← hZ]
  rw [put_length, List.length_append] at hZ
  have hLv := HL.out
  have hMv := HM.out
  have n1 : nsec r.length ≤ nsec (r.length + m.length) := by unfold nsec; omega
  have n2 : nsec m.length ≤ nsec (r.length + m.length) := by unfold nsec; omega
  have n3 : nsec (r.length + m.length) ≤ nsec r.length + nsec m.length := by unfold nsec; omega
  have n4 : nsec (r.length + m.length) ≤ 258 := by unfold nsec; omega
  have q1 : (L : Int) ≤ Z := by omega
  have q2 : (M : Int) ≤ Z := by omega
  have q3 : (Z : Int) ≤ L + M := by omega
  have q4 : (L : Int) % 64 = 0 := by omega
  have q5 : (M : Int) % 64 = 0 := by omega
  have q6 : (Z : Int) % 64 = 0 := by omega
  have q7 : (Z : Int) ≤ 20000 := by omega
  clear o6 b6 hLv hMv n1 n2 n3 n4 hZ hlr hlm h1
  go_wp2
  go_ret
  exact ⟨rfl, B6.out⟩
theorem framesGrow (A : Option Addr) (ca : Nat) (r : List Int) (B : Option Addr) (cb : Nat) (m : List Int) (w : World) (_ : r.length ≤ ca) (hr : r.length ≤ 140737488351232) (wr : ∀ n ∈ r, (Lit.int .u8 n).wf = true) (hrr : Rd .u8 w A r)
    (_ : m.length ≤ cb) (hm : m.length ≤ 140737488351232) (wm : ∀ n ∈ m, (Lit.int .u8 n).wf = true) (hrm : Rd .u8 w B m) :
    Calls Try.prog 7 #[.slice A r.length ca, .slice B m.length cb] w fun e w' => e = .returned (.bool true) ∧ Below w.heap.size w w' :=
  law A ca r B cb m w hr hm (fun x hx => by have := bounds_u8 (wr x hx); omega) (fun x hx => by have := bounds_u8 (wm x hx); omega) hrr hrm
end Go.Proofs.Ytifbmhlnkjcmhaa.LawFGrow
