/- FramesBack walked. -/
import Derived.Test.YtifbmhlnkjcmhaaAlive05
namespace Go.Proofs.Ytifbmhlnkjcmhaa.LawFBack
open Go.RowKit Crc Sums Base Own Frames Same Alive

set_option maxRecDepth 100000 in
theorem law (A : Option Addr) (ca : Nat) (r : List Int) (B : Option Addr) (cb : Nat) (m : List Int) (w : World) (hlr : r.length ≤ 140737488351232) (hlm : m.length ≤ 140737488351232) (hbr : Bts r) (hbm : Bts m) (hrr : Rd .u8 w A r) (hrm : Rd .u8 w B m) :
    Calls Try.prog 3 #[.slice A r.length ca, .slice B m.length cb] w fun e w' => e = .returned (.bool true) ∧ Below w.heap.size w w' := by
  have HA := Lib.hid (And.intro hbr hrr)
  have HB := Lib.hid (And.intro hbm hrm)
  clear hbr hbm hrr hrm
  go_enter Try.func3, Try.ntmps3
  go_wp2_with fail
  refine (alive_any _).mono ?_
  rintro e w1 ⟨rfl, b1⟩
  have B1 := Lib.hid b1
  clear b1
  by_cases h1 : 20000 < r.length
  · go_wp2_with fail
    refine (alive_any _).mono ?_
    rintro e w2 ⟨rfl, b2⟩
    go_wp2
    go_ret
    exact ⟨rfl, B1.out.trans (below_weak B1.out.size b2)⟩
  by_cases h2 : 20000 < m.length
  · go_wp2_with fail
    refine (alive_any _).mono ?_
    rintro e w2 ⟨rfl, b2⟩
    go_wp2
    go_ret
    exact ⟨rfl, B1.out.trans (below_weak B1.out.size b2)⟩
  by_cases h3 : 16384 < r.length
  · go_wp2_with fail
    refine (put_big A r.length ca w1 h3 (by omega)).mono ?_
    rintro e w2 ⟨rfl, b2⟩
    go_wp2
    go_ret
    exact ⟨rfl, B1.out.trans (below_weak B1.out.size b2)⟩
  · go_wp2_with fail
    refine (put_any A ca r w1 (by omega) HA.out.1 (HA.out.2.below B1.out)).mono ?_
    rintro e w2 ⟨v, rfl, o2, b2⟩
    have hpl := put_length r
    have hns := nsec_ge r.length
    have hns2 : nsec r.length * 64 < r.length + 72 := by unfold nsec; omega
    obtain ⟨S, hS⟩ : ∃ S, S = nsec r.length := ⟨_, rfl⟩
    rw [← hS] at hpl hns hns2
    obtain ⟨L, hL⟩ : ∃ L, L = S * 64 := ⟨_, rfl⟩
    rw [← hL] at hpl hns hns2
    have hx1 : (L : Int) = 64 * (S : Int) := by omega
    obtain ⟨A2, c2, rfl, -, -, hr2, -⟩ := o2.slice
    rw [hpl] at o2 ⊢
    have H2 := Lib.hid (And.intro o2 hr2)
    have B2 := Lib.hid (B1.out.trans (below_weak B1.out.size b2))
    have HPL := Lib.hid hpl
    have HS := Lib.hid hS
    clear o2 hr2 b2 hpl hS
    have HX := Lib.hid (And.intro hx1 (And.intro hns hns2))
    have hL2 : L ≤ 16456 := by omega
    clear hx1 hns hns2 hL
    go_wp2_with (first
      | (at_builtin; refine ap_list rfl TwinBytes.tyB B2.out (OwnI.nil _ _ _ _) (news := put r) (X := A2) H2.out.2 (fun e => (H2.out.2.empty e)) (by rw [HPL.out]; simp; omega) (.const (.slice none 0 0)) _ (L) c2 rfl rfl rfl HPL.out ?_; intro v3 w3 o3 b3 g3 hv3; have H3 := Lib.hid (And.intro o3 (And.intro b3 (H2.out.1.kept (Chg.of_grown g3) (fun j hj hf => by simp [Value.ownBlock] at hf)))); clear o3 b3 g3 hv3)
      | (at_builtin; refine ap_list rfl TwinBytes.tyB H3.out.2.1 H3.out.1 (news := m) (X := B) (HB.out.2.below H3.out.2.1) (fun e => (HB.out.2.empty e)) (by rw [List.nil_append, HPL.out]; omega) (.tmp 52) _ m.length cb rfl rfl rfl rfl ?_; intro v4 w4 o4 b4 g4 hv4; have H4 := Lib.hid (And.intro o4 b4); clear o4 b4 g4 hv4))
    obtain ⟨A4, c4, hv4, hc4, -, hr4, -⟩ := H4.out.1.slice
    subst hv4
    have hl4 : ([] ++ put r ++ m).length = L + m.length := by rw [List.nil_append, List.length_append, HPL.out]
    have h4 := get_any A4 c4 ([] ++ put r ++ m) w4 (by rw [hl4]; omega) (by rw [List.nil_append]; exact (put_bts HA.out.1).append HB.out.1) hr4 hc4
    rw [List.nil_append, get_put r m (by omega), ← List.nil_append (put r)] at h4
    refine h4.mono ?_
    clear h4 hr4 hc4 hl4
    rintro e w5 ⟨⟨v5, rfl, o5⟩, b5⟩
    have B5 := Lib.hid (H4.out.2.trans (below_weak H4.out.2.size b5))
    obtain ⟨A5, c5, rfl, -, -, hr5, -⟩ := o5.slice
    have HR5 := Lib.hid hr5
    clear o5 b5 hr5
    rw [← HS.out]
    go_wp2_with fail
    refine (sameBytes_m A5 A r.length r.length c5 ca r r w5 rfl rfl (by omega) (by omega) HR5.out (HA.out.2.below B5.out)).mono ?_
    rw [decide_eq_true rfl]
    rintro e w6 ⟨rfl, b6⟩
    have B6 := Lib.hid (B5.out.trans (below_weak B5.out.size b6))
    clear b6
    obtain ⟨hx1, hx2, hx3⟩ := HX.out
    have q1 : 64 * (S : Int) = L := by omega
    have q4 : (S : Int) ≤ 1000 := by omega
    have q2 : (r.length : Int) + 8 ≤ L := by omega
    have q3 : (L : Int) < r.length + 8 + 64 := by omega
    clear hx1 hx2 hx3 h1 h2 h3 hL2 hlr hlm
    go_wp2
    go_ret
    exact ⟨rfl, B6.out⟩
theorem framesBack (A : Option Addr) (ca : Nat) (r : List Int) (B : Option Addr) (cb : Nat) (m : List Int) (w : World) (_ : r.length ≤ ca) (hr : r.length ≤ 140737488351232) (wr : ∀ n ∈ r, (Lit.int .u8 n).wf = true) (hrr : Rd .u8 w A r)
    (_ : m.length ≤ cb) (hm : m.length ≤ 140737488351232) (wm : ∀ n ∈ m, (Lit.int .u8 n).wf = true) (hrm : Rd .u8 w B m) :
    Calls Try.prog 3 #[.slice A r.length ca, .slice B m.length cb] w fun e w' => e = .returned (.bool true) ∧ Below w.heap.size w w' :=
  law A ca r B cb m w hr hm (fun x hx => by have := bounds_u8 (wr x hx); omega) (fun x hx => by have := bounds_u8 (wm x hx); omega) hrr hrm
end Go.Proofs.Ytifbmhlnkjcmhaa.LawFBack
