/- The chapter's fixed answers. -/
import Derived.Test.YtifbmhlnkjcmhaaFramesPlain
import Derived.Lib.SlBytesConst
import Derived.Lib.AppendStr
namespace Go.Proofs.Ytifbmhlnkjcmhaa.Alive
open Go.RowKit Crc Sums Base Own Frames Same

def bts (l : List Int) : Bool := l.all fun x => decide (0 ≤ x) && decide (x < 256)
theorem bts_of {l : List Int} (h : bts l = true) : Bts l := by
  unfold bts at h; rw [List.all_eq_true] at h
  intro x hx; have := h x hx; simpa using this
theorem p1 : (put [97]).length = 64 := by rw [put_length]; rfl
theorem p3 : (put [97]).getD 3 0 = 1 := by rw [put_eq]; decide
theorem p8 : (put [97]).getD 8 0 = 97 := by rw [put_eq]; rfl
theorem g0 : get (List.replicate 64 0) = none := by decide +kernel
theorem g1 (l : List Int) (h : l = (put [97]).set 63 1) : get l = none := by subst h; decide +kernel

set_option maxRecDepth 100000 in
theorem alive_any (w : World) : Calls Try.prog 8 #[] w fun e w' => e = .returned (.bool true) ∧ Below w.heap.size w w' := by
  have kc := fun (w : World) (C : Array Value) (n c : Nat) => Lib.run_convert_bytes_const (P := Try.prog) w 22 5 C n c Try.underlying22 Try.underlying5
  go_enter Try.func8, Try.ntmps8
  go_wp2_with fail
  have hb0 : Below w.heap.size w (w.alloc (.cells #[.int .u8 97] 5 (1, 2))) := (Below.refl _ _).alloc (Nat.le_refl _) _
  refine (put_any (some ⟨w.heap.size, 0, none⟩) 1 [97] _ (by decide) (bts_of rfl) (Rd.lit w .u8 [97] #[.int .u8 97] 5 (1, 2) rfl)).mono ?_
  rintro e w1 ⟨v, rfl, o1, b1⟩
  obtain ⟨g, cc, rfl⟩ := o1.ptr (by rw [p1]; decide)
  have c3 := (o1.cell (j := 3) (by rw [p1]; decide)).1
  have c8 := (o1.cell (j := 8) (by rw [p1]; decide)).1
  rw [p3] at c3
  rw [p8] at c8
  rw [p1] at o1 ⊢
  have O1 := Lib.hid o1
  have B1 := Lib.hid (hb0.trans (below_weak hb0.size b1))
  have hcc : 64 ≤ cc := by
    have := (o1.cell (j := 3) (by rw [p1]; decide)).2.2.2.2
    omega
  have hcc2 : (63 : Int) ≤ cc := by omega
  clear o1 b1 hb0 kc
  obtain ⟨i, hi, hzz⟩ := Option.map_eq_some_iff.1 (show (Try.prog.info? 5).map (fun i => (i.zero, i.size, i.bytes)) = some (some (.int .u8 0), 1, 1) by kernel_rfl)
  have HI := Lib.hid hzz
  clear hzz
  go_wp2_with (first
    | (at_builtin; refine ap_list rfl TwinBytes.tyB B1.out (OwnI.nil _ _ _ _) (news := put [97]) (X := some ⟨g, 0, none⟩) (by have h := O1.out; rw [← p1] at h; obtain ⟨A', c', e, _, _, hr, _⟩ := h.slice; injection e with e1; rw [e1]; exact hr) (fun e => by cases e) (by rw [p1]; decide) (.const (.slice none 0 0)) _ 64 cc rfl rfl rfl p1 ?_; intro v2 w2 own2 bd2 gr2 hv2; have H2 := Lib.hid (And.intro own2 (And.intro bd2 (And.intro gr2 hv2))); clear own2 bd2 gr2 hv2 c3 c8)
    | (at_builtin; go_loud (refine Lib.wpList_append_own_string _ rfl (.tmp 44) (.const (.string ⟨#[109, 111, 114, 101]⟩)) _ _ rfl w.heap.size 5 i Try.underlying22 Try.underlying9 hi (congrArg (·.1) HI.out) (congrArg (·.2.1) HI.out) (congrArg (·.2.2) HI.out) v2 _ _ rfl H2.out.1 ⟨#[109, 111, 114, 101]⟩ rfl (by rw [List.nil_append, p1]; decide) (by rw [List.nil_append, p1]; decide) H2.out.2.1.size ?_); intro v3 w3 own3 gr3 hv3; have H3 := Lib.hid (And.intro own3 gr3); clear own3 gr3 hv3))
  have b3 : Below w.heap.size w w3 := H2.out.2.1.grown H3.out.2 H2.out.2.1.size (fun k hk => (H2.out.1.lt k hk).1)
  have o3 : OwnI .u8 w3 w.heap.size 5 v3 (put [97] ++ [109, 111, 114, 101]) := H3.out.1
  have k3 : OwnI .u8 w3 w.heap.size 5 (.slice (some ⟨g, 0, none⟩) 64 cc) (put [97]) := by
    have h := O1.out
    rw [← p1] at h
    have h1 := (h.kept (Chg.of_grown H2.out.2.2.1) (fun j hj hf => by simp [Value.ownBlock] at hf)).kept (Chg.of_grown H3.out.2) (fun j hj hf => by
      have hlt := (h.lt j hj).2
      rcases H2.out.2.2.2 with e | e
      · rw [e] at hf; simp [Value.ownBlock] at hf
      · rw [e] at hf; injection hf with hf; omega)
    have h2 := h1.lower (B' := w.heap.size) (by simp)
    rw [p1] at h2
    exact h2
  obtain ⟨A3, cc3, rfl, hcc3, _, hr3, _⟩ := o3.slice
  have e3 : (put [97] ++ [109, 111, 114, 101]).length = 68 := by rw [List.length_append, p1]; rfl
  refine (get_any A3 cc3 (put [97] ++ [109, 111, 114, 101]) w3 (by rw [e3]; decide) ((put_bts (bts_of rfl)).append (bts_of rfl)) hr3 hcc3).mono ?_
  rw [get_put [97] _ (by decide)]
  rintro e w4 ⟨⟨v4, rfl, o4⟩, b4⟩
  have B4 := Lib.hid (b3.trans (below_weak b3.size b4))
  have K4 := Lib.hid (And.intro (k3.new b4) o4)
  have HGL := Lib.hid (k3.lt g rfl).2
  clear b3 k3 o3 o4 b4 hr3
  have hmk64 := mk 64 64 (by decide) (by decide)
  go_wp2_with fail
  have o5 := made_own 64 w4.heap.size w4 (Nat.le_refl _) (by decide)
  have b5 : Below w4.heap.size w4 (w4.alloc (.cells (Array.replicate 64 (.int .u8 0)) 5)) := (Below.refl _ _).alloc (Nat.le_refl _) _
  have h5 := get_any (some ⟨w4.heap.size, 0, none⟩) 64 (List.replicate 64 0) (w4.alloc (.cells (Array.replicate 64 (.int .u8 0)) 5)) (by decide) (by intro x hx; rw [List.eq_of_mem_replicate hx]; decide) (by obtain ⟨A', c', e, _, _, hr, _⟩ := OwnI.slice (l := List.replicate 64 0) o5; injection e with e1; rw [e1]; exact hr) (by decide)
  rw [g0] at h5
  refine h5.mono ?_
  clear h5 o5 hmk64
  rintro e w5 ⟨rfl, b6⟩
  have b7 := b5.trans (below_weak b5.size b6)
  have B5 := Lib.hid (B4.out.trans (below_weak B4.out.size b7))
  have K5 := Lib.hid (And.intro (K4.out.1.new b7) (K4.out.2.new b7))
  clear b5 b6 b7 B4 K4
  go_wp2_with fail
  have hr6 : Rd .u8 w5 (some ⟨g, 0, none⟩) (put [97]) := by
    have h := K5.out.1; rw [← p1] at h
    obtain ⟨A', c', e, _, _, hr, _⟩ := h.slice
    injection e with e1; rw [e1]; exact hr
  have h6 := get_any (some ⟨g, 0, none⟩) cc ((put [97]).take 63) w5 (by rw [List.length_take, p1]; decide) (Bts.take (put_bts (bts_of rfl)) _) (hr6.take 63) (by rw [List.length_take, p1]; omega)
  rw [get_short (by rw [List.length_take, p1]; decide), show ((put [97]).take 63).length = 63 by rw [List.length_take, p1]; rfl] at h6
  refine h6.mono ?_
  clear h6 hr6
  rintro e w6 ⟨rfl, b6⟩
  have B6 := Lib.hid (B5.out.trans (below_weak B5.out.size b6))
  have K6 := Lib.hid (And.intro (K5.out.1.new b6) (K5.out.2.new b6))
  clear b6 B5 K5
  have hmkb := mk 16385 16385 (by decide) (by decide)
  go_wp2_with fail
  refine (put_big (some ⟨w6.heap.size, 0, none⟩) 16385 16385 _ (by decide) (by decide)).mono ?_
  clear hmkb
  have b5 : Below w6.heap.size w6 (w6.alloc (.cells (Array.replicate 16385 (.int .u8 0)) 5)) := (Below.refl _ _).alloc (Nat.le_refl _) _
  rintro e w7 ⟨rfl, b6⟩
  have b7 := b5.trans (below_weak b5.size b6)
  have B7 := Lib.hid (B6.out.trans (below_weak B6.out.size b7))
  have K7 := Lib.hid (And.intro (K6.out.1.new b7) (K6.out.2.new b7))
  clear b5 b6 b7 B6 K6
  have hc63 := (OwnI.cell (j := 63) K7.out.1 (by rw [p1]; decide)).1
  have hf63 := (OwnI.cell (j := 63) K7.out.1 (by rw [p1]; decide)).2.1
  go_wp2_with fail
  have b8 : Below w.heap.size w (w7.setCell ⟨g, 63, none⟩ (.int .u8 1)) := B7.out.setCell (K7.out.1.lt g rfl).1 _
  have k8 := OwnI.set (j := 63) (x := 1) K7.out.1 (by rw [p1]; decide)
  have a8 : OwnI .u8 (w7.setCell ⟨g, 63, none⟩ (.int .u8 1)) w3.heap.size 5 v4 [97] := K7.out.2.kept (Chg.setCell _ _ _) (fun j hj hf => by
    have h1 := (K7.out.2.lt j hj).1
    have h2 := HGL.out
    have h3 : j = g := hf
    omega)
  have B8 := Lib.hid b8
  have hl8 : ((put [97]).set 63 1).length = 64 := by rw [List.length_set, p1]
  have hr8 : Rd .u8 (w7.setCell ⟨g, 63, none⟩ (.int .u8 1)) (some ⟨g, 0, none⟩) ((put [97]).set 63 1) := by
    have h := k8
    rw [← hl8] at h
    obtain ⟨A', c', e, _, _, hr, _⟩ := h.slice
    injection e with e1; rw [e1]; exact hr
  have h9 := get_any (some ⟨g, 0, none⟩) cc ((put [97]).set 63 1) (w7.setCell ⟨g, 63, none⟩ (.int .u8 1)) (by rw [hl8]; decide) (by
    intro x hx
    rcases List.mem_or_eq_of_mem_set hx with h | h
    · exact put_bts (bts_of rfl) x h
    · subst h; decide) hr8 (by rw [hl8]; exact hcc)
  rw [g1 _ rfl, hl8] at h9
  refine h9.mono ?_
  rintro e w9 ⟨rfl, b9⟩
  have B9 := Lib.hid (B8.out.trans (below_weak B8.out.size b9))
  obtain ⟨A4, c4, hv4, _, _, hr4, _⟩ := (a8.new b9).slice
  have hcv := conv_str Try.prog w9 _ _ Try.underlying22 Try.underlying5 A4 1 c4 [97] rfl hr4 _ Try.underlying9
  have hse : (strOfNums [97]).toList = [97] := by rw [ByteArray.toList_eq]; rfl
  subst hv4
  clear h9 hr8 k8 a8 b8 b9 hc63 hf63 hr4
  go_wp2
  go_ret
  exact ⟨rfl, B9.out⟩
end Go.Proofs.Ytifbmhlnkjcmhaa.Alive
