/- SectorsTorn walked. -/
import Derived.Test.YtkokdpnnmkphmaaAlive04
import Derived.Test.YtkokdpnnmkphmaaRdr
namespace Go.Proofs.Ytkokdpnnmkphmaa.LawTorn
open Go.RowKit Base Own OwnV Bytes Disk

def d2 (W : List Int) : Dk := ((Disk.blank 3).write (1 : Nat) (pad W)).sync
def d3 (W N : List Int) : Dk := (d2 W).write (1 : Nat) (pad N)
def ex (h0 h1 : Bool) (W N : List Int) : List Int := if h0 then (if h1 then N.take 32 ++ W.drop 32 else N) else W
theorem pad_full {l : List Int} (h : l.length = 64) : pad l = l := by unfold pad; rw [h]; simp
theorem seen3 (W N : List Int) (hN : N.length = 64) : (d3 W N).seen.getD 1 [] = N := by
  rw [show (d3 W N).seen.getD 1 [] = pad N from rfl, pad_full hN]
theorem left3 (h0 h1 : Bool) (W N : List Int) (hW : W.length = 64) (hN : N.length = 64) : ((d3 W N).fail (if h0 then 1 else 0) (if h1 then 0 else 1)).seen.getD 1 [] = ex h0 h1 W N := by
  have e1 := pad_full hW
  have e2 := pad_full hN
  cases h0 <;> cases h1
  · show pad W = W; exact e1
  · show pad W = W; exact e1
  · show (pad N).take 64 ++ (pad W).drop 64 = N
    rw [e1, e2, List.take_of_length_le (by omega), List.drop_eq_nil_of_le (by omega), List.append_nil]
  · show (pad N).take 32 ++ (pad W).drop 32 = N.take 32 ++ W.drop 32
    rw [e1, e2]
theorem left_ff (W N : List Int) (hW : W.length = 64) (hN : N.length = 64) : ((d3 W N).fail 0 1).seen.getD 1 [] = ex false false W N := left3 false false W N hW hN
theorem left_ft (W N : List Int) (hW : W.length = 64) (hN : N.length = 64) : ((d3 W N).fail 0 0).seen.getD 1 [] = ex false true W N := left3 false true W N hW hN
theorem left_tf (W N : List Int) (hW : W.length = 64) (hN : N.length = 64) : ((d3 W N).fail 1 1).seen.getD 1 [] = ex true false W N := left3 true false W N hW hN
theorem left_tt (W N : List Int) (hW : W.length = 64) (hN : N.length = 64) : ((d3 W N).fail 1 0).seen.getD 1 [] = ex true true W N := left3 true true W N hW hN
theorem sz2 (W : List Int) : (d2 W).seen.length = 3 := rfl
theorem wl2 (W : List Int) : (d2 W).waits.length = 0 := rfl
theorem sz3 (W N : List Int) : (d3 W N).seen.length = 3 := rfl
theorem wl3 (W N : List Int) : (d3 W N).waits.length = 1 := rfl
theorem ex_get (h0 h1 : Bool) (W N : List Int) (hW : W.length = 64) (hN : N.length = 64) (i : Nat) (hi : i < 64) : (ex h0 h1 W N).length = 64 ∧ (ex h0 h1 W N).getD i 0 = if h0 && (!h1 || decide (i < 32)) then N.getD i 0 else W.getD i 0 := by
  cases h0 <;> cases h1 <;> simp [ex, hW, hN]
  by_cases h : i < 32
  · rw [if_pos h, List.getElem?_append_left (by simp; omega), List.getElem?_take, if_pos h]
  · rw [if_neg h, List.getElem?_append_right (by simp; omega), List.getElem?_drop]
    congr 2; simp; omega
theorem bools_of {w : World} {cs : Array Value} {x : List Bool} (h : (Rdr.arr 2 Rdr.bool).R w cs.toList x) : ∃ a b, cs = #[.bool a, .bool b] := by
  obtain ⟨h1, h2, h3⟩ := h
  match x, h2, h3 with
  | [a, b], _, h3 =>
    have e1 : (cs.toList.drop (0 * 1)).take 1 = [.bool a] := h3 0 a rfl
    have e2 : (cs.toList.drop (1 * 1)).take 1 = [.bool b] := h3 1 b rfl
    have h1' : cs.toList.length = 2 := h1
    refine ⟨a, b, ?_⟩
    have e3 : cs.toList = (cs.toList.drop (0 * 1)).take 1 ++ (cs.toList.drop (1 * 1)).take 1 := by
      rw [List.take_of_length_le (l := cs.toList.drop (1 * 1)) (by simp at h1' ⊢; omega)]
      exact (List.take_append_drop 1 cs.toList).symm
    rw [e1, e2] at e3
    exact Array.toList_inj.1 e3

set_option maxHeartbeats 4000000 in
set_option maxRecDepth 100000 in
theorem law (W N : List Int) (cw cn : Array Value) (h0 h1 : Bool) (w : World) (hW : W.length = 64) (hN : N.length = 64) (hbW : Bts W) (hbN : Bts N) (hcw : cw = (W.map (Value.int .u8)).toArray) (hcn : cn = (N.map (Value.int .u8)).toArray) :
    Calls Try.prog 6 #[.agg cw, .agg cn, .agg #[.bool h0, .bool h1]] w fun e w' => e = .returned (.bool true) ∧ Below w.heap.size w w' := by
  have b0 : Below w.heap.size w (((w.alloc (.cells cw 47)).alloc (.cells cn 47)).alloc (.cells #[.bool h0, .bool h1] 48)) := (((Below.refl _ _).alloc (Nat.le_refl _) _).alloc (by simp) _).alloc (by simp; omega) _
  obtain ⟨w0, hw0⟩ : ∃ w0, w0 = ((w.alloc (.cells cw 47)).alloc (.cells cn 47)).alloc (.cells #[.bool h0, .bool h1] 48) := ⟨_, rfl⟩
  have r1 : w0.heap[w.heap.size]? = some (.cells cw 47 (0, 0)) := by
    rw [hw0, Below.heap_alloc _ _ _ (by simp; omega), Below.heap_alloc _ _ _ (by simp)]; exact heap_alloc_new _ _
  have r2 : w0.heap[w.heap.size + 1]? = some (.cells cn 47 (0, 0)) := by
    rw [hw0, Below.heap_alloc _ _ _ (by simp)]
    have h := heap_alloc_new (w.alloc (.cells cw 47)) (.cells cn 47)
    simpa using h
  have r3 : w0.heap[w.heap.size + 1 + 1]? = some (.cells #[.bool h0, .bool h1] 48 (0, 0)) := by
    rw [hw0]
    have h := heap_alloc_new ((w.alloc (.cells cw 47)).alloc (.cells cn 47)) (.cells #[.bool h0, .bool h1] 48)
    simpa using h
  rw [← hw0] at b0
  have rd1 : Rd .u8 w0 (some ⟨w.heap.size, 0, none⟩) W := Rd.block r1 (fun j hj => by rw [hcw]; simp [List.getElem?_eq_getElem hj, List.getD_eq_getElem?_getD])
  have rd2 : Rd .u8 w0 (some ⟨w.heap.size + 1, 0, none⟩) N := Rd.block r2 (fun j hj => by rw [hcn]; simp [List.getElem?_eq_getElem hj, List.getD_eq_getElem?_getD])
  have c0 : w0.cell? ⟨w.heap.size + 1 + 1, 0, none⟩ = some (.bool h0) := by rw [cell_of_row _ _ _ _ _ _ r3]; rfl
  have c1 : w0.cell? ⟨w.heap.size + 1 + 1, 1, none⟩ = some (.bool h1) := by rw [cell_of_row _ _ _ _ _ _ r3]; rfl
  have hlt : w.heap.size + 1 + 1 < w0.heap.size := (Array.getElem?_eq_some_iff.1 r3).1
  have H0 := Lib.hid (And.intro b0 (And.intro rd1 (And.intro rd2 (And.intro c0 (And.intro c1 hlt)))))
  have HB := Lib.hid (And.intro hW (And.intro hN (And.intro hbW hbN)))
  clear b0 r1 r2 r3 rd1 rd2 c0 c1 hlt hcw hcn hW hN hbW hbN
  go_enter Try.func6, Try.ntmps6
  go_wp2_with fail
  rw [← hw0]
  refine (St.made (w0 := w0) 3 (by decide) (Below.refl _ _)).mono ?_
  rintro e w1 ⟨d, rfl, s1⟩
  have S1 := Lib.hid s1
  clear s1
  go_wp2_with fail
  refine (S1.out.write (by decide) 1 (by decide) _ 64 64 W HB.out.1 (by decide) HB.out.2.2.1 (H0.out.2.1.below S1.out.2)).mono ?_
  rintro e w2 ⟨rfl, s2⟩
  have S2 := Lib.hid s2
  clear s2 S1
  go_wp2_with fail
  refine S2.out.sync.mono ?_
  rintro e w3 ⟨rfl, s3⟩
  have S3 := Lib.hid (show St w0 w3 d (d2 W) from s3)
  clear s3 S2
  go_wp2_with fail
  refine (S3.out.write (by rw [wl2]; decide) 1 (by rw [sz2]; decide) _ 64 64 N HB.out.2.1 (by decide) HB.out.2.2.2 (H0.out.2.2.1.below S3.out.2)).mono ?_
  rintro e w4 ⟨rfl, s4⟩
  have S4 := Lib.hid (show St w0 w4 d (d3 W N) from s4)
  have c0 : w4.cell? ⟨w.heap.size + 1 + 1, 0, none⟩ = some (.bool h0) := by rw [S4.out.2.cell (p := ⟨w.heap.size + 1 + 1, 0, none⟩) H0.out.2.2.2.2.2]; exact H0.out.2.2.2.1
  have c1 : w4.cell? ⟨w.heap.size + 1 + 1, 1, none⟩ = some (.bool h1) := by rw [S4.out.2.cell (p := ⟨w.heap.size + 1 + 1, 1, none⟩) H0.out.2.2.2.2.2]; exact H0.out.2.2.2.2.1
  have HX := Lib.hid (fun i hi => ex_get h0 h1 W N HB.out.1 HB.out.2.1 i hi)
  clear s4 S3 hw0
  cases h0 <;> cases h1
  all_goals
    go_wp2_with fail
    refine (S4.out.fail (by rw [wl3]; decide) _ _ (by decide) (by decide) (by decide) (by decide)).mono ?_
    rintro e w5 ⟨dc, rfl, sc, b5⟩
    have S5 := Lib.hid (And.intro sc (S4.out.new b5))
    clear sc b5 S4 c0 c1
    go_wp2_with fail
    refine (S5.out.1.read 1 (by show 1 < (failK _ _ _ _ _).length; rw [(failK_pc S5.out.2.ok _ _ _).1, sz3]; decide)).mono ?_
    rintro e w6 ⟨⟨vx, rfl, ox⟩, b6⟩
    have S6 := Lib.hid (And.intro ox (S5.out.2.new b6))
    clear ox b6 S5
    go_wp2_with fail
    refine (S6.out.2.read 1 (by rw [sz3]; decide)).mono ?_
    rintro e w7 ⟨⟨vy, rfl, oy⟩, b7⟩
    have S7 := Lib.hid (And.intro (S6.out.1.new b7) (And.intro oy (S6.out.2.new b7)))
    clear oy b7 S6
    have ox := S7.out.1
    have oy := S7.out.2.1
    rw [seen3 W N HB.out.2.1] at oy
    first
      | rw [left_ff W N HB.out.1 HB.out.2.1] at ox
      | rw [left_ft W N HB.out.1 HB.out.2.1] at ox
      | rw [left_tf W N HB.out.1 HB.out.2.1] at ox
      | rw [left_tt W N HB.out.1 HB.out.2.1] at ox
    have hxl := (HX.out 0 (by decide)).1
    obtain ⟨gx, cx, rfl⟩ := ox.ptr (by rw [hxl]; decide)
    obtain ⟨Ay, cy, rfl, -, -, hry, -⟩ := oy.slice
    have HOX := Lib.hid (And.intro ox (And.intro hry (And.intro hxl S7.out.2.2)))
    rw [hxl, HB.out.2.1]
    clear ox oy hry hxl S7
    go_wp2_with fail
    refine (sameBytes_m Ay (some ⟨w.heap.size + 1, 0, none⟩) 64 64 cy 64 N N w7 HB.out.2.1 HB.out.2.1 (by decide) (by decide) HOX.out.2.1 (H0.out.2.2.1.below HOX.out.2.2.2.2)).mono ?_
    rw [decide_eq_true rfl]
    rintro e w8 ⟨rfl, b8⟩
    have ox8 := HOX.out.1.new b8
    have H8 := Lib.hid (HOX.out.2.2.2.new b8)
    have hlt := H0.out.2.2.2.2.2
    have c0 : w8.cell? ⟨w.heap.size + 1 + 1, 0, none⟩ = _ := (H8.out.2.cell (p := ⟨w.heap.size + 1 + 1, 0, none⟩) hlt).trans H0.out.2.2.2.1
    have c1 : w8.cell? ⟨w.heap.size + 1 + 1, 1, none⟩ = _ := (H8.out.2.cell (p := ⟨w.heap.size + 1 + 1, 1, none⟩) hlt).trans H0.out.2.2.2.2.1
    have rW := H0.out.2.1.below H8.out.2
    have rN := H0.out.2.2.1.below H8.out.2
    have HOX8 := Lib.hid (And.intro ox8 (And.intro rW rN))
    clear b8 ox8 rW rN HOX
    go_wp2
    go_loopw [17] (fun i wr => ∃ k : Nat, k ≤ 64 ∧ i = .int .i64 k ∧ wr = w8) (fun i _ => 64 - (intOf i).toNat)
    case atStart => exact ⟨0, by omega, rfl, rfl⟩
    case round =>
      obtain ⟨k, hk, rfl, rfl⟩ := hrel
      by_cases hlt64 : k < 64
      · obtain ⟨_, e1, _, hcW⟩ := HOX8.out.2.1.cell (j := k) (by rw [HB.out.1]; exact hlt64)
        cases e1
        obtain ⟨_, e2, _, hcN⟩ := HOX8.out.2.2.cell (j := k) (by rw [HB.out.2.1]; exact hlt64)
        cases e2
        have hxc := (HOX8.out.1.cell (j := k) (by rw [(HX.out 0 (by decide)).1]; exact hlt64)).1
        rw [(HX.out k hlt64).2] at hxc
        rw [Addr.add_mid, Nat.zero_add] at hcW hcN
        obtain ⟨yW, hyW⟩ : ∃ y, y = W.getD k 0 := ⟨_, rfl⟩
        obtain ⟨yN, hyN⟩ : ∃ y, y = N.getD k 0 := ⟨_, rfl⟩
        rw [← hyW] at hcW hxc
        rw [← hyN] at hcN hxc
        clear hyW hyN
        by_cases h32 : k < 32
        all_goals
          simp only [h32, decide_true, decide_false, Bool.false_and, Bool.true_and, Bool.not_true, Bool.not_false, Bool.or_true, Bool.or_false, Bool.true_or, Bool.false_or, if_true, if_false, Bool.false_eq_true, reduceIte] at hxc
          go_wp2
          go_roundw
          case rel => exact ⟨k + 1, by omega, rfl, by first | rfl | trivial⟩
          case measure => simp [intOf]; omega
      · obtain rfl : k = 64 := by omega
        go_wp2_with fail
        refine (alive_any _).mono ?_
        rintro e w9 ⟨rfl, b9⟩
        go_wp2
        go_ret
        have h9 := H0.out.1.trans (below_weak H0.out.1.size H8.out.2)
        exact ⟨rfl, h9.trans (below_weak h9.size b9)⟩
theorem sectorsTorn (cw : Array Value) (W : List Int) (cn : Array Value) (N : List Int) (cb : Array Value) (x : List Bool) (w : World) (hw : (Rdr.arr 64 (Rdr.int .u8)).R w cw.toList W) (hn : (Rdr.arr 64 (Rdr.int .u8)).R w cn.toList N) (hb : (Rdr.arr 2 Rdr.bool).R w cb.toList x) :
    Calls Try.prog 6 #[.agg cw, .agg cn, .agg cb] w fun e w' => e = .returned (.bool true) ∧ Below w.heap.size w w' := by
  obtain ⟨l1, e1, b1⟩ := Rdr.arr_int hw
  obtain ⟨l2, e2, b2⟩ := Rdr.arr_int hn
  obtain ⟨h0, h1, rfl⟩ := bools_of hb
  exact law W N cw cn h0 h1 w l1 l2 (fun z hz => by have := bounds_u8 (b1 z hz); omega) (fun z hz => by have := bounds_u8 (b2 z hz); omega) (by rw [← e1]) (by rw [← e2])
end Go.Proofs.Ytkokdpnnmkphmaa.LawTorn
