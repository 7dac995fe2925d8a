/- SumsApart walked. -/
import Derived.Test.YtdhogkenmpgklaaAlive03
import Derived.Test.YtdhogkenmpgklaaCrc2
import Derived.Test.YtdhogkenmpgklaaRdr
import Derived.OpenShut
namespace Go.Proofs.Ytdhogkenmpgklaa.LawApart
open Go.RowKit Crc Sums Base Alive Own

def col (j : Nat) (l : List (List Int)) : List Int := l.map fun x => x.getD j 0
theorem triple {w : World} {A : Option Addr} {l : List (List Int)} (h : Rdr.Row (Rdr.arr 3 (Rdr.int .u8)) w A l) {i : Nat} (hi : i < l.length) :
    ∃ ad, A = some ad ∧ ad.block < w.heap.size ∧ ∀ j, j < 3 → w.cell? (ad.add (i * 3 + j)) = some (.int .u8 ((l.getD i []).getD j 0)) ∧ 0 ≤ (l.getD i []).getD j 0 ∧ (l.getD i []).getD j 0 < 256 := by
  obtain ⟨ad, e, h1, h2⟩ := h (by intro e; rw [e] at hi; exact absurd hi (Nat.not_lt_zero _))
  obtain ⟨c, h3, h4⟩ := h2 i _ (List.getElem?_eq_getElem hi)
  obtain ⟨hl, rfl, hw⟩ := Rdr.arr_int h3
  refine ⟨ad, e, h1 (by decide), fun j hj => ?_⟩
  have e1 : l.getD i [] = l[i] := by rw [List.getD_eq_getElem?_getD, List.getElem?_eq_getElem hi]; rfl
  have hj' : j < l[i].length := by omega
  have e2 : l[i].getD j 0 = l[i][j] := by rw [List.getD_eq_getElem?_getD, List.getElem?_eq_getElem hj']; rfl
  have hb := bounds_u8 (hw _ (List.getElem_mem hj'))
  rw [e1, e2]
  refine ⟨h4 j _ ?_, by omega, by omega⟩
  rw [List.getElem?_map, List.getElem?_eq_getElem hj']; rfl

set_option maxRecDepth 100000 in
theorem law (A : Option Addr) (ca : Nat) (l : List (List Int)) (s o : BitVec 32) (w : World) (hl : l.length ≤ 9223372036854775807) (hr : Rdr.Row (Rdr.arr 3 (Rdr.int .u8)) w A l) :
    Calls Try.prog 6 #[.slice A l.length ca, .int .u32 (num s), .int .u32 (num o)] w fun e w' => e = .returned (.bool true) ∧ Below w.heap.size w w' := by
  by_cases hbig : 30000 < l.length
  · go_enter Try.func6, Try.ntmps6
    go_wp2_with fail
    refine (alive_any _).mono ?_
    rintro e w1 ⟨rfl, hb1⟩
    go_wp2_with fail
    refine (alive_any _).mono ?_
    rintro e w2 ⟨rfl, hb2⟩
    go_wp2
    go_ret
    exact ⟨rfl, hb1.trans (below_weak hb1.size hb2)⟩
  · have HR := Lib.hid hr
    clear hr
    go_enter Try.func6, Try.ntmps6
    go_wp2_with fail
    refine (alive_any _).mono ?_
    rintro e w1 ⟨rfl, bd⟩
    go_wp2_with fail
    have HB1 := Lib.hid bd
    clear bd
    go_loopw [7, 8, 9, 10, 11] (fun va vb vc vd i wr => ∃ k : Nat, k ≤ l.length ∧ i = .int .i64 k ∧ Hid (Below w.heap.size w wr) ∧
      Hid (OwnI .u8 wr w.heap.size 5 va (col 0 (l.take k)) ∧ OwnI .u8 wr w.heap.size 5 vb (col 1 (l.take k)) ∧ OwnI .u8 wr w.heap.size 5 vc (col 2 (l.take k)) ∧
        OwnI .u8 wr w.heap.size 5 vd (List.zipWith xor8 (List.zipWith xor8 (col 0 (l.take k)) (col 1 (l.take k))) (col 2 (l.take k)))) ∧
      Hid (Sep va vb ∧ Sep va vc ∧ Sep va vd ∧ Sep vb vc ∧ Sep vb vd ∧ Sep vc vd)) (fun _ _ _ _ i _ => l.length - (intOf i).toNat)
    case atStart =>
      exact ⟨0, by omega, rfl, HB1, ⟨OwnI.nil _ _ _ _, OwnI.nil _ _ _ _, OwnI.nil _ _ _ _, OwnI.nil _ _ _ _⟩, ⟨Sep.nil _, Sep.nil _, Sep.nil _, Sep.nil _, Sep.nil _, Sep.nil _⟩⟩
    case round =>
      obtain ⟨k, hk, rfl, hbd, hown, hsep⟩ := hrel
      by_cases hlt : k < l.length
      · obtain ⟨ad, rfl, hadb, hcell⟩ := triple HR.out hlt
        have hat : ∀ (j : Nat) (W : World), j < 3 → Below w.heap.size w W → W.cell? ((ad.add (k * 3)).add j) = some (.int .u8 ((l.getD k []).getD j 0)) := by
          intro j W hj hb
          rw [hb.cell (by rw [add_block, add_block]; exact hadb), add_add]
          exact (hcell j hj).1
        have HY0 := Lib.hid (And.intro (hcell 0 (by omega)).2.1 (hcell 0 (by omega)).2.2)
        have HY1 := Lib.hid (And.intro (hcell 1 (by omega)).2.1 (hcell 1 (by omega)).2.2)
        have HY2 := Lib.hid (And.intro (hcell 2 (by omega)).2.1 (hcell 2 (by omega)).2.2)
        have hc0 := hat 0 wr (by omega) hbd.out
        rw [add_zero] at hc0
        obtain ⟨y0, hy0⟩ : ∃ y, y = (l.getD k []).getD 0 0 := ⟨_, rfl⟩
        obtain ⟨y1, hy1⟩ : ∃ y, y = (l.getD k []).getD 1 0 := ⟨_, rfl⟩
        obtain ⟨y2, hy2⟩ : ∃ y, y = (l.getD k []).getD 2 0 := ⟨_, rfl⟩
        have hat1 : ∀ W : World, Below w.heap.size w W → W.cell? ⟨(ad.add (k * 3)).block, (ad.add (k * 3)).off + 1, none⟩ = some (.int .u8 y1) := fun W hb => by rw [hy1]; exact hat 1 W (by omega) hb
        have hat2 : ∀ W : World, Below w.heap.size w W → W.cell? ⟨(ad.add (k * 3)).block, (ad.add (k * 3)).off + 2, none⟩ = some (.int .u8 y2) := fun W hb => by rw [hy2]; exact hat 2 W (by omega) hb
        have hat0 : ∀ W : World, Below w.heap.size w W → W.cell? (ad.add (k * 3)) = some (.int .u8 y0) := fun W hb => by rw [hy0]; have := hat 0 W (by omega) hb; rwa [add_zero] at this
        rw [← hy0] at hc0 HY0
        rw [← hy1] at HY1
        rw [← hy2] at HY2
        have HA0 := Lib.hid hat0
        have HA1 := Lib.hid hat1
        have HA2 := Lib.hid hat2
        have HE := Lib.hid (And.intro hy0 (And.intro hy1 hy2))
        obtain ⟨oa, ob, oc, od⟩ := hown.out
        obtain ⟨s1, s2, s3, s4, s5, s6⟩ := hsep.out
        have HO := Lib.hid (And.intro oa (And.intro ob (And.intro oc od)))
        have HS := Lib.hid (And.intro s1 (And.intro s2 (And.intro s3 (And.intro s4 (And.intro s5 s6)))))
        clear hat hat0 hat1 hat2 hy0 hy1 hy2 hcell hown hsep oa ob oc od s1 s2 s3 s4 s5 s6 hadb
        have hlen : ∀ j, (col j (l.take k)).length = k := fun j => by unfold col; rw [List.length_map, List.length_take]; omega
        have HL := Lib.hid hlen
        clear hlen
        go_wp2_with (first
          | (at_builtin; refine ap_lit rfl tyB hbd.out HO.out.1 [y0] rfl (by rw [HL.out]; simp; omega) (.tmp 26) _ 1 1 rfl rfl rfl rfl ?_; clear hc0; intro va2 w2 own2 bd2 hg2 hv2; have H2 := Lib.hid (And.intro own2 (And.intro bd2 (And.intro hg2 hv2))); have hc1 := HA1.out w2 bd2; clear own2 bd2 hg2 hv2)
          | (at_builtin; refine ap_lit rfl tyB H2.out.2.1 (HO.out.2.1.other H2.out.2.2.1 HS.out.1) [y1] rfl (by rw [HL.out]; simp; omega) (.tmp 34) _ 1 1 rfl rfl rfl rfl ?_; clear hc1; intro vb2 w3 own3 bd3 hg3 hv3; have H3 := Lib.hid (And.intro own3 (And.intro bd3 (And.intro hg3 hv3))); have hc2 := HA2.out w3 bd3; clear own3 bd3 hg3 hv3)
          | (at_builtin; refine ap_lit rfl tyB H3.out.2.1 ((HO.out.2.2.1.other H2.out.2.2.1 HS.out.2.1).other H3.out.2.2.1 HS.out.2.2.2.1) [y2] rfl (by rw [HL.out]; simp; omega) (.tmp 42) _ 1 1 rfl rfl rfl rfl ?_; clear hc2; intro vc2 w4 own4 bd4 hg4 hv4; have H4 := Lib.hid (And.intro own4 (And.intro bd4 (And.intro hg4 hv4))); clear own4 bd4 hg4 hv4))
        refine wp_region_sl [(0, true, some 50), (1, true, some 51), (2, true, some 52), (3, true, some 53), (4, true, some 54), (5, true, some 55), (6, true, some 56), (7, true, some 57), (8, true, some 58), (9, true, some 59), (10, true, some 60), (11, true, some 61), (12, true, some 62), (13, true, some 63), (14, true, some 64), (15, true, some 65), (16, true, some 66), (17, true, some 67), (18, false, some 68), (19, false, some 69), (20, true, some 10)]
                [⟨true, some 50, (Go.Op.move (Go.Operand.tmp 10)), 22, none⟩,
                ⟨true, some 51, (Go.Op.move (Go.Operand.tmp 0)), 34, none⟩,
                ⟨true, some 52, (Go.Op.move (Go.Operand.tmp 11)), 3, none⟩,
                ⟨true, some 53, (Go.Op.indexAddr 34 (Go.Operand.tmp 51) (Go.Operand.tmp 52)), 0, none⟩,
                ⟨true, some 54, (Go.Op.indexAddr 35 (Go.Operand.tmp 53) (Go.Operand.const (Go.Value.int Go.IntKind.i64 0))), 0, none⟩,
                ⟨true, some 55, (Go.Op.load 5 (Go.Operand.tmp 54)), 5, none⟩,
                ⟨true, some 56, (Go.Op.move (Go.Operand.tmp 0)), 34, none⟩,
                ⟨true, some 57, (Go.Op.move (Go.Operand.tmp 11)), 3, none⟩,
                ⟨true, some 58, (Go.Op.indexAddr 34 (Go.Operand.tmp 56) (Go.Operand.tmp 57)), 0, none⟩,
                ⟨true, some 59, (Go.Op.indexAddr 35 (Go.Operand.tmp 58) (Go.Operand.const (Go.Value.int Go.IntKind.i64 1))), 0, none⟩,
                ⟨true, some 60, (Go.Op.load 5 (Go.Operand.tmp 59)), 5, none⟩,
                ⟨true, some 61, (Go.Op.binOp Go.BinOp.xor 5 (Go.Operand.tmp 55) (Go.Operand.tmp 60) 5), 5, none⟩,
                ⟨true, some 62, (Go.Op.move (Go.Operand.tmp 0)), 34, none⟩,
                ⟨true, some 63, (Go.Op.move (Go.Operand.tmp 11)), 3, none⟩,
                ⟨true, some 64, (Go.Op.indexAddr 34 (Go.Operand.tmp 62) (Go.Operand.tmp 63)), 0, none⟩,
                ⟨true, some 65, (Go.Op.indexAddr 35 (Go.Operand.tmp 64) (Go.Operand.const (Go.Value.int Go.IntKind.i64 2))), 0, none⟩,
                ⟨true, some 66, (Go.Op.load 5 (Go.Operand.tmp 65)), 5, none⟩,
                ⟨true, some 67, (Go.Op.binOp Go.BinOp.xor 5 (Go.Operand.tmp 61) (Go.Operand.tmp 66) 5), 5, none⟩,
                ⟨false, some 68, (Go.Op.buildSlice 22 1 #[(0, (Go.Operand.tmp 67))]), 22, none⟩,
                ⟨false, some 69, (Go.Op.call { callee := (Go.Callee.builtin Go.Builtin.append), args := #[(Go.Operand.tmp 50), (Go.Operand.tmp 68)], argTypes := #[22, 22] }), 22, none⟩,
                ⟨true, some 10, (Go.Op.assign (Go.Operand.tmp 69)), 22, none⟩]
                (fun w' => w'.cell? (ad.add (k * 3)) = some (.int .u8 y0) ∧ w'.cell? ⟨(ad.add (k * 3)).block, (ad.add (k * 3)).off + 1, none⟩ = some (.int .u8 y1) ∧ w'.cell? ⟨(ad.add (k * 3)).block, (ad.add (k * 3)).off + 2, none⟩ = some (.int .u8 y2)) rfl (by kernel_rfl) (by kernel_rfl) ?_ ?_
        · exact ⟨HA0.out _ H4.out.2.1.drew, HA1.out _ H4.out.2.1.drew, HA2.out _ H4.out.2.1.drew⟩
        repeat (first | ((with_reducible refine sq (v := ?_) (a' := ?_) ?_ ?_ ?_); rotate_left 2; (focus (intro w' hS; go_simp; (first | done | with_reducible rfl | rfl))); (simp only [Act.put, List.setIfInBounds_toArray, List.set_cons_zero, List.set_cons_succ]; rfl)) | ((with_reducible refine sn (a' := ?_) ?_ ?_ ?_); rotate_left; (focus rfl); (simp only [Act.put, List.setIfInBounds_toArray, List.set_cons_zero, List.set_cons_succ]; rfl)) | ((with_reducible refine sf trivial (a' := ?_) ?_ ?_ ?_); rotate_left; (focus rfl); (simp only [Act.put, List.setIfInBounds_toArray, List.set_cons_zero, List.set_cons_succ]; rfl)) | ((with_reducible refine sqg (v := ?_) (a' := ?_) ?_ ?_ ?_ ?_); rotate_left 2; (focus rfl); (focus (intro w' hS; go_simp; (first | done | with_reducible rfl | rfl))); (simp only [Act.put, List.setIfInBounds_toArray, List.set_cons_zero, List.set_cons_succ]; rfl)))
        refine sv (v := .slice (some ⟨w4.heap.size, 0, none⟩) 1 1) (w' := w4.drew.alloc (.cells #[.int .u8 (xor8 (xor8 y0 y1) y2)] 5)) (a' := ?_) ?_ ?_ ?_ ?_
        rotate_left 1
        (focus (go_simp; rfl))
        · exact ⟨HA0.out _ (H4.out.2.1.drew.alloc H4.out.2.1.size _), HA1.out _ (H4.out.2.1.drew.alloc H4.out.2.1.size _), HA2.out _ (H4.out.2.1.drew.alloc H4.out.2.1.size _)⟩
        · simp only [Act.put, List.setIfInBounds_toArray, List.set_cons_zero, List.set_cons_succ]; rfl
        refine se' fun K hK => ?_
        refine ap_lit_wp tyB H4.out.2.1.drew ((((HO.out.2.2.2.other H2.out.2.2.1 HS.out.2.2.1).other H3.out.2.2.1 HS.out.2.2.2.2.1).other H4.out.2.2.1 HS.out.2.2.2.2.2).kept (Chg.drew _) (fun _ _ hf => hf)) [xor8 (xor8 y0 y1) y2] rfl (by simp [HL.out]; omega) (.tmp 50) _ 1 1 rfl rfl rfl rfl ?_
        intro vd2 w5 own5 bd5 hg5 hv5
        have H5 := Lib.hid (And.intro own5 (And.intro bd5 (And.intro hg5 hv5)))
        refine hK _ _ ⟨HA0.out _ bd5, HA1.out _ bd5, HA2.out _ bd5⟩ fun a'' ha => ?_
        clear own5 bd5 hg5 hv5
        simp only [Act.put, List.setIfInBounds_toArray, List.set_cons_zero, List.set_cons_succ] at ha
        subst ha
        repeat (first | ((with_reducible refine sq (v := ?_) (a' := ?_) ?_ ?_ ?_); rotate_left 2; (focus (intro w' hS; go_simp; (first | done | with_reducible rfl | rfl))); (simp only [Act.put, List.setIfInBounds_toArray, List.set_cons_zero, List.set_cons_succ]; rfl)) | ((with_reducible refine sn (a' := ?_) ?_ ?_ ?_); rotate_left; (focus rfl); (simp only [Act.put, List.setIfInBounds_toArray, List.set_cons_zero, List.set_cons_succ]; rfl)) | ((with_reducible refine sf trivial (a' := ?_) ?_ ?_ ?_); rotate_left; (focus rfl); (simp only [Act.put, List.setIfInBounds_toArray, List.set_cons_zero, List.set_cons_succ]; rfl)) | ((with_reducible refine sqg (v := ?_) (a' := ?_) ?_ ?_ ?_ ?_); rotate_left 2; (focus rfl); (focus (intro w' hS; go_simp; (first | done | with_reducible rfl | rfl))); (simp only [Act.put, List.setIfInBounds_toArray, List.set_cons_zero, List.set_cons_succ]; rfl)))
        refine sl_end ?_
        go_wp2
        go_roundw
        case rel =>
          obtain ⟨oa, ob, oc, od⟩ := HO.out
          obtain ⟨s1, s2, s3, s4, s5, s6⟩ := HS.out
          obtain ⟨o2, b2, g2, v2⟩ := H2.out
          obtain ⟨o3, b3, g3, v3⟩ := H3.out
          obtain ⟨o4, b4, g4, v4⟩ := H4.out
          obtain ⟨o5, b5, g5, v5⟩ := H5.out
          have z2 : wr.heap.size ≤ w2.heap.size := g2.size
          have z3 : w2.heap.size ≤ w3.heap.size := g3.size
          have z4 : w3.heap.size ≤ w4.heap.size := g4.size
          have t1 : Sep va2 u8 := s1.grow v2 fun g hg => (ob.lt g hg).2
          have t2 : Sep va2 u9 := s2.grow v2 fun g hg => (oc.lt g hg).2
          have t3 : Sep va2 u10 := s3.grow v2 fun g hg => (od.lt g hg).2
          have t4 : Sep vb2 va2 := t1.symm.grow v3 fun g hg => (o2.lt g hg).2
          have t5 : Sep vb2 u9 := s4.grow v3 fun g hg => by have := (oc.lt g hg).2; omega
          have t6 : Sep vb2 u10 := s5.grow v3 fun g hg => by have := (od.lt g hg).2; omega
          have t7 : Sep vc2 va2 := t2.symm.grow v4 fun g hg => by have := (o2.lt g hg).2; omega
          have t8 : Sep vc2 vb2 := t5.symm.grow v4 fun g hg => (o3.lt g hg).2
          have t9 : Sep vc2 u10 := s6.grow v4 fun g hg => by have := (od.lt g hg).2; omega
          have t10 : Sep vd2 va2 := t3.symm.grow v5 fun g hg => by have := (o2.lt g hg).2; show g < w4.heap.size; omega
          have t11 : Sep vd2 vb2 := t6.symm.grow v5 fun g hg => by have := (o3.lt g hg).2; show g < w4.heap.size; omega
          have t12 : Sep vd2 vc2 := t9.symm.grow v5 fun g hg => (o4.lt g hg).2
          have p2 := (((o2.other g3 t1.symm).other g4 t2.symm).kept (Chg.drew _) (fun _ _ hf => hf)).other g5 t3.symm
          have p3 := ((o3.other g4 t5.symm).kept (Chg.drew _) (fun _ _ hf => hf)).other g5 t6.symm
          have p4 := (o4.kept (Chg.drew _) (fun _ _ hf => hf)).other g5 t9.symm
          have e1 : ∀ j, col j (l.take (k + 1)) = col j (l.take k) ++ [(l.getD k []).getD j 0] := fun j => by
            unfold col
            rw [List.take_add_one, List.getElem?_eq_getElem hlt, List.map_append, List.getD_eq_getElem?_getD (l := l), List.getElem?_eq_getElem hlt]; rfl
          refine ⟨k + 1, by omega, rfl, b5, ⟨?_, ?_, ?_, ?_⟩, t4.symm, t7.symm, t10.symm, t8.symm, t11.symm, t12.symm⟩
          · rw [e1 0, ← HE.out.1]; exact p2
          · rw [e1 1, ← HE.out.2.1]; exact p3
          · rw [e1 2, ← HE.out.2.2]; exact p4
          · rw [e1 0, e1 1, e1 2, ← HE.out.1, ← HE.out.2.1, ← HE.out.2.2, List.zipWith_append (by rw [HL.out, HL.out]), List.zipWith_append (by rw [List.length_zipWith, HL.out, HL.out, HL.out]; omega)]; exact o5
        case measure => simp [intOf]; omega
      · obtain rfl : k = l.length := by omega
        have hne : ¬ (l.length : Int) < l.length := by omega
        obtain ⟨oa, ob, oc, od⟩ := hown.out
        have hlen : ∀ j, (col j (l.take l.length)).length = l.length := fun j => by unfold col; rw [List.length_map, List.length_take]; omega
        have hbts : ∀ j, j < 3 → Bts (col j (l.take l.length)) := by
          intro j hj x hx
          unfold col at hx
          rw [List.take_length] at hx
          obtain ⟨y, hy, rfl⟩ := List.mem_map.1 hx
          obtain ⟨i, hi, rfl⟩ := List.mem_iff_getElem.1 hy
          obtain ⟨_, _, _, h⟩ := triple HR.out hi
          have := (h j hj).2
          rw [List.getD_eq_getElem?_getD (l := l), List.getElem?_eq_getElem hi] at this
          exact this
        have e3 := on_three _ _ _ ((hlen 0).trans (hlen 1).symm) ((hlen 0).trans (hlen 2).symm) (hbts 0 (by omega)) (hbts 1 (by omega)) (hbts 2 (by omega))
        have hbd4 := xor8_bt _ _ (xor8_bt _ _ (hbts 0 (by omega)) (hbts 1 (by omega))) (hbts 2 (by omega))
        have hin := on_inj s o (col 0 (l.take l.length))
        have h3 : bits .xor .u32 (bits .xor .u32 (num (on 0#32 (col 0 (l.take l.length)))) (num (on 0#32 (col 1 (l.take l.length))))) (num (on 0#32 (col 2 (l.take l.length)))) =
            num (on 0#32 (List.zipWith xor8 (List.zipWith xor8 (col 0 (l.take l.length)) (col 1 (l.take l.length))) (col 2 (l.take l.length)))) := by rw [bits_xor, bits_xor, e3]
        have hl4 : (List.zipWith xor8 (List.zipWith xor8 (col 0 (l.take l.length)) (col 1 (l.take l.length))) (col 2 (l.take l.length))).length = l.length := by
          rw [List.length_zipWith, List.length_zipWith, hlen, hlen, hlen]; omega
        have HE := Lib.hid h3
        have HB := Lib.hid (And.intro (hbts 0 (by omega)) (And.intro (hbts 1 (by omega)) (And.intro (hbts 2 (by omega)) hbd4)))
        have HL := Lib.hid (And.intro (hlen 0) (And.intro (hlen 1) (And.intro (hlen 2) hl4)))
        have HO := hown
        clear h3 hbts hbd4 hlen hl4 e3 hown oa ob oc od
        obtain ⟨L0, h0⟩ : ∃ x, x = col 0 (l.take l.length) := ⟨_, rfl⟩
        obtain ⟨L1, h1⟩ : ∃ x, x = col 1 (l.take l.length) := ⟨_, rfl⟩
        obtain ⟨L2, h2⟩ : ∃ x, x = col 2 (l.take l.length) := ⟨_, rfl⟩
        rw [← h0, ← h1, ← h2] at HE HB HL HO
        rw [← h0] at hin
        obtain ⟨L3, h3⟩ : ∃ x, x = List.zipWith xor8 (List.zipWith xor8 L0 L1) L2 := ⟨_, rfl⟩
        rw [← h3] at HE HB HL HO
        clear h0 h1 h2 h3
        go_wp2_with fail
        refine (on_own hbd.out s HO.out.1 HB.out.1 (by rw [HL.out.1]; omega)).mono ?_
        rintro e v2 ⟨rfl, b2, n2⟩
        have HB2 := Lib.hid (And.intro b2 n2)
        clear b2 n2
        go_wp2_with fail
        refine (on_own HB2.out.1 o (HO.out.1.new HB2.out.2) HB.out.1 (by rw [HL.out.1]; omega)).mono ?_
        rintro e v3 ⟨rfl, b2, n2⟩
        have HB3 := Lib.hid (And.intro b2 (HB2.out.2.trans (below_weak HB2.out.2.size n2)))
        clear b2 n2
        go_wp2_with fail
        refine (of_own HB3.out.1 (HO.out.1.new HB3.out.2) HB.out.1 (by rw [HL.out.1]; omega)).mono ?_
        rintro e v4 ⟨rfl, b2, n2⟩
        have HB4 := Lib.hid (And.intro b2 (HB3.out.2.trans (below_weak HB3.out.2.size n2)))
        clear b2 n2
        go_wp2_with fail
        refine (of_own HB4.out.1 (HO.out.2.1.new HB4.out.2) HB.out.2.1 (by rw [HL.out.2.1]; omega)).mono ?_
        rintro e v5 ⟨rfl, b2, n2⟩
        have HB5 := Lib.hid (And.intro b2 (HB4.out.2.trans (below_weak HB4.out.2.size n2)))
        clear b2 n2
        go_wp2_with fail
        refine (of_own HB5.out.1 (HO.out.2.2.1.new HB5.out.2) HB.out.2.2.1 (by rw [HL.out.2.2.1]; omega)).mono ?_
        rintro e v6 ⟨rfl, b2, n2⟩
        have HB6 := Lib.hid (And.intro b2 (HB5.out.2.trans (below_weak HB5.out.2.size n2)))
        clear b2 n2
        go_wp2_with fail
        refine (of_own HB6.out.1 (HO.out.2.2.2.new HB6.out.2) HB.out.2.2.2 (by rw [HL.out.2.2.2]; omega)).mono ?_
        rintro e v7 ⟨rfl, b2, n2⟩
        have h3 := HE.out
        go_wp2
        go_ret
        exact ⟨rfl, b2⟩
theorem sumsApart (A : Option Addr) (ca : Nat) (l : List (List Int)) (x y : Int) (w : World) (_ : l.length ≤ ca) (hl : ca ≤ maxLen) (hr : Rdr.Row (Rdr.arr 3 (Rdr.int .u8)) w A l) (wx : (Lit.int .u32 x).wf = true) (wy : (Lit.int .u32 y).wf = true) :
    Calls Try.prog 6 #[.slice A l.length ca, .int .u32 x, .int .u32 y] w fun e w' => e = .returned (.bool true) ∧ Below w.heap.size w w' := by
  have hx := bounds_u32 wx
  have hy := bounds_u32 wy
  have := law A ca l (BitVec.ofInt 32 x) (BitVec.ofInt 32 y) w (by unfold maxLen at hl; omega) hr
  rwa [num_of (by omega) (by omega), num_of (by omega) (by omega)] at this
end Go.Proofs.Ytdhogkenmpgklaa.LawApart
