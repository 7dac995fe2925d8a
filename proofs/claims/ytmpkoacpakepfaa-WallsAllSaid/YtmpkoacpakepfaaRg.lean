/- SameBytes, SameRecords, RecordsSize: contracts, among the things in memory. -/
import Derived.Test.YtmpkoacpakepfaaWm
namespace Go.Proofs.Ytmpkoacpakepfaa.Sx
open Go Go.RowKit Base Own Disk

section
variable {P : Program} {T : Orc} {ops : Array Oper} {Q : Exit → Act → World → Prop} {S' : World → Prop} {Df : List Deferred} {N : Nat} {a : Act} {w w0 : World} {L : Env} {R : List Asn}
/-- An element whose cell is known, in a drawn region. -/
theorem sl_ldc (hT : T.Ok P) {s1 s2 : SOp} {rest : List Itm} {t te : TypeId} {x ix : Operand} {d1 d2 : Nat} {A : Option Addr} {ad : Addr} {v : Value} {n c e : Nat} {ki : IntKind} {i : Int} {de : TypeDesc}
    (hA : A = some ad) (hr : ∀ w, S' w → w.cell? (ad.add (i.toNat * 1)) = some v) (hv : vok v = true) (fr : FrD Df N a L) (hw : wantS L s1 = some true) (hq : s1.q = true) (ho1 : s1.op = .indexAddr t x ix) (hd1 : s1.dst = some d1) (hw2 : wantS L s2 = some true) (hq2 : s2.q = true) (ho2 : s2.op = .load te (.tmp d1)) (hd2 : s2.dst = some d2) (hl1 : Nat.blt d1 N = true) (hl2 : Nat.blt d2 N = true)
    (hx : ev L x = some (.slice A n c)) (hi : ev L ix = some (.int ki i)) (ht : T.ty.lookup t = some (.slice e)) (hs : T.sz.lookup e = some 1) (hte : T.ty.lookup te = some de) (hde : aggD de = false) (hf : L.lookup d1 = none) (hb : 0 ≤ i ∧ i < (n : Int))
    (h : ∀ a', FrD Df N a' ((d2, v) :: L) → SL P Q S' rest a' w) : SL P Q S' (.one s1 :: .one s2 :: rest) a w := by
  subst hA
  refine sl_q fr hw hq hd1 hl1 (fun w' _ => indexAddr_run hT fr (o := s1.oper) ho1 hx hi ht hs hb.1 hb.2 w') rfl fun a1 fr1 => ?_
  have hw3 : wantS ((d1, .pointer (some (ad.add (i.toNat * 1)))) :: L) s2 = some true := by
    have hk := hw2
    unfold wantS at hk ⊢
    split at hk
    · rename_i hg'; rw [hg'] at *
    · rename_i t' want hg'
      split at hk
      · rename_i b hb'
        have hne : t' ≠ d1 := fun e => by subst e; rw [hf] at hb'; cases hb'
        rw [lookup_cons, if_neg hne, hb']; exact hk
      · cases hk
      · cases hk
  exact sl_q (v := v) fr1 hw3 hq2 hd2 hl2 (fun w' hS' => load_run hT fr1 (o := s2.oper) ho2 (by show ((d1, _) :: L).lookup d1 = _; rw [lookup_cons, if_pos rfl]) hte hde (hr w' hS')) hv fun a2 fr2 => h a2 (fr2.skip2 hf)
end
section
variable {w w0 : World} {R : List Asn}
theorem enSb : Enters Try.prog 20 := fun _ _ => by kernel_rfl
theorem enBs : Enters Try.prog 31 := fun _ _ => by kernel_rfl
theorem same_call {A B : Option Addr} {ca cb : Nat} {a b : List Int} (ra : Rk .u8 w A a) (rb : Rk .u8 w B b) (hl : a.length ≤ 1000000000 ∧ b.length ≤ 1000000000) (S : Sat w0 w R) :
    Calls Try.prog 20 #[.slice A a.length ca, .slice B b.length cb] w fun e w' => e = .returned (.bool (decide (a = b))) ∧ Sat w0 w' R :=
  (Bytes.sameBytes A B ca cb a b w hl.1 hl.2 ra.rd rb.rd).mono fun e w' ⟨h1, h2⟩ => ⟨h1, S.new h2⟩
def shortL (l : List (List Int)) : Bool := l.all fun x => decide (x.length ≤ 1000000000)
theorem take_next' {α : Type} {a b : List α} {k : Nat} (ha : k < a.length) (hb : k < b.length) (h : a.take k = b.take k) (he : a[k] = b[k]) : a.take (k + 1) = b.take (k + 1) := by
  rw [List.take_succ_eq_append_getElem ha, List.take_succ_eq_append_getElem hb, h, he]
set_option maxRecDepth 100000 in
set_option maxHeartbeats 1000000 in
theorem samerecs_key {A B : Option Addr} {ca cb : Nat} {xs b : List (List Int)} (ra : RR .u8 w A xs) (rb : RR .u8 w B b) (ma : xs.length ≤ ca ∧ ca ≤ maxLen) (mb : b.length ≤ cb ∧ cb ≤ maxLen) (hl : xs.length ≤ 1000000 ∧ shortL xs = true ∧ shortL b = true) :
    Calls Try.prog 19 #[.slice A xs.length ca, .slice B b.length cb] w fun e w' => e = .returned (.bool (decide (xs = b))) ∧ Below w.heap.size w w' := by
  obtain ⟨h1, h2, h3⟩ := hl
  refine calls_start (N := 27) [.slice A xs.length ca, .slice B b.length cb] Try.func19 rfl rfl rfl (vok_c (vok_sl ma) (vok_c (vok_sl mb) rfl)) fun a fr => ?_
  skip; (repeat (with_reducible refine wp_seq ?_)); refine wp_region_lit ?_
  refine wl_run orcL_ok 1 rfl fr fun a fr => ?_
  refine wpList_nil ?_; (repeat (with_reducible refine then_n ?_))
  skip; (repeat (with_reducible refine wp_seq ?_)); refine wp_region_lit ?_
  refine wl_run orcL_ok 5 rfl fr fun a fr => ?_
  refine wpList_nil ?_; (repeat (with_reducible refine then_n ?_))
  by_cases hab : xs.length = b.length
  rotate_left
  · have fr := fr.bool (d := 10) rfl (show ((xs.length : Int) != (b.length : Int)) = true by simp; omega)
    skip; (repeat (with_reducible refine wp_seq ?_))
    refine cw_t fr rfl ?_
    skip; (repeat (with_reducible refine wp_seq ?_)); refine wp_region_lit ?_
    refine wl_run orcL_ok 1 rfl fr fun a fr => ?_
    refine wpList_nil ?_; (repeat (with_reducible refine then_n ?_))
    refine wp_ret ?_
    skip; (repeat (first | (with_reducible refine then_r ?_) | (with_reducible refine blk_r ?_) | (with_reducible refine ng_r ?_)))
    refine ret1 fr rfl rfl ?_
    exact ⟨by rw [decide_eq_false (fun e => hab (by rw [e]))], Below.refl _ _⟩
  have fr := fr.bool (d := 10) rfl (show ((xs.length : Int) != (b.length : Int)) = false by simp; omega)
  skip; (repeat (with_reducible refine wp_seq ?_))
  refine cw_f fr rfl ?_
  refine wp_skip ?_
  (with_reducible refine then_n ?_)
  skip; (repeat (with_reducible refine wp_seq ?_)); refine wp_region_lit ?_
  refine wl_run orcL_ok 1 rfl fr fun a fr => ?_
  refine wpList_nil ?_; (repeat (with_reducible refine then_n ?_))
  skip; (repeat (with_reducible refine wp_seq ?_))
  refine wp_block ?_
  refine cw_loop (fun q a w1 => ∃ i : Nat, i + q = xs.length + 1 ∧ i ≤ xs.length ∧ xs.take i = b.take i ∧ Fr 27 a [(0, .slice A xs.length ca), (1, .slice B b.length cb), (5, .int .i64 (i : Int))] ∧ Below w.heap.size w w1) (xs.length + 1)
    ⟨0, by omega, by omega, by simp, fr.sub ⟨rfl, rfl, rfl, trivial⟩, Below.refl _ _⟩ ?_ ?_
  · rintro a w1 ⟨i, h, h', -⟩
    omega
  clear fr
  rintro q a w1 ⟨i, hi, hi', hpre, fr, hbl⟩
  skip; (repeat (with_reducible refine wp_seq ?_)); refine wp_region_lit ?_
  refine wl_run orcL_ok 4 rfl fr fun a fr => ?_
  refine wpList_nil ?_; (repeat (with_reducible refine then_n ?_))
  by_cases hlt : i < xs.length
  rotate_left
  · have fr := fr.bool (d := 14) rfl (decide_eq_false (show ¬ (i : Int) < (xs.length : Int) by omega))
    skip; (repeat (with_reducible refine wp_seq ?_))
    refine cw_f fr rfl ?_
    refine wp_exit ?_
    skip; (repeat (first | (with_reducible refine then_e ?_) | (with_reducible refine ng_e ?_) | (with_reducible refine blk_e (by decide) ?_))); (with_reducible refine blk_y ?_); (repeat (with_reducible refine then_n ?_))
    skip; (repeat (with_reducible refine wp_seq ?_)); refine wp_region_lit ?_
    refine wl_run orcL_ok 1 rfl fr fun a fr => ?_
    refine wpList_nil ?_; (repeat (with_reducible refine then_n ?_))
    refine wp_ret ?_
    skip; (repeat (first | (with_reducible refine then_r ?_) | (with_reducible refine blk_r ?_) | (with_reducible refine ng_r ?_)))
    refine ret1 fr rfl rfl ?_
    refine ⟨?_, hbl⟩
    rw [List.take_of_length_le (by omega), List.take_of_length_le (by omega)] at hpre
    rw [decide_eq_true hpre]
  have fr := fr.bool (d := 14) rfl (decide_eq_true (show (i : Int) < (xs.length : Int) by omega))
  skip; (repeat (with_reducible refine wp_seq ?_))
  refine cw_t fr rfl ?_
  refine wp_skip ?_
  (with_reducible refine then_n ?_)
  skip; (repeat (with_reducible refine wp_seq ?_))
  refine wp_block ?_
  obtain ⟨A1, c1, rk1, m1, ad1, eA, hc1⟩ := ra.get (i := (i : Int)) ⟨by omega, by omega⟩
  obtain ⟨B1, d1, rk2, m2, bd1, eB, hc2⟩ := rb.get (i := (i : Int)) ⟨by omega, by omega⟩
  rw [Int.toNat_natCast] at rk1 m1 hc1 rk2 m2 hc2
  have g1 : xs.getD i [] = xs[i] := by rw [List.getD_eq_getElem?_getD, List.getElem?_eq_getElem hlt]; rfl
  have g2 : b.getD i [] = b[i]'(by omega) := by rw [List.getD_eq_getElem?_getD, List.getElem?_eq_getElem (by omega)]; rfl
  have l1 : (xs.getD i []).length ≤ 1000000000 := by
    unfold shortL at h2
    rw [List.all_eq_true] at h2
    have := h2 _ (List.getElem_mem hlt)
    rw [g1]; simpa using this
  have l2 : (b.getD i []).length ≤ 1000000000 := by
    unfold shortL at h3
    rw [List.all_eq_true] at h3
    have := h3 _ (List.getElem_mem (show i < b.length by omega))
    rw [g2]; simpa using this
  skip; (repeat (with_reducible refine wp_seq ?_))
  refine wp_region_sl [.one (0, true, some 17), .one (1, true, some 18), .one (2, true, some 19), .one (3, true, some 20), .one (4, true, some 21), .one (5, true, some 22), .one (6, true, some 23), .one (7, true, some 24), .one (8, false, some 25), .one (9, true, some 26)]
                [.one ⟨true, some 17, (Go.Op.move (Go.Operand.tmp 0)), 34, none⟩,
                .one ⟨true, some 18, (Go.Op.move (Go.Operand.tmp 5)), 3, none⟩,
                .one ⟨true, some 19, (Go.Op.indexAddr 34 (Go.Operand.tmp 17) (Go.Operand.tmp 18)), 0, none⟩,
                .one ⟨true, some 20, (Go.Op.load 22 (Go.Operand.tmp 19)), 22, none⟩,
                .one ⟨true, some 21, (Go.Op.move (Go.Operand.tmp 1)), 34, none⟩,
                .one ⟨true, some 22, (Go.Op.move (Go.Operand.tmp 5)), 3, none⟩,
                .one ⟨true, some 23, (Go.Op.indexAddr 34 (Go.Operand.tmp 21) (Go.Operand.tmp 22)), 0, none⟩,
                .one ⟨true, some 24, (Go.Op.load 22 (Go.Operand.tmp 23)), 22, none⟩,
                .one ⟨false, some 25, (Go.Op.call { callee := (Go.Callee.value (Go.Operand.func 20)), args := #[(Go.Operand.tmp 20), (Go.Operand.tmp 24)], argTypes := #[22, 22] }), 4, none⟩,
                .one ⟨true, some 26, (Go.Op.unOp Go.UnOp.not 4 (Go.Operand.tmp 25)), 4, none⟩]
                (fun w' => Below w.heap.size w w') rfl (by kernel_rfl) (by kernel_rfl) ?_ ?_
  · exact hbl.drew
  have hbl := hbl.drew
  refine sl_run orcL_ok 2 rfl fr fun a fr => ?_
  refine sl_ldc orcL_ok (i := (i : Int)) (v := .slice A1 (xs.getD i []).length c1) eA (fun w' hb => RR.cellAt hb hc1) (vok_sl m1) fr rfl rfl rfl rfl rfl rfl rfl rfl rfl rfl rfl rfl rfl rfl rfl rfl rfl ⟨by omega, by omega⟩ fun a fr => ?_
  refine sl_run orcL_ok 2 rfl fr fun a fr => ?_
  refine sl_ldc orcL_ok (i := (i : Int)) (v := .slice B1 (b.getD i []).length d1) eB (fun w' hb => RR.cellAt hb hc2) (vok_sl m2) fr rfl rfl rfl rfl rfl rfl rfl rfl rfl rfl rfl rfl rfl rfl rfl rfl rfl ⟨by omega, by omega⟩ fun a fr => ?_
  refine sl_call fr rfl rfl rfl rfl rfl enSb (same_call (w0 := w) (R := []) (rk1.below hbl) (rk2.below hbl) ⟨l1, l2⟩ ⟨hbl, trivial⟩) ?_
  rintro _ w2 ⟨rfl, S⟩
  have hbl := S.below
  refine ⟨_, rfl, rfl, hbl, fun a fr => ?_⟩
  refine sl_run orcL_ok 1 rfl fr fun a fr => ?_
  refine sl_end ?_
  (repeat (with_reducible refine then_n ?_))
  by_cases he : xs.getD i [] = b.getD i []
  · have fr := fr.bool (d := 26) rfl (show (!decide (xs.getD i [] = b.getD i [])) = false by rw [decide_eq_true he]; rfl)
    skip; (repeat (with_reducible refine wp_seq ?_))
    refine cw_f fr rfl ?_
    refine wp_skip ?_
    (repeat (first | (with_reducible refine then_n ?_) | (with_reducible refine blk_n ?_) | (with_reducible refine ng_n ?_)))
    skip; (repeat (with_reducible refine wp_seq ?_)); refine wp_region_lit ?_
    refine wl_run orcL_ok 3 rfl fr fun a fr => ?_
    refine wpList_nil ?_; (repeat (with_reducible refine then_n ?_))
    have fr := fr.spell (d := 5) rfl (congrArg (Value.int .i64) (show IntKind.wrap .i64 ((i : Int) + 1) = ((i + 1 : Nat) : Int) by rw [show IntKind.wrap .i64 ((i : Int) + 1) = (i : Int) + 1 from IntWalk.i64_in _ ⟨by omega, by omega⟩]; omega))
    exact ⟨i + 1, by omega, by omega, take_next' hlt (by omega) hpre (by rw [← g1, ← g2]; exact he), fr.sub ⟨rfl, rfl, rfl, trivial⟩, hbl⟩
  · have fr := fr.bool (d := 26) rfl (show (!decide (xs.getD i [] = b.getD i [])) = true by rw [decide_eq_false he]; rfl)
    skip; (repeat (with_reducible refine wp_seq ?_))
    refine cw_t fr rfl ?_
    skip; (repeat (with_reducible refine wp_seq ?_)); refine wp_region_lit ?_
    refine wl_run orcL_ok 1 rfl fr fun a fr => ?_
    refine wpList_nil ?_; (repeat (with_reducible refine then_n ?_))
    refine wp_ret ?_
    skip; (repeat (first | (with_reducible refine then_r ?_) | (with_reducible refine blk_r ?_) | (with_reducible refine ng_r ?_)))
    refine ret1 fr rfl rfl ?_
    exact ⟨by rw [decide_eq_false (fun e => he (by rw [e]))], hbl⟩
theorem samerecs_call {A B : Option Addr} {ca cb : Nat} {a b : List (List Int)} (ra : RR .u8 w A a) (rb : RR .u8 w B b) (ma : a.length ≤ ca ∧ ca ≤ maxLen) (mb : b.length ≤ cb ∧ cb ≤ maxLen) (hl : a.length ≤ 1000000 ∧ shortL a = true ∧ shortL b = true) (S : Sat w0 w R) :
    Calls Try.prog 19 #[.slice A a.length ca, .slice B b.length cb] w fun e w' => e = .returned (.bool (decide (a = b))) ∧ Sat w0 w' R :=
  (samerecs_key ra rb ma mb hl).mono fun e w' ⟨h1, h2⟩ => ⟨h1, S.new h2⟩
end
end Go.Proofs.Ytmpkoacpakepfaa.Sx
