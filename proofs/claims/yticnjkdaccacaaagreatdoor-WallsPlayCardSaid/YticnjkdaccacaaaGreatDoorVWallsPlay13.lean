/- Texts of this work, one behind the other. -/
import Derived.Test.YticnjkdaccacaaaGreatDoorVWallsPlay12
import Derived.IntWalk
section
namespace Go.Proofs.YticnjkdaccacaaaGreatDoor.Sx
open Go Go.RowKit Base _root_.Go.Proofs.YticnjkdaccacaaaGreatDoor.Own OwnV Disk Bytes
theorem vok1_c {v : Value} {vs : List Value} (h : vok1 v = true) (h2 : vs.all vok1 = true) : (v :: vs).all vok1 = true := by rw [List.all_cons, h, h2]; rfl
theorem vok1_ag {vs : List Value} (h : vs.all vok1 = true) : vok (.agg vs.toArray) = true := h
theorem wl_stu {P : Program} {T : Orc} {ops : Array Oper} {Q : Exit → Act → World → Prop} {Df : List Deferred} {N : Nat} {a : Act} {w w0 : World} {L : Env} {R : List Asn} (hT : T.Ok P) {o : Oper} {rest : List Oper} {te : TypeId} {p v : Operand} {b e' : Nat} {cs vs : List Value} (fr : FrD Df N a L) (hw : wantL ops L o = some true) (hd : o.dst = none) (ho : o.op = .store te p v) (hp : ev L p = some (.pointer (some ⟨b, 0, none⟩))) (hv : ev L v = some (.agg vs.toArray)) (hs : T.sz.lookup te = some vs.length)
    (hl : cs.length = vs.length) (h1 : vs.all (fun v => v.oneCell') = true) (h2 : vs.all vok = true) (S : Sat w0 w (stA e' b cs :: R)) (h : ∀ w', Sat w0 w' (stA e' b vs :: R) → wpList P ops Q rest a w') : wpList P ops Q (o :: rest) a w := by
  refine wl_stg hT fr hw hd ho hp hv hs hl ?_ S h
  rw [List.all_eq_true] at h1 h2 ⊢
  exact fun x hx => by rw [h1 x hx, h2 x hx]; rfl
section
variable {w w0 : World} {R : List Asn}
theorem sameD_call {A B : Option Addr} {ca cb : Nat} {a b : List Int} (ra : Rk .u8 w A a) (rb : Rk .u8 w B b) (hl : a.length ≤ 1000000000 ∧ b.length ≤ 1000000000) (S : Sat w0 w R) :
    Calls Tryz.prog 18 #[.slice A a.length ca, .slice B b.length cb] w fun e w' => e = .returned (.bool (decide (a = b))) ∧ Sat w0 w' R :=
  (Same.sameBytes A B ca cb a b w hl.1 hl.2 ra.rd rb.rd).mono fun e w' ⟨h1, h2⟩ => ⟨h1, S.new h2⟩
end
section
variable {w w0 : World} {d b : Nat} {D : Dk} {E : DM} {R : List Asn}
def likeOk (D : Dk) (E : DM) : Bool := decide (D.seen.length = E.1.length ∧ D.waits.length = E.2.length ∧ ∀ i, i < D.seen.length → D.seen.getD i [] = seenM E i)
theorem disk_read_no (S : Sat w0 w (diskA d D :: R)) {x : Int} (hx : ¬ (0 ≤ x ∧ x < D.seen.length)) :
    Calls Tryz.prog 16 #[.pointer (some ⟨d, 0, none⟩), .int .i64 x] w fun e w' => e = .returned (.tuple #[.slice none 0 0, .int .i64 1]) ∧ Sat w0 w' (diskA d D :: R) := by
  obtain ⟨F, h⟩ := S.hd
  have hm : mayOk D.seen.length x = 1 := by unfold mayOk; rw [if_neg hx]
  refine (Disk.read h x).mono ?_
  rintro e w' ⟨⟨v, rfl, h1, _⟩, hb⟩
  rw [hm] at h1 ⊢
  rw [h1 rfl]
  exact ⟨rfl, S.new hb⟩
def orcDr : Orc := ⟨[(3, .int .i64), (4, .bool), (5, .int .u8), (25, .int .i64), (45, .slice 5), (145, .struct #[Go.Field.mk "sure" 66 0 false "" "concordat/concordatref04" 0, Go.Field.mk "waits" 143 1 false "" "concordat/concordatref04" 24]), (28, .pointer 145), (142, .struct #[Go.Field.mk "sure" 139 0 false "" "concordat/sectors" 0, Go.Field.mk "seen" 139 1 false "" "concordat/sectors" 24, Go.Field.mk "waits" 140 2 false "" "concordat/sectors" 48]), (24, .pointer 142)],
  [(3, 1), (4, 1), (5, 1), (25, 1), (45, 1), (145, 2), (28, 1), (142, 3), (24, 1)]⟩
theorem orcDr_ok : orcDr.Ok Tryz.prog := ⟨⟨Tryz.underlying3, Tryz.underlying4, Tryz.underlying5, Tryz.underlying25, Tryz.underlying45, Tryz.underlying145, Tryz.underlying28, Tryz.underlying142, Tryz.underlying24, trivial⟩, ⟨by kernel_rfl, by kernel_rfl, by kernel_rfl, by kernel_rfl, by kernel_rfl, by kernel_rfl, by kernel_rfl, by kernel_rfl, by kernel_rfl, trivial⟩⟩
theorem enL1 : Enters Tryz.prog 79 := fun _ _ => by kernel_rfl
theorem enL2 : Enters Tryz.prog 83 := fun _ _ => by kernel_rfl
theorem enL3 : Enters Tryz.prog 23 := fun _ _ => by kernel_rfl
theorem enL4 : Enters Tryz.prog 24 := fun _ _ => by kernel_rfl
theorem enL5 : Enters Tryz.prog 16 := fun _ _ => by kernel_rfl
theorem enL6 : Enters Tryz.prog 17 := fun _ _ => by kernel_rfl
theorem enL7 : Enters Tryz.prog 18 := fun _ _ => by kernel_rfl
set_option maxRecDepth 100000 in
set_option maxHeartbeats 1000000 in
theorem like_call (hok : likeOk D E = true) (hb : E.2.length ≤ 1000000) (S : Sat w0 w (diskA d D :: ddkA b E :: R)) :
    Calls Tryz.prog 22 #[.pointer (some ⟨d, 0, none⟩), .pointer (some ⟨b, 0, none⟩)] w fun e w' => e = .returned (.bool true) ∧ Sat w0 w' (diskA d D :: ddkA b E :: R) := by
  obtain ⟨ho1, ho2, ho3⟩ := of_decide_eq_true hok
  have hmost := (disk_seen S).most
  have hDok := disk_seen S
  refine calls_start (N := 59) [.pointer (some ⟨d, 0, none⟩), .pointer (some ⟨b, 0, none⟩)] Tryz.func22 rfl rfl rfl rfl fun a fr => ?_
  skip; (repeat (with_reducible refine wp_seq ?_)); refine wp_region_lit ?_
  refine wl_run orcDr_ok 1 rfl fr fun a fr => ?_
  refine wpList_nil ?_; (repeat (with_reducible refine then_n ?_))
  skip; (repeat (with_reducible refine wp_seq ?_)); refine wp_region_lit ?_
  refine wl_run orcDr_ok 4 rfl fr fun a fr => ?_
  refine wl_call fr rfl rfl rfl rfl enL1 (disk_size S) ?_
  rintro _ w ⟨rfl, hw⟩
  subst hw
  refine ⟨_, rfl, vok_small hmost, fun a fr => ?_⟩
  refine wl_run orcDr_ok 1 rfl fr fun a fr => ?_
  refine wl_call fr rfl rfl rfl rfl enL2 (dd_size (S.frontAt 1 rfl)) ?_
  rintro _ w ⟨rfl, hv, S⟩
  refine ⟨_, rfl, hv, fun a fr => ?_⟩
  refine wl_run orcDr_ok 1 rfl fr fun a fr => ?_
  have fr := fr.bool (d := 18) rfl (show ((D.seen.length : Int) != (E.1.length : Int)) = false by simp [ho1])
  refine wl_run orcDr_ok 3 rfl fr fun a fr => ?_
  refine wl_call fr rfl rfl rfl rfl enL3 (disk_waits (S.frontAt 1 rfl)) ?_
  rintro _ w ⟨rfl, hv, hw⟩
  subst hw
  refine ⟨_, rfl, hv, fun a fr => ?_⟩
  refine wl_run orcDr_ok 1 rfl fr fun a fr => ?_
  refine wl_call fr rfl rfl rfl rfl enL4 (dd_waits S) ?_
  rintro _ w ⟨rfl, hv, S⟩
  refine ⟨_, rfl, hv, fun a fr => ?_⟩
  refine wl_run orcDr_ok 1 rfl fr fun a fr => ?_
  have fr := fr.bool (d := 25) rfl (show ((D.waits.length : Int) != (E.2.length : Int)) = false by simp [ho2])
  refine wl_run orcDr_ok 1 rfl fr fun a fr => ?_
  refine wpList_nil ?_; (repeat (with_reducible refine then_n ?_))
  skip; (repeat (with_reducible refine wp_seq ?_))
  refine cw_f fr rfl ?_
  refine wp_skip ?_
  (with_reducible refine then_n ?_)
  skip; (repeat (with_reducible refine wp_seq ?_)); refine wp_region_lit ?_
  refine wl_run orcDr_ok 1 rfl fr fun a fr => ?_
  refine wl_call fr rfl rfl rfl rfl enL2 (dd_size S) ?_
  rintro _ w ⟨rfl, hv, S⟩
  refine ⟨_, rfl, hv, fun a fr => ?_⟩
  refine wl_pv orcDr_ok fr rfl rfl rfl (po_quo rfl rfl rfl (by decide)) fun a fr => ?_
  refine wl_run orcDr_ok 2 rfl fr fun a fr => ?_
  refine wpList_nil ?_; (repeat (with_reducible refine then_n ?_))
  obtain ⟨st, hst, h1, h2⟩ : ∃ st : Nat, IntKind.wrap .i64 (1 + IntKind.wrap .i64 (Int.tdiv (E.1.length : Int) 40)) = (st : Int) ∧ 1 ≤ st ∧ st ≤ 1000 := by
    refine ⟨1 + E.1.length / 40, ?_, by omega, by omega⟩
    have e1 : Int.tdiv (E.1.length : Int) 40 = ((E.1.length / 40 : Nat) : Int) := by rw [Int.tdiv_eq_ediv_of_nonneg (by omega)]; omega
    have e2 : ∀ x : Int, 0 ≤ x → x ≤ 100000 → IntKind.wrap .i64 x = x := fun x h h' => IntWalk.i64_in _ ⟨by omega, by omega⟩
    rw [e1, e2 ((E.1.length / 40 : Nat) : Int) (by omega) (by omega), e2 _ (by omega) (by omega)]
    omega
  have fr := fr.spell (d := 5) rfl (congrArg (Value.int .i64) hst)
  skip; (repeat (with_reducible refine wp_seq ?_)); refine wp_region_lit ?_
  refine wl_run orcDr_ok 1 rfl fr fun a fr => ?_
  refine wpList_nil ?_; (repeat (with_reducible refine then_n ?_))
  have S := S.frontAt 1 rfl
  skip; (repeat (with_reducible refine wp_seq ?_))
  refine wp_block ?_
  refine cw_loop (fun q a w1 => ∃ i : Nat, (E.1.length - i) + 1 ≤ q ∧ i ≤ E.1.length + 1000 ∧ Fr 59 a [(0, .pointer (some ⟨d, 0, none⟩)), (1, .pointer (some ⟨b, 0, none⟩)), (5, .int .i64 (st : Int)), (6, .int .i64 (i : Int))] ∧ Sat w0 w1 (diskA d D :: ddkA b E :: R)) (E.1.length + 1)
    ⟨0, by omega, by omega, fr.sub ⟨rfl, rfl, rfl, rfl, trivial⟩, S⟩ ?_ ?_
  · rintro a w1 ⟨i, h, h', -⟩
    omega
  clear fr S
  rintro q a w1 ⟨i, hi, hi', fr, S⟩
  skip; (repeat (with_reducible refine wp_seq ?_)); refine wp_region_lit ?_
  refine wl_run orcDr_ok 2 rfl fr fun a fr => ?_
  refine wl_call fr rfl rfl rfl rfl enL2 (dd_size (S.frontAt 1 rfl)) ?_
  rintro _ w2 ⟨rfl, hv, S⟩
  refine ⟨_, rfl, hv, fun a fr => ?_⟩
  refine wl_run orcDr_ok 1 rfl fr fun a fr => ?_
  refine wpList_nil ?_; (repeat (with_reducible refine then_n ?_))
  by_cases hlt : i < E.1.length
  rotate_left
  · have fr := fr.bool (d := 34) rfl (decide_eq_false (show ¬ (i : Int) < (E.1.length : Int) by omega))
    skip; (repeat (with_reducible refine wp_seq ?_))
    refine cw_f fr rfl ?_
    refine wp_exit ?_
    skip; (repeat (first | (with_reducible refine then_e ?_) | (with_reducible refine ng_e ?_) | (with_reducible refine blk_e (by decide) ?_))); (with_reducible refine blk_y ?_); (repeat (with_reducible refine then_n ?_))
    skip; (repeat (with_reducible refine wp_seq ?_)); refine wp_region_lit ?_
    refine wl_run orcDr_ok 1 rfl fr fun a fr => ?_
    refine wpList_nil ?_; (repeat (with_reducible refine then_n ?_))
    refine wp_ret ?_
    skip; (repeat (first | (with_reducible refine then_r ?_) | (with_reducible refine blk_r ?_) | (with_reducible refine ng_r ?_)))
    refine ret1 fr rfl rfl ?_
    exact ⟨rfl, S.frontAt 1 rfl⟩
  have fr := fr.bool (d := 34) rfl (decide_eq_true (show (i : Int) < (E.1.length : Int) by omega))
  have eqi : D.seen.getD i [] = seenM E i := ho3 i (by omega)
  have hp64 : (seenM E i).length = 64 := by rw [← eqi]; exact (seen_pc hDok (by omega)).1
  skip; (repeat (with_reducible refine wp_seq ?_))
  refine cw_t fr rfl ?_
  refine wp_skip ?_
  (with_reducible refine then_n ?_)
  skip; (repeat (with_reducible refine wp_seq ?_))
  refine wp_block ?_
  skip; (repeat (with_reducible refine wp_seq ?_)); refine wp_region_lit ?_
  refine wl_run orcDr_ok 2 rfl fr fun a fr => ?_
  have H := disk_read (x := (i : Int)) (S.frontAt 1 rfl) ⟨by omega, by omega⟩
  rw [Int.toNat_natCast, eqi] at H
  refine wl_call fr rfl rfl rfl rfl enL5 H ?_
  clear H
  rintro _ w3 ⟨A1, c1, rfl, hv, S⟩
  refine ⟨_, rfl, hv, fun a fr => ?_⟩
  refine wl_run orcDr_ok 5 rfl fr fun a fr => ?_
  refine wpList_nil ?_; (repeat (with_reducible refine then_n ?_))
  skip; (repeat (with_reducible refine wp_seq ?_)); refine wp_region_lit ?_
  refine wl_run orcDr_ok 2 rfl fr fun a fr => ?_
  have H := dd_read (x := (i : Int)) ⟨by omega, by omega⟩ ⟨hb, by omega, by rw [Int.toNat_natCast, hp64]; decide⟩ (S.frontAt 2 rfl)
  rw [Int.toNat_natCast] at H
  refine wl_call fr rfl rfl rfl rfl enL6 H ?_
  clear H
  rintro _ w4 ⟨A2, c2, rfl, hv, S⟩
  refine ⟨_, rfl, hv, fun a fr => ?_⟩
  refine wl_run orcDr_ok 5 rfl fr fun a fr => ?_
  refine wpList_nil ?_; (repeat (with_reducible refine then_n ?_))
  skip; (repeat (with_reducible refine wp_seq ?_)); refine wp_region_lit ?_
  refine wl_run orcDr_ok 4 rfl fr fun a fr => ?_
  have fr := fr.bool (d := 53) rfl (show ((0 : Int) != 0) = false by decide)
  refine wl_run orcDr_ok 2 rfl fr fun a fr => ?_
  refine wl_call fr rfl rfl rfl rfl enL7 (sameD_call (Sat.ownAt S 2 rfl) (Sat.ownAt S 0 rfl) ⟨by omega, by omega⟩ S) ?_
  rintro _ w5 ⟨rfl, S⟩
  refine ⟨_, rfl, rfl, fun a fr => ?_⟩
  have fr := fr.bool (d := 56) rfl (show decide (seenM E i = seenM E i) = true by simp)
  refine wl_run orcDr_ok 2 rfl fr fun a fr => ?_
  refine wpList_nil ?_; (repeat (with_reducible refine then_n ?_))
  skip; (repeat (with_reducible refine wp_seq ?_))
  refine cw_f fr rfl ?_
  refine wp_skip ?_
  (repeat (first | (with_reducible refine then_n ?_) | (with_reducible refine blk_n ?_) | (with_reducible refine ng_n ?_)))
  skip; (repeat (with_reducible refine wp_seq ?_)); refine wp_region_lit ?_
  refine wl_run orcDr_ok 4 rfl fr fun a fr => ?_
  refine wpList_nil ?_; (repeat (with_reducible refine then_n ?_))
  have e2 : IntKind.wrap .i64 ((i : Int) + (st : Int)) = ((i + st : Nat) : Int) := by rw [show IntKind.wrap .i64 ((i : Int) + (st : Int)) = (i : Int) + (st : Int) from IntWalk.i64_in _ ⟨by omega, by omega⟩]; omega
  have fr := fr.spell (d := 6) rfl (congrArg (Value.int .i64) e2)
  have S := (S.tl.frontAt 1 rfl).tl
  exact ⟨i + st, by omega, by omega, fr.sub ⟨rfl, rfl, rfl, rfl, trivial⟩, S.frontAt 1 rfl⟩
end
end Go.Proofs.YticnjkdaccacaaaGreatDoor.Sx
end
section
namespace Go.Proofs.YticnjkdaccacaaaGreatDoor.Sx
open Go Go.RowKit Base _root_.Go.Proofs.YticnjkdaccacaaaGreatDoor.Own OwnV Disk Bytes
theorem set_len {W : List (Int × List Int)} : ∀ {S : List (List Int)}, (W.foldl (fun s p => s.set p.1.toNat p.2) S).length = S.length := by
  induction W with
  | nil => intro S; rfl
  | cons p W ih => intro S; rw [List.foldl_cons, ih, List.length_set]
theorem seen_snoc (S : List (List Int)) (W : List (Int × List Int)) (p : Int × List Int) (i : Nat) : seenM (S, W ++ [p]) i = if p.1 = (i : Int) then p.2 else seenM (S, W) i := by
  unfold seenM
  simp only [List.reverse_append, List.reverse_cons, List.reverse_nil, List.nil_append, List.singleton_append, List.find?_cons]
  by_cases h : p.1 = (i : Int)
  · simp [h]
  · have : (p.1 == (i : Int)) = false := by simp [h]
    rw [this, if_neg h]
theorem rev_ind {α : Type} {P : List α → Prop} (h0 : P []) (h1 : ∀ l x, P l → P (l ++ [x])) (l : List α) : P l := by
  have key : ∀ r : List α, P r.reverse := fun r => by
    induction r with
    | nil => exact h0
    | cons x r ih => rw [List.reverse_cons]; exact h1 _ _ ih
  have := key l.reverse
  rwa [List.reverse_reverse] at this
theorem seen_all (S : List (List Int)) (W : List (Int × List Int)) (hw : ∀ p ∈ W, 0 ≤ p.1 ∧ p.1 < (S.length : Int)) (i : Nat) (hi : i < S.length) : (W.foldl (fun s p => s.set p.1.toNat p.2) S).getD i [] = seenM (S, W) i := by
  induction W using rev_ind with
  | h0 => rfl
  | h1 W p ih =>
    have ih := ih fun q hq => hw q (List.mem_append_left _ hq)
    have hp := hw p (List.mem_append_right _ (List.mem_singleton.2 rfl))
    rw [seen_snoc, List.foldl_append, ← ih]
    simp only [List.foldl_cons, List.foldl_nil]
    have hl : (W.foldl (fun s p => s.set p.1.toNat p.2) S).length = S.length := set_len
    rw [List.getD_eq_getElem?_getD, List.getElem?_set, List.getD_eq_getElem?_getD]
    by_cases h : p.1 = (i : Int)
    · rw [if_pos (by omega), if_pos (by omega), if_pos h]; rfl
    · rw [if_neg (by omega), if_neg h]
section
theorem code_is (x : Int) (b : List Int) (n : Nat) : writeCode n x b = wrE n x b := by
  unfold writeCode wrE mayOk
  by_cases h : x < 0 ∨ x ≥ (n : Int) ∨ 64 < b.length
  · rw [if_pos h]
    by_cases h2 : 0 ≤ x ∧ x < (n : Int)
    · rw [if_pos h2, if_pos (.inr (by omega))]
    · rw [if_neg h2, if_pos (.inl rfl)]
  · have h2 : 0 ≤ x ∧ x < (n : Int) := by omega
    rw [if_neg h, if_pos h2, if_neg (by omega)]
end
theorem kept_no {keep : Int} (h : 0 ≤ keep ∧ keep ≤ 18446744073709551615) {i : Nat} (hi : 64 ≤ i) : kept keep i = false := by
  unfold kept
  rw [Nat.min_eq_right hi]
  have : keep / (2 : Int) ^ 64 = 0 := Int.ediv_eq_zero_of_lt h.1 (by have : (2 : Int) ^ 64 = 18446744073709551616 := by decide
                                                                     omega)
  rw [this]
  decide
theorem failK_stop {keep torn : Int} (h : 0 ≤ keep ∧ keep ≤ 18446744073709551615) (s : List (List Int)) (W : List (Int × List Int)) {i : Nat} (hi : 64 ≤ i) : ∀ d, failK keep torn s W (i + d) = failK keep torn s W i := by
  intro d
  induction d with
  | zero => rfl
  | succ d ih =>
    show failK keep torn s W ((i + d) + 1) = _
    conv => lhs; unfold failK
    cases W[i + d]? with
    | none => exact ih
    | some x =>
      show Disk.step keep torn (failK keep torn s W (i + d)) (i + d) x = _
      unfold Disk.step
      rw [kept_no h (by omega)]
      exact ih
theorem div_two {keep : Int} (h : 0 ≤ keep ∧ keep ≤ 18446744073709551615) (i : Nat) : IntKind.wrap .u64 (Int.tdiv (keep / (2 : Int) ^ i) 2) = keep / (2 : Int) ^ (i + 1) := by
  have hpos : (0 : Int) < 2 ^ i := Int.pow_pos (by decide)
  have h0 : 0 ≤ keep / (2 : Int) ^ i := Int.ediv_nonneg h.1 (by omega)
  have h1 : keep / (2 : Int) ^ i ≤ keep := Int.ediv_le_self _ h.1
  rw [Int.tdiv_eq_ediv_of_nonneg h0, Int.pow_succ, ← Int.ediv_ediv_of_nonneg (by omega)]
  rw [IntKind.wrap_u64]
  omega
theorem fail_is {keep torn : Int} (h : 0 ≤ keep ∧ keep ≤ 18446744073709551615) (s : List (List Int)) (W : List (Int × List Int)) : ∀ (d i : Nat), i + d = W.length → failQ torn i (keep / (2 : Int) ^ i) (failK keep torn s W i) (W.drop i) = failK keep torn s W W.length := by
  intro d
  induction d with
  | zero =>
    intro i hi
    have : i = W.length := by omega
    subst this
    rw [List.drop_of_length_le (Nat.le_refl _)]
    rfl
  | succ d ih =>
    intro i hi
    by_cases h64 : i < 64
    · have hlt : i < W.length := by omega
      rw [List.drop_eq_getElem_cons hlt]
      unfold failQ
      rw [if_pos h64, div_two h]
      have e : stepQ (keep / (2 : Int) ^ i) torn (failK keep torn s W i) i W[i] = failK keep torn s W (i + 1) := by
        conv => rhs; unfold failK
        rw [List.getElem?_eq_getElem hlt]
        show _ = Disk.step keep torn (failK keep torn s W i) i W[i]
        unfold stepQ Disk.step kept
        have hpos : (0 : Int) < 2 ^ i := Int.pow_pos (by decide)
        have h0 : 0 ≤ keep / (2 : Int) ^ i := Int.ediv_nonneg h.1 (by omega)
        rw [Int.tmod_eq_emod_of_nonneg h0, Nat.min_eq_left (by omega)]
        by_cases hk : keep / (2 : Int) ^ i % 2 = 1
        · rw [if_pos hk, if_pos (decide_eq_true hk)]; rfl
        · rw [if_neg hk, if_neg (by simpa using hk)]
      rw [e]
      exact ih (i + 1) (by omega)
    · rw [failQ_end _ _ _ _ (.inr h64)]
      have := failK_stop (torn := torn) h s W (i := i) (by omega) (W.length - i)
      rw [show i + (W.length - i) = W.length by omega] at this
      exact this.symm
structure Good (D : Dk) : Prop where
  ok : D.ok
  ap : D.seen = D.waits.foldl (fun s p => s.set p.1.toNat p.2) D.sure
def dm (D : Dk) : DM := (D.sure, D.waits)
def ddsA (b : Nat) (D : Dk) : Asn := exA fun _ : { _u : Unit // Good D } => ddkA b (dm D)
section
variable {w w0 : World} {R : List Asn} {b : Nat} {D : Dk}
theorem Good.seen (G : Good D) {i : Nat} (hi : i < D.seen.length) : seenM (dm D) i = D.seen.getD i [] := by
  unfold dm
  rw [← seen_all D.sure D.waits (fun p hp => by have := G.ok.waits p hp; rw [G.ok.same]; exact this.2) i (by rw [G.ok.same]; exact hi), ← G.ap]
theorem Good.write (G : Good D) (x : Int) {l : List Int} (hb : Bts l) : Good (D.writeR x l) ∧ wrM (dm D) x l = dm (D.writeR x l) := by
  unfold Dk.writeR wrM
  rw [code_is]
  unfold wrE
  have hn : (dm D).1.length = D.seen.length := G.ok.same
  rw [hn]
  by_cases h : x < 0 ∨ x ≥ (D.seen.length : Int) ∨ 64 < l.length
  · rw [if_pos h, if_pos h, if_neg (by decide)]
    exact ⟨G, rfl⟩
  · rw [if_neg h, if_neg h, if_pos rfl]
    refine ⟨⟨G.ok.write ⟨by omega, by omega⟩ (pad_pc (by omega) hb), ?_⟩, rfl⟩
    show D.seen.set x.toNat (pad l) = (D.waits ++ [(x, pad l)]).foldl _ D.sure
    rw [List.foldl_append, ← G.ap]
    rfl
theorem Good.sync (G : Good D) : Good D.sync ∧ syncM (dm D) = dm D.sync := by
  refine ⟨⟨G.ok.sync, rfl⟩, ?_⟩
  show (D.waits.foldl (fun s p => s.set p.1.toNat p.2) D.sure, []) = (D.seen, [])
  rw [← G.ap]
theorem Good.fail (G : Good D) {keep torn : Int} (h : 0 ≤ keep ∧ keep ≤ 18446744073709551615) : Good (D.fail keep torn) ∧ ((failQ torn 0 keep (dm D).1 (dm D).2, []) : DM) = dm (D.fail keep torn) := by
  refine ⟨⟨G.ok.fail keep torn, rfl⟩, ?_⟩
  have := fail_is (torn := torn) h D.sure D.waits D.waits.length 0 (by omega)
  rw [List.drop_zero] at this
  show (failQ torn 0 keep D.sure D.waits, []) = (failK keep torn D.sure D.waits D.waits.length, [])
  rw [← this]
  simp [failK]
theorem Good.blank {n : Nat} (h : 1 ≤ n ∧ n ≤ 4096) : Good (Disk.blank n) := ⟨blank_ok _ h.1 h.2, rfl⟩
theorem Sat.ofDs (S : Sat w0 w (ddsA b D :: R)) : Good D ∧ Sat w0 w (ddkA b (dm D) :: R) := by
  obtain ⟨⟨_, hg⟩, S⟩ := Sat.ofEx S
  exact ⟨hg, S⟩
theorem Sat.toDs (G : Good D) (S : Sat w0 w (ddkA b (dm D) :: R)) : Sat w0 w (ddsA b D :: R) := Sat.toEx (f := fun _ : { _u : Unit // Good D } => ddkA b (dm D)) ⟨(), G⟩ S
theorem ds_new {x : Int} (hx : (Lit.int .i64 x).wf = true) (h : 1 ≤ x ∧ x ≤ 4096) (S : Sat w0 w R) : Calls Tryz.prog 10 #[.int .i64 x] w fun e w' => ∃ b, e = .returned (.tuple #[.pointer (some ⟨b, 0, none⟩), .int .i64 0]) ∧ Sat w0 w' (ddsA b (Disk.blank x.toNat) :: R) :=
  (dd_new hx h S).mono fun e w' ⟨b, h1, h2⟩ => ⟨b, h1, Sat.toDs (Good.blank ⟨by omega, by omega⟩) h2⟩
theorem ds_size (S : Sat w0 w (ddsA b D :: R)) : Calls Tryz.prog 83 #[.pointer (some ⟨b, 0, none⟩)] w fun e w' => e = .returned (.int .i64 (D.seen.length : Int)) ∧ vok (.int .i64 (D.seen.length : Int)) = true ∧ Sat w0 w' (ddsA b D :: R) := by
  obtain ⟨G, S⟩ := S.ofDs
  have hn : (dm D).1.length = D.seen.length := G.ok.same
  refine (dd_size S).mono fun e w' h => ?_
  rw [hn] at h
  exact ⟨h.1, h.2.1, h.2.2.toDs G⟩
theorem ds_waits (S : Sat w0 w (ddsA b D :: R)) : Calls Tryz.prog 24 #[.pointer (some ⟨b, 0, none⟩)] w fun e w' => e = .returned (.int .i64 (D.waits.length : Int)) ∧ vok (.int .i64 (D.waits.length : Int)) = true ∧ Sat w0 w' (ddsA b D :: R) := by
  obtain ⟨G, S⟩ := S.ofDs
  exact (dd_waits S).mono fun e w' h => ⟨h.1, h.2.1, h.2.2.toDs G⟩
theorem ds_write {x : Int} {A : Option Addr} {c : Nat} {l : List Int} (hx : (Lit.int .i64 x).wf = true) (hl : l.length ≤ c ∧ c ≤ maxLen) (hr : ∀ w', Sat w0 w' R → Rk .u8 w' A l) (hb : D.waits.length ≤ 1000000) (S : Sat w0 w (ddsA b D :: R)) :
    Calls Tryz.prog 13 #[.pointer (some ⟨b, 0, none⟩), .int .i64 x, .slice A l.length c] w fun e w' => e = .returned (.int .i64 (writeCode D.seen.length x l)) ∧ vok (.int .i64 (writeCode D.seen.length x l)) = true ∧ Sat w0 w' (ddsA b (D.writeR x l) :: R) := by
  have hbt : Bts l := (hr w S.tl).bytes
  obtain ⟨G, S⟩ := S.ofDs
  have hn : (dm D).1.length = D.seen.length := G.ok.same
  obtain ⟨G2, e2⟩ := G.write x hbt
  refine (dd_write hx hl hr hb S).mono fun e w' h => ?_
  rw [hn, ← code_is, e2] at h
  exact ⟨h.1, h.2.1, h.2.2.toDs G2⟩
theorem ds_read {x : Int} (hx : 0 ≤ x ∧ x < (D.seen.length : Int)) (hb : D.waits.length ≤ 1000000) (S : Sat w0 w (ddsA b D :: R)) :
    Calls Tryz.prog 17 #[.pointer (some ⟨b, 0, none⟩), .int .i64 x] w fun e w' => ∃ A c, e = .returned (.tuple #[.slice A (D.seen.getD x.toNat []).length c, .int .i64 0]) ∧ vok (.tuple #[.slice A (D.seen.getD x.toNat []).length c, .int .i64 0]) = true ∧ Sat w0 w' (ownA .u8 5 A c (D.seen.getD x.toNat []) :: ddsA b D :: R) := by
  obtain ⟨G, S⟩ := S.ofDs
  have hn : (dm D).1.length = D.seen.length := G.ok.same
  have hs := G.seen (i := x.toNat) (by omega)
  have h64 : (D.seen.getD x.toNat []).length = 64 := (seen_pc G.ok (by omega)).1
  have hmost := G.ok.most
  have H := dd_read (x := x) ⟨hx.1, by omega⟩ ⟨hb, by omega, by rw [hs, h64]; decide⟩ S
  rw [hs] at H
  refine H.mono ?_
  rintro e w' ⟨A, c, h1, h2, h3⟩
  exact ⟨A, c, h1, h2, (Sat.toDs G (h3.frontAt 1 rfl)).frontAt 1 rfl⟩
theorem ds_sync (hb : D.waits.length ≤ 1000000) (S : Sat w0 w (ddsA b D :: R)) : Calls Tryz.prog 14 #[.pointer (some ⟨b, 0, none⟩)] w fun e w' => e = .returned (.int .i64 0) ∧ Sat w0 w' (ddsA b D.sync :: R) := by
  obtain ⟨G, S⟩ := S.ofDs
  have hn : (dm D).1.length = D.seen.length := G.ok.same
  have hmost := G.ok.most
  obtain ⟨G2, e2⟩ := G.sync
  refine (dd_sync (fun p hp => by rw [hn]; exact (G.ok.waits p hp).2) ⟨hb, by omega⟩ S).mono fun e w' h => ?_
  rw [e2] at h
  exact ⟨h.1, h.2.toDs G2⟩
theorem ds_fail {keep torn : Int} (hk : (Lit.int .u64 keep).wf = true) (ht : (Lit.int .i64 torn).wf = true) (h : -1 ≤ torn) (hb : D.waits.length ≤ 1000000) (S : Sat w0 w (ddsA b D :: R)) :
    Calls Tryz.prog 21 #[.pointer (some ⟨b, 0, none⟩), .int .u64 keep, .int .i64 torn] w fun e w' => ∃ b', e = .returned (.tuple #[.pointer (some ⟨b', 0, none⟩), .int .i64 0]) ∧ Sat w0 w' (ddsA b' (D.fail keep torn) :: ddsA b D :: R) := by
  obtain ⟨G, S⟩ := S.ofDs
  have hn : (dm D).1.length = D.seen.length := G.ok.same
  have hmost := G.ok.most
  have hkr : 0 ≤ keep ∧ keep ≤ 18446744073709551615 := by
    rw [wf_int] at hk
    have h1 : IntKind.u64.min = 0 := by decide
    have h2 : IntKind.u64.max = 18446744073709551615 := by decide
    omega
  obtain ⟨G2, e2⟩ := G.fail (torn := torn) hkr
  refine (dd_fail hk ht h (fun p hp => ⟨by rw [hn]; exact (G.ok.waits p hp).2, (G.ok.waits p hp).1.1⟩) (fun p hp => (G.ok.sure p hp).1) ⟨hb, by omega⟩ S).mono ?_
  rintro e w' ⟨b', h1, S⟩
  rw [e2] at S
  exact ⟨b', h1, Sat.toDs G2 ((Sat.toDs G (S.frontAt 1 rfl)).frontAt 1 rfl)⟩
end
end Go.Proofs.YticnjkdaccacaaaGreatDoor.Sx
end
section
namespace Go.Proofs.YticnjkdaccacaaaGreatDoor.Sx
open Go Go.RowKit Base _root_.Go.Proofs.YticnjkdaccacaaaGreatDoor.Own Disk
def orcL : Orc := ⟨[(3, .int .i64), (5, .int .u8), (4, .bool), (45, .slice 5), (24, .pointer 142), (65, .pointer 158), (309, .pointer 156), (25, .int .i64), (66, .slice 45), (156, .struct #[Go.Field.mk "disk" 24 0 false "" "concordat/walls" 0, Go.Field.mk "at" 3 1 false "" "concordat/walls" 8]), (158, .struct #[Go.Field.mk "place" 156 0 true "" "concordat/walls" 0])],
  [(3, 1), (5, 1), (45, 1), (24, 1), (65, 1), (66, 1), (156, 2)]⟩
theorem orcL_ok : orcL.Ok Tryz.prog := ⟨⟨Tryz.underlying3, Tryz.underlying5, Tryz.underlying4, Tryz.underlying45, Tryz.underlying24, Tryz.underlying65, Tryz.underlying309, Tryz.underlying25, Tryz.underlying66, Tryz.underlying156, Tryz.underlying158, trivial⟩, ⟨by kernel_rfl, by kernel_rfl, by kernel_rfl, by kernel_rfl, by kernel_rfl, by kernel_rfl, by kernel_rfl, trivial⟩⟩
theorem enThere : Enters Tryz.prog 123 := fun _ _ => by kernel_rfl
theorem enLeft : Enters Tryz.prog 125 := fun _ _ => by kernel_rfl
theorem enPut : Enters Tryz.prog 124 := fun _ _ => by kernel_rfl
theorem enGet : Enters Tryz.prog 210 := fun _ _ => by kernel_rfl
theorem enSize : Enters Tryz.prog 79 := fun _ _ => by kernel_rfl
theorem enRead : Enters Tryz.prog 16 := fun _ _ => by kernel_rfl
theorem enWrite : Enters Tryz.prog 12 := fun _ _ => by kernel_rfl
theorem enSync : Enters Tryz.prog 15 := fun _ _ => by kernel_rfl
theorem enEqual : Enters Tryz.prog 121 := fun _ _ => by kernel_rfl
theorem enFound : Enters Tryz.prog 120 := fun _ _ => by kernel_rfl
theorem enFound1 : Enters Tryz.prog 209 := fun _ _ => by kernel_rfl
theorem litB : RowTy Tryz.prog 45 5 .u8 := ⟨Tryz.underlying45, 1, by decide, by kernel_rfl⟩
theorem infoB : (Tryz.prog.info? 5).map (·.size) = some 1 := by kernel_rfl
def logA (g d : Nat) (x : Int) : Asn := stA 158 g [.pointer (some ⟨d, 0, none⟩), .int .i64 x]
section
variable {w w0 : World} {g d : Nat} {x : Int} {D : Dk} {R : List Asn}
theorem there_call (S : Sat w0 w (logA g d x :: R)) : Calls Tryz.prog 123 #[.pointer (some ⟨g, 0, none⟩)] w fun e w' => e = .returned (.bool true) ∧ w' = w := by
  refine calls_start (N := 13) [.pointer (some ⟨g, 0, none⟩)] Tryz.func123 rfl rfl rfl (vok_c rfl rfl) fun a fr => ?_
  skip; (repeat (with_reducible refine wp_seq ?_)); refine wp_region_lit ?_
  refine wl_run orcL_ok 1 rfl fr fun a fr => ?_
  refine wpList_nil ?_; (repeat (with_reducible refine then_n ?_))
  skip; (repeat (with_reducible refine wp_seq ?_)); refine wp_region_lit ?_
  refine wl_run orcL_ok 7 rfl fr fun a fr => ?_
  refine wl_ldf orcL_ok (Sat.stAt S 0 rfl (j := 0) rfl) fr rfl rfl rfl rfl rfl rfl rfl fun a fr => ?_
  refine wl_run orcL_ok 3 rfl fr fun a fr => ?_
  refine wpList_nil ?_; (repeat (with_reducible refine then_n ?_))
  refine wp_ret ?_
  refine ret1 fr rfl rfl ?_
  exact ⟨rfl, rfl⟩
theorem left_call (S : Sat w0 w (logA g d x :: diskA d D :: R)) (hx : 0 ≤ x ∧ x ≤ 1000000) : Calls Tryz.prog 125 #[.pointer (some ⟨g, 0, none⟩)] w fun e w' => e = .returned (.int .i64 ((D.seen.length : Int) - x)) ∧ Sat w0 w' (logA g d x :: diskA d D :: R) := by
  have hm := (disk_seen (S.frontAt 1 rfl)).most
  refine calls_start (N := 13) [.pointer (some ⟨g, 0, none⟩)] Tryz.func125 rfl rfl rfl (vok_c rfl rfl) fun a fr => ?_
  skip; (repeat (with_reducible refine wp_seq ?_)); refine wp_region_lit ?_
  refine wl_run orcL_ok 1 rfl fr fun a fr => ?_
  refine wpList_nil ?_; (repeat (with_reducible refine then_n ?_))
  skip; (repeat (with_reducible refine wp_seq ?_))
  refine wp_region_sl [.one (0, true, some 3), .one (1, true, some 4), .one (2, true, some 5), .one (3, true, some 6), .one (5, true, some 8), .one (6, true, some 9), .one (7, true, some 10), .one (8, true, some 11), .one (4, false, some 7), .one (9, true, some 12), .one (10, true, some 2)]
                [.one ⟨true, some 3, (Go.Op.move (Go.Operand.tmp 0)), 309, none⟩,
                .one ⟨true, some 4, (Go.Op.nilCheck (Go.Operand.tmp 3)), 0, none⟩,
                .one ⟨true, some 5, (Go.Op.fieldAddr 156 (Go.Operand.tmp 4) 0), 0, none⟩,
                .one ⟨true, some 6, (Go.Op.load 24 (Go.Operand.tmp 5)), 24, none⟩,
                .one ⟨true, some 8, (Go.Op.move (Go.Operand.tmp 0)), 309, none⟩,
                .one ⟨true, some 9, (Go.Op.nilCheck (Go.Operand.tmp 8)), 0, none⟩,
                .one ⟨true, some 10, (Go.Op.fieldAddr 156 (Go.Operand.tmp 9) 1), 0, none⟩,
                .one ⟨true, some 11, (Go.Op.load 3 (Go.Operand.tmp 10)), 3, none⟩,
                .one ⟨false, some 7, (Go.Op.call { callee := (Go.Callee.value (Go.Operand.func 79)), args := #[(Go.Operand.tmp 6)], argTypes := #[24] }), 3, none⟩,
                .one ⟨true, some 12, (Go.Op.binOp Go.BinOp.sub 3 (Go.Operand.tmp 7) (Go.Operand.tmp 11) 3), 3, none⟩,
                .one ⟨true, some 2, (Go.Op.assign (Go.Operand.tmp 12)), 3, none⟩]
                (fun w' => Sat w0 w' (logA g d x :: diskA d D :: R)) rfl (by kernel_rfl) (by kernel_rfl) ?_ ?_
  · exact S.drew
  have S := S.drew
  refine sl_run orcL_ok 3 rfl fr fun a fr => ?_
  refine sl_ldf orcL_ok (fun w' S => Sat.stAt S 0 rfl (j := 0) rfl) fr rfl rfl rfl rfl rfl rfl rfl rfl S fun a fr => ?_
  refine sl_run orcL_ok 3 rfl fr fun a fr => ?_
  refine sl_ldf orcL_ok (fun w' S => Sat.stAt S 0 rfl (j := 1) rfl) fr rfl rfl rfl rfl rfl rfl rfl rfl S fun a fr => ?_
  refine sl_call fr rfl rfl rfl rfl rfl enSize (disk_size (S.frontAt 1 rfl)) ?_
  rintro _ w ⟨rfl, hw⟩
  subst hw
  refine ⟨_, rfl, vok_small hm, S, fun a fr => ?_⟩
  refine sl_run orcL_ok 2 rfl fr fun a fr => ?_
  refine sl_end ?_
  have fr := fr.spell (d := 2) rfl (congrArg (Value.int .i64) (show IntKind.wrap .i64 ((D.seen.length : Int) - x) = (D.seen.length : Int) - x from IntWalk.i64_in _ ⟨by omega, by omega⟩))
  refine wp_ret ?_
  refine ret1 fr rfl rfl ?_
  exact ⟨rfl, S⟩
theorem force_call (S : Sat w0 w (logA g d x :: diskA d D :: R)) : Calls Tryz.prog 32 #[.pointer (some ⟨g, 0, none⟩)] w fun e w' => e = .returned (.int .i64 0) ∧ Sat w0 w' (logA g d x :: diskA d D.sync :: R) := by
  refine calls_start (N := 12) [.pointer (some ⟨g, 0, none⟩)] Tryz.func32 rfl rfl rfl (vok_c rfl rfl) fun a fr => ?_
  skip; (repeat (with_reducible refine wp_seq ?_)); refine wp_region_lit ?_
  refine wl_run orcL_ok 1 rfl fr fun a fr => ?_
  refine wpList_nil ?_; (repeat (with_reducible refine then_n ?_))
  skip; (repeat (with_reducible refine wp_seq ?_)); refine wp_region_lit ?_
  refine wl_run orcL_ok 1 rfl fr fun a fr => ?_
  refine wl_call fr rfl rfl rfl rfl enThere (there_call S) ?_
  rintro _ w ⟨rfl, hw⟩
  subst hw
  refine ⟨_, rfl, rfl, fun a fr => ?_⟩
  refine wl_run orcL_ok 1 rfl fr fun a fr => ?_
  refine wpList_nil ?_; (repeat (with_reducible refine then_n ?_))
  skip; (repeat (with_reducible refine wp_seq ?_))
  refine cw_f fr rfl ?_
  refine wp_skip ?_
  (with_reducible refine then_n ?_)
  skip; (repeat (with_reducible refine wp_seq ?_)); refine wp_region_lit ?_
  refine wl_run orcL_ok 4 rfl fr fun a fr => ?_
  refine wl_ldf orcL_ok (Sat.stAt S 0 rfl (j := 0) rfl) fr rfl rfl rfl rfl rfl rfl rfl fun a fr => ?_
  refine wl_call fr rfl rfl rfl rfl enSync (disk_sync (S.frontAt 1 rfl)) ?_
  rintro _ w ⟨rfl, S⟩
  refine ⟨_, rfl, rfl, fun a fr => ?_⟩
  refine wl_run orcL_ok 1 rfl fr fun a fr => ?_
  refine wpList_nil ?_; (repeat (with_reducible refine then_n ?_))
  refine wp_ret ?_
  refine ret1 fr rfl rfl ?_
  exact ⟨rfl, S.frontAt 1 rfl⟩
theorem bts_rk {w : World} {A : Option Addr} {l : List Int} (h : Rk .u8 w A l) : Sums.Bts l := h.bytes
theorem put_call {A : Option Addr} {c : Nat} {l : List Int} (rk : Rk .u8 w A l) (hl : l.length ≤ 16384) (S : Sat w0 w R) :
    Calls Tryz.prog 124 #[.slice A l.length c] w fun e w' => ∃ A' c', e = .returned (.tuple #[.slice A' (Frames.put l).length c', .int .i64 0]) ∧ vok (.tuple #[.slice A' (Frames.put l).length c', .int .i64 0]) = true ∧ Sat w0 w' (ownA .u8 5 A' c' (Frames.put l) :: R) := by
  refine (Frames.put_any A c l w hl (bts_rk rk) rk.rd).mono ?_
  rintro e w' ⟨v, rfl, h1, h2⟩
  obtain ⟨A', c', rfl, h3, h4⟩ := S.row h2 h1 (bts_wf (Frames.put_bts (bts_rk rk)))
  exact ⟨A', c', rfl, by
    have h5 : vokC (.slice A' (Frames.put l).length c') = true := h3
    show [_, _].all vokC = true
    rw [List.all_cons, h5]; rfl, h4⟩
theorem put_no {A : Option Addr} {c n : Nat} (hl : 16384 < n) (h2 : n ≤ 1000000000) (S : Sat w0 w R) :
    Calls Tryz.prog 124 #[.slice A n c] w fun e w' => e = .returned (.tuple #[.slice none 0 0, .int .i64 3]) ∧ Sat w0 w' R :=
  (Frames.put_big A n c w hl h2).mono fun e w' ⟨h1, h2⟩ => ⟨h1, S.new h2⟩
def roomF (D : Dk) (x n : Int) : Bool := decide (0 ≤ n ∧ n ≤ 16384 ∧ (Frames.nsec n.toNat : Int) ≤ (D.seen.length : Int) - x)
set_option maxRecDepth 100000 in
theorem room_call (S : Sat w0 w (logA g d x :: diskA d D :: R)) (hx : 0 ≤ x ∧ x ≤ 1000000) {n : Int} (hn : (Lit.int .i64 n).wf = true) : Calls Tryz.prog 36 #[.pointer (some ⟨g, 0, none⟩), .int .i64 n] w fun e w' => e = .returned (.bool (roomF D x n)) ∧ Sat w0 w' (logA g d x :: diskA d D :: R) := by
  have hm := (disk_seen (S.frontAt 1 rfl)).most
  refine calls_start (N := 36) [.pointer (some ⟨g, 0, none⟩), .int .i64 n] Tryz.func36 rfl rfl rfl (vok_c rfl (vok_c hn rfl)) fun a fr => ?_
  skip; (repeat (with_reducible refine wp_seq ?_)); refine wp_region_lit ?_
  refine wl_run orcL_ok 1 rfl fr fun a fr => ?_
  refine wpList_nil ?_; (repeat (with_reducible refine then_n ?_))
  skip; (repeat (with_reducible refine wp_seq ?_)); refine wp_region_lit ?_
  refine wl_run orcL_ok 1 rfl fr fun a fr => ?_
  refine wl_call fr rfl rfl rfl rfl enThere (there_call S) ?_
  rintro _ w ⟨rfl, hw⟩
  subst hw
  refine ⟨_, rfl, rfl, fun a fr => ?_⟩
  refine wl_run orcL_ok 6 rfl fr fun a fr => ?_
  by_cases h0 : n < 0
  · have fr := fr.bool (d := 14) rfl (decide_eq_true h0)
    refine wl_run orcL_ok 3 rfl fr fun a fr => ?_
    refine wpList_nil ?_; (repeat (with_reducible refine then_n ?_))
    skip; (repeat (with_reducible refine wp_seq ?_))
    refine cw_t fr rfl ?_
    skip; (repeat (with_reducible refine wp_seq ?_)); refine wp_region_lit ?_
    refine wl_run orcL_ok 1 rfl fr fun a fr => ?_
    refine wpList_nil ?_; (repeat (with_reducible refine then_n ?_))
    refine wp_ret ?_
    skip; (repeat (first | (with_reducible refine then_r ?_) | (with_reducible refine blk_r ?_) | (with_reducible refine ng_r ?_)))
    refine ret1 fr rfl rfl ?_
    exact ⟨by unfold roomF; rw [decide_eq_false (by omega)], S⟩
  have fr := fr.bool (d := 14) rfl (decide_eq_false h0)
  refine wl_run orcL_ok 3 rfl fr fun a fr => ?_
  refine wpList_nil ?_; (repeat (with_reducible refine then_n ?_))
  by_cases h1 : n > 16384
  · have fr := fr.bool (d := 17) rfl (decide_eq_true h1)
    skip; (repeat (with_reducible refine wp_seq ?_))
    refine cw_t fr rfl ?_
    skip; (repeat (with_reducible refine wp_seq ?_)); refine wp_region_lit ?_
    refine wl_run orcL_ok 1 rfl fr fun a fr => ?_
    refine wpList_nil ?_; (repeat (with_reducible refine then_n ?_))
    refine wp_ret ?_
    skip; (repeat (first | (with_reducible refine then_r ?_) | (with_reducible refine blk_r ?_) | (with_reducible refine ng_r ?_)))
    refine ret1 fr rfl rfl ?_
    exact ⟨by unfold roomF; rw [decide_eq_false (by omega)], S⟩
  have fr := fr.bool (d := 17) rfl (decide_eq_false h1)
  skip; (repeat (with_reducible refine wp_seq ?_))
  refine cw_f fr rfl ?_
  refine wp_skip ?_
  (with_reducible refine then_n ?_)
  skip; (repeat (with_reducible refine wp_seq ?_)); refine wp_region_lit ?_
  refine wl_run orcL_ok 1 rfl fr fun a fr => ?_
  refine wl_make litB fr rfl rfl rfl rfl rfl rfl ⟨by omega, by omega⟩ S ?_
  intro w A c S a fr
  have hl : (List.replicate n.toNat (0 : Int)).length = n.toNat := List.length_replicate
  refine wl_call fr rfl rfl rfl rfl enPut (put_call (Sat.ownAt S 0 rfl) (by omega) S) ?_
  rintro _ w ⟨A', c', rfl, hv, S⟩
  refine ⟨_, rfl, hv, fun a fr => ?_⟩
  have S := S.mask [false, false]
  refine wl_run orcL_ok 5 rfl fr fun a fr => ?_
  refine wpList_nil ?_; (repeat (with_reducible refine then_n ?_))
  skip; (repeat (with_reducible refine wp_seq ?_)); refine wp_region_lit ?_
  refine wl_run orcL_ok 8 rfl fr fun a fr => ?_
  refine wl_call fr rfl rfl rfl rfl enLeft (left_call S hx) ?_
  rintro _ w ⟨rfl, S⟩
  refine ⟨_, rfl, by
    show (Lit.int .i64 _).wf = true
    rw [wf_int]
    have h2 : IntKind.i64.min = -9223372036854775808 := by decide
    have h3 : IntKind.i64.max = 9223372036854775807 := by decide
    omega, fun a fr => ?_⟩
  have hw : IntKind.wrap .i64 (((D.seen.length : Int) - x) * 64) = ((D.seen.length : Int) - x) * 64 := IntWalk.i64_in _ ⟨by omega, by omega⟩
  refine wl_run orcL_ok 4 rfl fr fun a fr => ?_
  refine wpList_nil ?_; (repeat (with_reducible refine then_n ?_))
  refine wp_ret ?_
  refine ret1 fr rfl rfl ?_
  refine ⟨?_, S⟩
  show Ending.returned (Value.bool (decide (((Frames.put (List.replicate n.toNat (0 : Int))).length : Int) ≤ IntKind.wrap .i64 (((D.seen.length : Int) - x) * 64)))) = _
  rw [hw, Frames.put_length, hl]
  unfold roomF
  congr 2
  exact decide_eq_decide.2 (by omega)
def wrs (D : Dk) (x : Nat) : Nat → List Int → Dk
  | 0, _ => D
  | k + 1, b => wrs (D.writeR x (b.take 64)) (x + 1) k (b.drop 64)
def addE (D : Dk) (x : Nat) (l : List Int) : Int := if 16384 < l.length then 3 else if D.seen.length < x + Frames.nsec l.length then 5 else 0
def addX (D : Dk) (x : Nat) (l : List Int) : Nat := if addE D x l = 0 then x + Frames.nsec l.length else x
def addD (D : Dk) (x : Nat) (l : List Int) : Dk := if addE D x l = 0 then wrs D x (Frames.nsec l.length) (Frames.put l) else D
theorem writeR_waits (D : Dk) (x : Int) (b : List Int) : (D.writeR x b).waits.length ≤ D.waits.length + 1 := by
  unfold Dk.writeR
  split
  · simp [Dk.write]
  · omega
set_option maxRecDepth 100000 in
set_option maxHeartbeats 1000000 in
theorem add_call {x : Nat} (S : Sat w0 w (logA g d x :: diskA d D :: R)) {A : Option Addr} {c : Nat} {l : List Int} (rk : Rk .u8 w A l) (hm : l.length ≤ c ∧ c ≤ maxLen) (hl : l.length ≤ 1000000000) (hx : x ≤ 4096) (hw : D.waits.length ≤ 100000000) :
    Calls Tryz.prog 30 #[.pointer (some ⟨g, 0, none⟩), .slice A l.length c] w fun e w' => e = .returned (.int .i64 (addE D x l)) ∧ Sat w0 w' (logA g d (addX D x l) :: diskA d (addD D x l) :: R) := by
  have hsm := (disk_seen (S.frontAt 1 rfl)).most
  refine calls_start (N := 55) [.pointer (some ⟨g, 0, none⟩), .slice A l.length c] Tryz.func30 rfl rfl rfl (vok_c rfl (vok_c (vok_sl hm) rfl)) fun a fr => ?_
  skip; (repeat (with_reducible refine wp_seq ?_)); refine wp_region_lit ?_
  refine wl_run orcL_ok 1 rfl fr fun a fr => ?_
  refine wpList_nil ?_; (repeat (with_reducible refine then_n ?_))
  skip; (repeat (with_reducible refine wp_seq ?_)); refine wp_region_lit ?_
  refine wl_run orcL_ok 1 rfl fr fun a fr => ?_
  refine wl_call fr rfl rfl rfl rfl enThere (there_call S) ?_
  rintro _ w ⟨rfl, hw⟩
  subst hw
  refine ⟨_, rfl, rfl, fun a fr => ?_⟩
  refine wl_run orcL_ok 1 rfl fr fun a fr => ?_
  refine wpList_nil ?_; (repeat (with_reducible refine then_n ?_))
  skip; (repeat (with_reducible refine wp_seq ?_))
  refine cw_f fr rfl ?_
  refine wp_skip ?_
  (with_reducible refine then_n ?_)
  by_cases hbig : 16384 < l.length
  · have e3 : addE D x l = 3 := if_pos hbig
    skip; (repeat (with_reducible refine wp_seq ?_)); refine wp_region_lit ?_
    refine wl_run orcL_ok 1 rfl fr fun a fr => ?_
    refine wl_call fr rfl rfl rfl rfl enPut (put_no hbig hl S) ?_
    rintro _ w ⟨rfl, S⟩
    refine ⟨_, rfl, rfl, fun a fr => ?_⟩
    refine wl_run orcL_ok 5 rfl fr fun a fr => ?_
    refine wpList_nil ?_; (repeat (with_reducible refine then_n ?_))
    skip; (repeat (with_reducible refine wp_seq ?_))
    refine wp_block ?_
    skip; (repeat (with_reducible refine wp_seq ?_)); refine wp_region_lit ?_
    refine wl_run orcL_ok 3 rfl fr fun a fr => ?_
    refine wpList_nil ?_; (repeat (with_reducible refine then_n ?_))
    skip; (repeat (with_reducible refine wp_seq ?_))
    refine cw_t fr rfl ?_
    skip; (repeat (with_reducible refine wp_seq ?_)); refine wp_region_lit ?_
    refine wl_run orcL_ok 2 rfl fr fun a fr => ?_
    refine wpList_nil ?_; (repeat (with_reducible refine then_n ?_))
    refine wp_ret ?_
    skip; (repeat (first | (with_reducible refine then_r ?_) | (with_reducible refine blk_r ?_) | (with_reducible refine ng_r ?_)))
    refine ret1 fr rfl rfl ?_
    unfold addX addD
    rw [e3, if_neg (by decide), if_neg (by decide)]
    exact ⟨rfl, S⟩
  skip; (repeat (with_reducible refine wp_seq ?_)); refine wp_region_lit ?_
  refine wl_run orcL_ok 1 rfl fr fun a fr => ?_
  refine wl_call fr rfl rfl rfl rfl enPut (put_call rk (by omega) S) ?_
  rintro _ w ⟨A0, c0, rfl, hv, S⟩
  refine ⟨_, rfl, hv, fun a fr => ?_⟩
  refine wl_run orcL_ok 5 rfl fr fun a fr => ?_
  refine wpList_nil ?_; (repeat (with_reducible refine then_n ?_))
  have hpl := Frames.put_length l
  have hns : Frames.nsec l.length ≤ 300 := by unfold Frames.nsec; omega
  skip; (repeat (with_reducible refine wp_seq ?_))
  refine wp_block ?_
  skip; (repeat (with_reducible refine wp_seq ?_)); refine wp_region_lit ?_
  refine wl_run orcL_ok 3 rfl fr fun a fr => ?_
  refine wpList_nil ?_; (repeat (with_reducible refine then_n ?_))
  skip; (repeat (with_reducible refine wp_seq ?_))
  refine cw_f fr rfl ?_
  have S : Sat w0 w (logA g d x :: diskA d D :: ownA .u8 5 A0 c0 (Frames.put l) :: R) := (S.frontAt 2 rfl).frontAt 2 rfl
  skip; (repeat (with_reducible refine wp_seq ?_)); refine wp_region_lit ?_
  refine wl_run orcL_ok 5 rfl fr fun a fr => ?_
  refine wl_call fr rfl rfl rfl rfl enLeft (left_call S ⟨by omega, by omega⟩) ?_
  rintro _ w ⟨rfl, S⟩
  refine ⟨_, rfl, by
    show (Lit.int .i64 _).wf = true
    rw [wf_int]
    have h2 : IntKind.i64.min = -9223372036854775808 := by decide
    have h3 : IntKind.i64.max = 9223372036854775807 := by decide
    omega, fun a fr => ?_⟩
  have hwr : IntKind.wrap .i64 (((D.seen.length : Int) - x) * 64) = ((D.seen.length : Int) - x) * 64 := IntWalk.i64_in _ ⟨by omega, by omega⟩
  refine wl_run orcL_ok 3 rfl fr fun a fr => ?_
  refine wpList_nil ?_; (repeat (with_reducible refine then_n ?_))
  by_cases hfull : D.seen.length < x + Frames.nsec l.length
  · have e5 : addE D x l = 5 := by unfold addE; rw [if_neg hbig, if_pos hfull]
    have fr := fr.bool (d := 19) rfl (decide_eq_true (show ((Frames.put l).length : Int) > IntKind.wrap .i64 (((D.seen.length : Int) - x) * 64) by rw [hwr, hpl]; omega))
    skip; (repeat (with_reducible refine wp_seq ?_))
    refine cw_t fr rfl ?_
    skip; (repeat (with_reducible refine wp_seq ?_)); refine wp_region_lit ?_
    refine wl_run orcL_ok 1 rfl fr fun a fr => ?_
    refine wpList_nil ?_; (repeat (with_reducible refine then_n ?_))
    refine wp_ret ?_
    skip; (repeat (first | (with_reducible refine then_r ?_) | (with_reducible refine blk_r ?_) | (with_reducible refine ng_r ?_)))
    refine ret1 fr rfl rfl ?_
    unfold addX addD
    rw [e5, if_neg (by decide), if_neg (by decide)]
    exact ⟨rfl, S.mask [true, true, false]⟩
  have e0 : addE D x l = 0 := by unfold addE; rw [if_neg hbig, if_neg hfull]
  unfold addX addD
  rw [e0, if_pos rfl, if_pos rfl]
  have fr := fr.bool (d := 19) rfl (decide_eq_false (show ¬ ((Frames.put l).length : Int) > IntKind.wrap .i64 (((D.seen.length : Int) - x) * 64) by rw [hwr, hpl]; omega))
  skip; (repeat (with_reducible refine wp_seq ?_))
  refine cw_f fr rfl ?_
  refine wp_skip ?_
  (repeat (first | (with_reducible refine then_n ?_) | (with_reducible refine blk_n ?_) | (with_reducible refine ng_n ?_)))
  skip; (repeat (with_reducible refine wp_seq ?_))
  refine wp_block ?_
  obtain ⟨n, hn⟩ : ∃ n, n = Frames.nsec l.length := ⟨_, rfl⟩
  rw [← hn] at hpl hns hfull ⊢
  refine cw_loop (fun q a w => ∃ (k j : Nat) (D1 : Dk) (A1 : Option Addr) (c1 : Nat) (b : List Int), k + 1 = q ∧ j + k = n ∧ b.length = k * 64 ∧ wrs D1 (x + j) k b = wrs D x n (Frames.put l) ∧ D1.waits.length ≤ 100000000 + j ∧
      (∀ w, Rk .u8 w A0 (Frames.put l) → Rk .u8 w A1 b) ∧ (b.length ≤ c1 ∧ c1 ≤ maxLen) ∧
      Fr 55 a [(0, .pointer (some ⟨g, 0, none⟩)), (5, .slice A1 b.length c1)] ∧
      Sat w0 w (logA g d ((x + j : Nat) : Int) :: diskA d D1 :: ownA .u8 5 A0 c0 (Frames.put l) :: R)) (n + 1)
    ⟨n, 0, D, A0, c0, Frames.put l, rfl, by omega, hpl, rfl, by omega, fun _ h => h, (S.frontAt 2 rfl).own.2, fr.sub ⟨rfl, rfl, trivial⟩, S⟩ ?_ ?_
  · rintro a w ⟨k, j, D1, A1, c1, b, h, -⟩
    omega
  clear fr S
  rintro q a w ⟨k, j, D1, A1, c1, b, hk, hj, hb, hgo, hwt, hrd, hmc, fr, S⟩
  obtain rfl : q = k := by omega
  skip; (repeat (with_reducible refine wp_seq ?_)); refine wp_region_lit ?_
  refine wl_run orcL_ok 3 rfl fr fun a fr => ?_
  refine wpList_nil ?_; (repeat (with_reducible refine then_n ?_))
  cases q with
  | zero =>
    have fr := fr.bool (d := 30) rfl (decide_eq_false (show ¬ ((b.length : Nat) : Int) > 0 by omega))
    skip; (repeat (with_reducible refine wp_seq ?_))
    refine cw_f fr rfl ?_
    refine wp_exit ?_
    skip; (repeat (first | (with_reducible refine then_e ?_) | (with_reducible refine ng_e ?_) | (with_reducible refine blk_e (by decide) ?_))); (with_reducible refine blk_y ?_); (repeat (with_reducible refine then_n ?_))
    skip; (repeat (with_reducible refine wp_seq ?_)); refine wp_region_lit ?_
    refine wl_run orcL_ok 1 rfl fr fun a fr => ?_
    refine wpList_nil ?_; (repeat (with_reducible refine then_n ?_))
    refine wp_ret ?_
    skip; (repeat (first | (with_reducible refine then_r ?_) | (with_reducible refine blk_r ?_) | (with_reducible refine ng_r ?_)))
    refine ret1 fr rfl rfl ?_
    obtain rfl : j = n := by omega
    rw [← hgo]
    exact ⟨rfl, S.mask [true, true, false]⟩
  | succ k =>
    have fr := fr.bool (d := 30) rfl (decide_eq_true (show ((b.length : Nat) : Int) > 0 by omega))
    skip; (repeat (with_reducible refine wp_seq ?_))
    refine cw_t fr rfl ?_
    refine wp_skip ?_
    (with_reducible refine then_n ?_)
    skip; (repeat (with_reducible refine wp_seq ?_))
    refine wp_block ?_
    skip; (repeat (with_reducible refine wp_seq ?_))
    refine wp_region_sl [.one (0, true, some 33), .one (1, true, some 34), .one (2, true, some 35), .one (3, true, some 36), .one (4, true, some 37), .one (5, true, some 38), .one (6, true, some 39), .one (7, true, some 40), .one (8, true, some 41), .one (9, true, some 42), .one (10, true, some 43), .one (11, true, some 44), .one (12, false, some 45)]
                [.one ⟨true, some 33, (Go.Op.move (Go.Operand.tmp 0)), 65, none⟩,
                .one ⟨true, some 34, (Go.Op.nilCheck (Go.Operand.tmp 33)), 0, none⟩,
                .one ⟨true, some 35, (Go.Op.fieldAddr 158 (Go.Operand.tmp 34) 0), 0, none⟩,
                .one ⟨true, some 36, (Go.Op.fieldAddr 156 (Go.Operand.tmp 35) 0), 0, none⟩,
                .one ⟨true, some 37, (Go.Op.load 24 (Go.Operand.tmp 36)), 24, none⟩,
                .one ⟨true, some 38, (Go.Op.move (Go.Operand.tmp 0)), 65, none⟩,
                .one ⟨true, some 39, (Go.Op.nilCheck (Go.Operand.tmp 38)), 0, none⟩,
                .one ⟨true, some 40, (Go.Op.fieldAddr 158 (Go.Operand.tmp 39) 0), 0, none⟩,
                .one ⟨true, some 41, (Go.Op.fieldAddr 156 (Go.Operand.tmp 40) 1), 0, none⟩,
                .one ⟨true, some 42, (Go.Op.load 3 (Go.Operand.tmp 41)), 3, none⟩,
                .one ⟨true, some 43, (Go.Op.move (Go.Operand.tmp 5)), 45, none⟩,
                .one ⟨true, some 44, (Go.Op.slice 45 (Go.Operand.tmp 43) none (some (Go.Operand.const (Go.Value.int Go.IntKind.i64 64))) none), 45, none⟩,
                .one ⟨false, some 45, (Go.Op.call { callee := (Go.Callee.value (Go.Operand.func 12)), args := #[(Go.Operand.tmp 37), (Go.Operand.tmp 42), (Go.Operand.tmp 44)], argTypes := #[24, 3, 45] }), 25, none⟩]
                (fun w' => Sat w0 w' [logA g d ((x + j : Nat) : Int)]) rfl (by kernel_rfl) (by kernel_rfl) ?_ ?_
    · exact S.drew.firsts [_]
    have S := S.drew
    refine sl_run orcL_ok 4 rfl fr fun a fr => ?_
    refine sl_ldf orcL_ok (fun w' S => Sat.stAt S 0 rfl (j := 0) rfl) fr rfl rfl rfl rfl rfl rfl rfl rfl (S.firsts [_]) fun a fr => ?_
    refine sl_run orcL_ok 4 rfl fr fun a fr => ?_
    refine sl_ldf orcL_ok (fun w' S => Sat.stAt S 0 rfl (j := 1) rfl) fr rfl rfl rfl rfl rfl rfl rfl rfl (S.firsts [_]) fun a fr => ?_
    refine sl_run orcL_ok 1 rfl fr fun a fr => ?_
    refine sl_takeq orcL_ok fr rfl rfl rfl rfl rfl rfl rfl rfl rfl rfl ⟨by omega, by omega⟩ fun a fr => ?_
    have hS1 := S.frontAt 1 rfl
    refine sl_call fr rfl rfl rfl rfl rfl enWrite (disk_write hS1 _ ((hrd _ (Sat.ownAt S 2 rfl)).take 64) ⟨by omega, by rw [List.length_take]; omega⟩) ?_
    rintro _ w ⟨rfl, hv, S⟩
    have S : Sat w0 w (logA g d ((x + j : Nat) : Int) :: diskA d (D1.writeR ((x + j : Nat) : Int) (b.take 64)) :: ownA .u8 5 A0 c0 (Frames.put l) :: R) := S.frontAt 1 rfl
    refine ⟨_, rfl, hv, S.firsts [_], fun a fr => ?_⟩
    refine sl_end ?_
    (repeat (with_reducible refine then_n ?_))
    skip; (repeat (with_reducible refine wp_seq ?_)); refine wp_region_lit ?_
    refine wl_run orcL_ok 4 rfl fr fun a fr => ?_
    refine wl_ldf orcL_ok (Sat.stAt S 0 rfl (j := 1) rfl) fr rfl rfl rfl rfl rfl rfl rfl fun a fr => ?_
    refine wl_run orcL_ok 4 rfl fr fun a fr => ?_
    have fr := fr.spell (d := 51) rfl (congrArg (Value.int .i64) (show IntKind.wrap .i64 (((x + j : Nat) : Int) + 1) = ((x + (j + 1) : Nat) : Int) by rw [show IntKind.wrap .i64 (((x + j : Nat) : Int) + 1) = ((x + j : Nat) : Int) + 1 from IntWalk.i64_in _ ⟨by omega, by omega⟩]; omega))
    refine wl_stf orcL_ok fr rfl rfl rfl (j := 1) rfl rfl rfl rfl rfl S rfl ?_
    intro w S
    refine wpList_nil ?_; (repeat (with_reducible refine then_n ?_))
    (repeat (first | (with_reducible refine then_n ?_) | (with_reducible refine blk_n ?_) | (with_reducible refine ng_n ?_)))
    skip; (repeat (with_reducible refine wp_seq ?_)); refine wp_region_lit ?_
    refine wl_run orcL_ok 1 rfl fr fun a fr => ?_
    refine wl_drop orcL_ok fr rfl rfl rfl rfl rfl rfl rfl infoB rfl ⟨by omega, by omega⟩ fun a fr => ?_
    refine wl_run orcL_ok 1 rfl fr fun a fr => ?_
    refine wpList_nil ?_; (repeat (with_reducible refine then_n ?_))
    have hw1 := writeR_waits D1 ((x + j : Nat) : Int) (b.take 64)
    have h64 : Int.toNat 64 = 64 := rfl
    refine ⟨k, j + 1, D1.writeR ((x + j : Nat) : Int) (b.take 64), dropA A1 c1 64, c1 - 64, b.drop 64, rfl, by omega, by rw [List.length_drop]; omega, hgo, by omega, fun w hw => (hrd w hw).drop hmc.1, ⟨by rw [List.length_drop]; omega, by omega⟩, fr.sub ⟨rfl, rfl, trivial⟩, S⟩
end
end Go.Proofs.YticnjkdaccacaaaGreatDoor.Sx
end
section
namespace Go.Proofs.YticnjkdaccacaaaGreatDoor.Sx
open Go Go.RowKit Base _root_.Go.Proofs.YticnjkdaccacaaaGreatDoor.Own OwnV Disk Bytes
def orcR6 : Orc := ⟨[(3, .int .i64), (4, .bool), (5, .int .u8), (25, .int .i64), (45, .slice 5), (66, .slice 45), (145, .struct #[Go.Field.mk "sure" 66 0 false "" "concordat/concordatref04" 0, Go.Field.mk "waits" 143 1 false "" "concordat/concordatref04" 24]), (28, .pointer 145), (162, .struct #[Go.Field.mk "d" 28 0 false "" "concordat/concordatref06" 0, Go.Field.mk "at" 3 1 false "" "concordat/concordatref06" 8]), (69, .pointer 162)],
  [(3, 1), (4, 1), (5, 1), (25, 1), (45, 1), (66, 1), (145, 2), (28, 1), (162, 2), (69, 1)]⟩
theorem orcR6_ok : orcR6.Ok Tryz.prog := ⟨⟨Tryz.underlying3, Tryz.underlying4, Tryz.underlying5, Tryz.underlying25, Tryz.underlying45, Tryz.underlying66, Tryz.underlying145, Tryz.underlying28, Tryz.underlying162, Tryz.underlying69, trivial⟩, ⟨by kernel_rfl, by kernel_rfl, by kernel_rfl, by kernel_rfl, by kernel_rfl, by kernel_rfl, by kernel_rfl, by kernel_rfl, by kernel_rfl, by kernel_rfl, trivial⟩⟩
def rlgA (g b : Nat) (x : Int) : Asn := stA 162 g [.pointer (some ⟨b, 0, none⟩), .int .i64 x]
theorem enM1 : Enters Tryz.prog 83 := fun _ _ => by kernel_rfl
theorem enM2 : Enters Tryz.prog 14 := fun _ _ => by kernel_rfl
theorem enM3 : Enters Tryz.prog 13 := fun _ _ => by kernel_rfl
theorem enM4 : Enters Tryz.prog 17 := fun _ _ => by kernel_rfl
theorem enM5 : Enters Tryz.prog 126 := fun _ _ => by kernel_rfl
theorem enM6 : Enters Tryz.prog 122 := fun _ _ => by kernel_rfl
theorem enM7 : Enters Tryz.prog 127 := fun _ _ => by kernel_rfl
theorem infoB1 : (Tryz.prog.info? 5).map (·.size) = some 1 := by kernel_rfl
section
variable {w w0 : World} {R : List Asn} {g b : Nat} {D : Dk} {x : Int}
theorem ds_good (S : Sat w0 w (ddsA b D :: R)) : Good D := S.ofDs.1
set_option maxRecDepth 100000 in
theorem r6_force (hb : D.waits.length ≤ 1000000) (S : Sat w0 w (rlgA g b x :: ddsA b D :: R)) :
    Calls Tryz.prog 33 #[.pointer (some ⟨g, 0, none⟩)] w fun e w' => e = .returned (.int .i64 0) ∧ Sat w0 w' (rlgA g b x :: ddsA b D.sync :: R) := by
  refine calls_start (N := 8) [.pointer (some ⟨g, 0, none⟩)] Tryz.func33 rfl rfl rfl rfl fun a fr => ?_
  have S : Sat w0 w (stA 162 g [.pointer (some ⟨b, 0, none⟩), .int .i64 x] :: ddsA b D :: R) := S
  skip; (repeat (with_reducible refine wp_seq ?_)); refine wp_region_lit ?_
  refine wl_run orcR6_ok 1 rfl fr fun a fr => ?_
  refine wpList_nil ?_; (repeat (with_reducible refine then_n ?_))
  skip; (repeat (with_reducible refine wp_seq ?_)); refine wp_region_lit ?_
  refine wl_run orcR6_ok 3 rfl fr fun a fr => ?_
  refine wl_ldf orcR6_ok (Sat.stAt S 0 rfl (j := 0) rfl) fr rfl rfl rfl rfl rfl rfl rfl fun a fr => ?_
  refine wl_call fr rfl rfl rfl rfl enM2 (ds_sync hb (S.frontAt 1 rfl)) ?_
  rintro _ w ⟨rfl, S⟩
  refine ⟨_, rfl, rfl, fun a fr => ?_⟩
  refine wl_run orcR6_ok 1 rfl fr fun a fr => ?_
  refine wpList_nil ?_; (repeat (with_reducible refine then_n ?_))
  refine wp_ret ?_
  skip; (repeat (first | (with_reducible refine then_r ?_) | (with_reducible refine blk_r ?_) | (with_reducible refine ng_r ?_)))
  refine ret1 fr rfl rfl ?_
  exact ⟨rfl, S.frontAt 1 rfl⟩
set_option maxRecDepth 100000 in
set_option maxHeartbeats 1000000 in
theorem r6_room {n : Int} (hn : (Lit.int .i64 n).wf = true) (hx : 0 ≤ x ∧ x ≤ 1000000) (S : Sat w0 w (rlgA g b x :: ddsA b D :: R)) :
    Calls Tryz.prog 37 #[.pointer (some ⟨g, 0, none⟩), .int .i64 n] w fun e w' => e = .returned (.bool (roomF D x n)) ∧ Sat w0 w' (rlgA g b x :: ddsA b D :: R) := by
  have hmost := (ds_good (S.frontAt 1 rfl)).ok.most
  refine calls_start (N := 26) [.pointer (some ⟨g, 0, none⟩), .int .i64 n] Tryz.func37 rfl rfl rfl (vok_c rfl (vok_c hn rfl)) fun a fr => ?_
  have S : Sat w0 w (stA 162 g [.pointer (some ⟨b, 0, none⟩), .int .i64 x] :: ddsA b D :: R) := S
  skip; (repeat (with_reducible refine wp_seq ?_)); refine wp_region_lit ?_
  refine wl_run orcR6_ok 1 rfl fr fun a fr => ?_
  refine wpList_nil ?_; (repeat (with_reducible refine then_n ?_))
  skip; (repeat (with_reducible refine wp_seq ?_))
  refine wp_region_sl [.one (0, true, some 5), .one (1, true, some 6), .one (2, true, some 7), .one (3, true, some 8), .one (4, true, some 9), .one (5, true, some 10), .one (6, true, some 11), .one (7, true, some 12), .one (8, true, some 13), .one (9, true, some 14), .one (10, true, some 15), .one (11, true, some 16), .one (14, true, some 19), .one (15, true, some 20), .one (16, true, some 21), .one (17, true, some 22), .one (12, false, some 17), .one (13, true, some 18), .one (18, false, some 23), .one (19, true, some 24), .one (20, true, some 25), .one (21, true, some 4)]
                [.one ⟨true, some 5, (Go.Op.move (Go.Operand.tmp 1)), 3, none⟩,
                .one ⟨true, some 6, (Go.Op.binOp Go.BinOp.geq 3 (Go.Operand.tmp 5) (Go.Operand.const (Go.Value.int Go.IntKind.i64 0)) 3), 4, none⟩,
                .one ⟨true, some 7, (Go.Op.move (Go.Operand.tmp 6)), 4, none⟩,
                .one ⟨true, some 8, (Go.Op.move (Go.Operand.tmp 1)), 3, some (7, true)⟩,
                .one ⟨true, some 9, (Go.Op.binOp Go.BinOp.leq 3 (Go.Operand.tmp 8) (Go.Operand.const (Go.Value.int Go.IntKind.i64 16384)) 3), 4, some (7, true)⟩,
                .one ⟨true, some 10, (Go.Op.pick (Go.Operand.tmp 7) (Go.Operand.tmp 9) (Go.Operand.const (Go.Value.bool false))), 4, none⟩,
                .one ⟨true, some 11, (Go.Op.move (Go.Operand.tmp 10)), 4, none⟩,
                .one ⟨true, some 12, (Go.Op.move (Go.Operand.tmp 0)), 69, some (11, true)⟩,
                .one ⟨true, some 13, (Go.Op.nilCheck (Go.Operand.tmp 12)), 0, some (11, true)⟩,
                .one ⟨true, some 14, (Go.Op.fieldAddr 162 (Go.Operand.tmp 13) 1), 0, some (11, true)⟩,
                .one ⟨true, some 15, (Go.Op.load 3 (Go.Operand.tmp 14)), 3, some (11, true)⟩,
                .one ⟨true, some 16, (Go.Op.move (Go.Operand.tmp 1)), 3, some (11, true)⟩,
                .one ⟨true, some 19, (Go.Op.move (Go.Operand.tmp 0)), 69, some (11, true)⟩,
                .one ⟨true, some 20, (Go.Op.nilCheck (Go.Operand.tmp 19)), 0, some (11, true)⟩,
                .one ⟨true, some 21, (Go.Op.fieldAddr 162 (Go.Operand.tmp 20) 0), 0, some (11, true)⟩,
                .one ⟨true, some 22, (Go.Op.load 28 (Go.Operand.tmp 21)), 28, some (11, true)⟩,
                .one ⟨false, some 17, (Go.Op.call { callee := (Go.Callee.value (Go.Operand.func 127)), args := #[(Go.Operand.tmp 16)], argTypes := #[3] }), 3, some (11, true)⟩,
                .one ⟨true, some 18, (Go.Op.binOp Go.BinOp.add 3 (Go.Operand.tmp 15) (Go.Operand.tmp 17) 3), 3, some (11, true)⟩,
                .one ⟨false, some 23, (Go.Op.call { callee := (Go.Callee.value (Go.Operand.func 83)), args := #[(Go.Operand.tmp 22)], argTypes := #[28] }), 3, some (11, true)⟩,
                .one ⟨true, some 24, (Go.Op.binOp Go.BinOp.leq 3 (Go.Operand.tmp 18) (Go.Operand.tmp 23) 3), 4, some (11, true)⟩,
                .one ⟨true, some 25, (Go.Op.pick (Go.Operand.tmp 11) (Go.Operand.tmp 24) (Go.Operand.const (Go.Value.bool false))), 4, none⟩,
                .one ⟨true, some 4, (Go.Op.assign (Go.Operand.tmp 25)), 4, none⟩]
                (fun v => Sat w0 v [stA 162 g [.pointer (some ⟨b, 0, none⟩), .int .i64 x]]) rfl (by kernel_rfl) (by kernel_rfl) ?_ ?_
  · exact S.drew.firsts [_]
  have S := S.drew
  by_cases h0 : n ≥ 0
  rotate_left
  · refine sl_run orcR6_ok 3 rfl fr fun a fr => ?_
    have fr := fr.bool (d := 7) rfl (decide_eq_false h0)
    have e : roomF D x n = false := decide_eq_false (by omega)
    refine sl_run orcR6_ok 13 rfl fr fun a fr => ?_
    refine sl_no fr rfl (S.firsts [_]) rfl rfl fun a fr => ?_
    refine sl_run orcR6_ok 1 rfl fr fun a fr => ?_
    refine sl_no fr rfl (S.firsts [_]) rfl rfl fun a fr => ?_
    refine sl_run orcR6_ok 3 rfl fr fun a fr => ?_
    refine sl_end ?_
    (repeat (with_reducible refine then_n ?_))
    refine wp_ret ?_
    skip; (repeat (first | (with_reducible refine then_r ?_) | (with_reducible refine blk_r ?_) | (with_reducible refine ng_r ?_)))
    rw [e]
    refine ret1 fr rfl rfl ?_
    exact ⟨rfl, S⟩
  refine sl_run orcR6_ok 3 rfl fr fun a fr => ?_
  have fr := fr.bool (d := 7) rfl (decide_eq_true h0)
  refine sl_run orcR6_ok 2 rfl fr fun a fr => ?_
  by_cases h1 : n ≤ 16384
  rotate_left
  · have fr := fr.bool (d := 9) rfl (decide_eq_false h1)
    have e : roomF D x n = false := decide_eq_false (by omega)
    refine sl_run orcR6_ok 11 rfl fr fun a fr => ?_
    refine sl_no fr rfl (S.firsts [_]) rfl rfl fun a fr => ?_
    refine sl_run orcR6_ok 1 rfl fr fun a fr => ?_
    refine sl_no fr rfl (S.firsts [_]) rfl rfl fun a fr => ?_
    refine sl_run orcR6_ok 3 rfl fr fun a fr => ?_
    refine sl_end ?_
    (repeat (with_reducible refine then_n ?_))
    refine wp_ret ?_
    skip; (repeat (first | (with_reducible refine then_r ?_) | (with_reducible refine blk_r ?_) | (with_reducible refine ng_r ?_)))
    rw [e]
    refine ret1 fr rfl rfl ?_
    exact ⟨rfl, S⟩
  have fr := fr.bool (d := 9) rfl (decide_eq_true h1)
  obtain ⟨m, hm⟩ : ∃ m : Nat, n = m := ⟨n.toNat, by omega⟩
  refine sl_run orcR6_ok 5 rfl fr fun a fr => ?_
  refine sl_ldf orcR6_ok (fun _ S => Sat.stAt S 0 rfl (j := 1) rfl) fr rfl rfl rfl rfl rfl rfl rfl rfl (S.firsts [_]) fun a fr => ?_
  refine sl_run orcR6_ok 4 rfl fr fun a fr => ?_
  refine sl_ldf orcR6_ok (fun _ S => Sat.stAt S 0 rfl (j := 0) rfl) fr rfl rfl rfl rfl rfl rfl rfl rfl (S.firsts [_]) fun a fr => ?_
  have fr := fr.spell (d := 16) rfl (congrArg (Value.int .i64) hm)
  have hns : Frames.nsec m ≤ 300 := by unfold Frames.nsec; omega
  refine sl_call fr rfl rfl rfl rfl rfl enM7 (QGet.r5_sec (n := m) (by omega) S) ?_
  rintro _ w ⟨rfl, hv, S⟩
  refine ⟨_, rfl, hv, S.firsts [_], fun a fr => ?_⟩
  refine sl_run orcR6_ok 1 rfl fr fun a fr => ?_
  refine sl_call fr rfl rfl rfl rfl rfl enM1 (ds_size (S.frontAt 1 rfl)) ?_
  rintro _ w ⟨rfl, hv, S⟩
  refine ⟨_, rfl, hv, (S.frontAt 1 rfl).firsts [_], fun a fr => ?_⟩
  refine sl_run orcR6_ok 1 rfl fr fun a fr => ?_
  have e : decide (IntKind.wrap .i64 (x + ((Frames.nsec m : Nat) : Int)) ≤ (D.seen.length : Int)) = roomF D x n := by
    rw [show IntKind.wrap .i64 (x + ((Frames.nsec m : Nat) : Int)) = x + ((Frames.nsec m : Nat) : Int) from IntWalk.i64_in _ ⟨by omega, by omega⟩]
    unfold roomF
    rw [hm, Int.toNat_natCast]
    exact decide_eq_decide.2 (by omega)
  have fr := fr.spell (d := 24) rfl (congrArg Value.bool e)
  refine sl_run orcR6_ok 2 rfl fr fun a fr => ?_
  refine sl_end ?_
  (repeat (with_reducible refine then_n ?_))
  refine wp_ret ?_
  skip; (repeat (first | (with_reducible refine then_r ?_) | (with_reducible refine blk_r ?_) | (with_reducible refine ng_r ?_)))
  refine ret1 fr rfl rfl ?_
  exact ⟨rfl, S.frontAt 1 rfl⟩
set_option maxRecDepth 100000 in
set_option maxHeartbeats 1000000 in
theorem r6_add {x : Nat} {A : Option Addr} {c : Nat} {l : List Int} (rk : ∀ w', Sat w0 w' R → Rk .u8 w' A l) (hm : l.length ≤ c ∧ c ≤ maxLen) (hx : x ≤ 4096) (hb : D.waits.length ≤ 900000) (S : Sat w0 w (rlgA g b x :: ddsA b D :: R)) :
    Calls Tryz.prog 31 #[.pointer (some ⟨g, 0, none⟩), .slice A l.length c] w fun e w' => e = .returned (.int .i64 (addE D x l)) ∧ vok (.int .i64 (addE D x l)) = true ∧ Sat w0 w' (rlgA g b (addX D x l : Nat) :: ddsA b (addD D x l) :: R) := by
  have hmost := (ds_good (S.frontAt 1 rfl)).ok.most
  have S : Sat w0 w (stA 162 g [.pointer (some ⟨b, 0, none⟩), .int .i64 (x : Int)] :: ddsA b D :: R) := S
  refine calls_start (N := 64) [.pointer (some ⟨g, 0, none⟩), .slice A l.length c] Tryz.func31 rfl rfl rfl (vok_c rfl (vok_c (vok_sl hm) rfl)) fun a fr => ?_
  skip; (repeat (with_reducible refine wp_seq ?_)); refine wp_region_lit ?_
  refine wl_run orcR6_ok 1 rfl fr fun a fr => ?_
  refine wpList_nil ?_; (repeat (with_reducible refine then_n ?_))
  by_cases hbig : 16384 < l.length
  · have e3 : addE D x l = 3 := if_pos hbig
    skip; (repeat (with_reducible refine wp_seq ?_)); refine wp_region_lit ?_
    refine wl_run orcR6_ok 1 rfl fr fun a fr => ?_
    refine wl_call fr rfl rfl rfl rfl enM5 (QGet.r5_put_no (rk _ S.tl.tl) hm hbig S) ?_
    rintro _ w ⟨A1, c1, rfl, hv, S⟩
    refine ⟨_, rfl, hv, fun a fr => ?_⟩
    refine wl_run orcR6_ok 5 rfl fr fun a fr => ?_
    refine wpList_nil ?_; (repeat (with_reducible refine then_n ?_))
    skip; (repeat (with_reducible refine wp_seq ?_)); refine wp_region_lit ?_
    refine wl_run orcR6_ok 2 rfl fr fun a fr => ?_
    refine wpList_nil ?_; (repeat (with_reducible refine then_n ?_))
    skip; (repeat (with_reducible refine wp_seq ?_))
    refine cw_t fr rfl ?_
    skip; (repeat (with_reducible refine wp_seq ?_)); refine wp_region_lit ?_
    refine wl_run orcR6_ok 2 rfl fr fun a fr => ?_
    refine wpList_nil ?_; (repeat (with_reducible refine then_n ?_))
    refine wp_ret ?_
    skip; (repeat (first | (with_reducible refine then_r ?_) | (with_reducible refine blk_r ?_) | (with_reducible refine ng_r ?_)))
    refine ret1 fr rfl rfl ?_
    unfold addX addD
    rw [e3, if_neg (by decide), if_neg (by decide)]
    exact ⟨rfl, rfl, S.tl⟩
  skip; (repeat (with_reducible refine wp_seq ?_)); refine wp_region_lit ?_
  refine wl_run orcR6_ok 1 rfl fr fun a fr => ?_
  refine wl_call fr rfl rfl rfl rfl enM5 (QGet.r5_put (rk _ S.tl.tl) hm (by omega) S) ?_
  rintro _ w ⟨A0, c0, rfl, hv, S⟩
  refine ⟨_, rfl, hv, fun a fr => ?_⟩
  refine wl_run orcR6_ok 5 rfl fr fun a fr => ?_
  refine wpList_nil ?_; (repeat (with_reducible refine then_n ?_))
  skip; (repeat (with_reducible refine wp_seq ?_)); refine wp_region_lit ?_
  refine wl_run orcR6_ok 2 rfl fr fun a fr => ?_
  refine wpList_nil ?_; (repeat (with_reducible refine then_n ?_))
  have hpl := Frames.put_length l
  have hns : Frames.nsec l.length ≤ 300 := by unfold Frames.nsec; omega
  skip; (repeat (with_reducible refine wp_seq ?_))
  refine cw_f fr rfl ?_
  refine wp_skip ?_
  (with_reducible refine then_n ?_)
  skip; (repeat (with_reducible refine wp_seq ?_)); refine wp_region_lit ?_
  refine wl_run orcR6_ok 2 rfl fr fun a fr => ?_
  refine wl_pv orcR6_ok fr rfl rfl rfl (po_quo rfl rfl rfl (by decide)) fun a fr => ?_
  have fr := fr.spell (d := 19) rfl (congrArg (Value.int .i64) (show IntKind.wrap .i64 (Int.tdiv ((Frames.put l).length : Int) 64) = ((Frames.nsec l.length : Nat) : Int) by
    rw [hpl, Int.tdiv_eq_ediv_of_nonneg (by omega), show IntKind.wrap .i64 (((Frames.nsec l.length * 64 : Nat) : Int) / 64) = ((Frames.nsec l.length * 64 : Nat) : Int) / 64 from IntWalk.i64_in _ ⟨by omega, by omega⟩]
    omega))
  refine wl_run orcR6_ok 1 rfl fr fun a fr => ?_
  refine wpList_nil ?_; (repeat (with_reducible refine then_n ?_))
  obtain ⟨n, hn⟩ : ∃ n, Frames.nsec l.length = n := ⟨_, rfl⟩
  rw [hn] at hpl hns fr
  have S : Sat w0 w (ddsA b D :: stA 162 g [.pointer (some ⟨b, 0, none⟩), .int .i64 (x : Int)] :: ownA .u8 5 A0 c0 (Frames.put l) :: R) := (S.frontAt 1 rfl).frontAt 2 rfl
  skip; (repeat (with_reducible refine wp_seq ?_))
  refine wp_region_sl [.one (0, true, some 20), .one (1, true, some 21), .one (2, true, some 22), .one (3, true, some 23), .one (4, true, some 24), .one (5, true, some 25), .one (6, true, some 26), .one (7, true, some 27), .one (8, true, some 28), .one (9, true, some 29), .one (10, false, some 30), .one (11, true, some 31)]
                [.one ⟨true, some 20, (Go.Op.move (Go.Operand.tmp 0)), 69, none⟩,
                .one ⟨true, some 21, (Go.Op.nilCheck (Go.Operand.tmp 20)), 0, none⟩,
                .one ⟨true, some 22, (Go.Op.fieldAddr 162 (Go.Operand.tmp 21) 1), 0, none⟩,
                .one ⟨true, some 23, (Go.Op.load 3 (Go.Operand.tmp 22)), 3, none⟩,
                .one ⟨true, some 24, (Go.Op.move (Go.Operand.tmp 7)), 3, none⟩,
                .one ⟨true, some 25, (Go.Op.binOp Go.BinOp.add 3 (Go.Operand.tmp 23) (Go.Operand.tmp 24) 3), 3, none⟩,
                .one ⟨true, some 26, (Go.Op.move (Go.Operand.tmp 0)), 69, none⟩,
                .one ⟨true, some 27, (Go.Op.nilCheck (Go.Operand.tmp 26)), 0, none⟩,
                .one ⟨true, some 28, (Go.Op.fieldAddr 162 (Go.Operand.tmp 27) 0), 0, none⟩,
                .one ⟨true, some 29, (Go.Op.load 28 (Go.Operand.tmp 28)), 28, none⟩,
                .one ⟨false, some 30, (Go.Op.call { callee := (Go.Callee.value (Go.Operand.func 83)), args := #[(Go.Operand.tmp 29)], argTypes := #[28] }), 3, none⟩,
                .one ⟨true, some 31, (Go.Op.binOp Go.BinOp.gtr 3 (Go.Operand.tmp 25) (Go.Operand.tmp 30) 3), 4, none⟩]
                (fun v => Sat w0 v [stA 162 g [.pointer (some ⟨b, 0, none⟩), .int .i64 (x : Int)]]) rfl (by kernel_rfl) (by kernel_rfl) ?_ ?_
  · exact (S.drew.frontAt 1 rfl).firsts [_]
  have S := S.drew
  refine sl_run orcR6_ok 3 rfl fr fun a fr => ?_
  refine sl_ldf orcR6_ok (fun _ S => Sat.stAt S 0 rfl (j := 1) rfl) fr rfl rfl rfl rfl rfl rfl rfl rfl ((S.frontAt 1 rfl).firsts [_]) fun a fr => ?_
  refine sl_run orcR6_ok 5 rfl fr fun a fr => ?_
  refine sl_ldf orcR6_ok (fun _ S => Sat.stAt S 0 rfl (j := 0) rfl) fr rfl rfl rfl rfl rfl rfl rfl rfl ((S.frontAt 1 rfl).firsts [_]) fun a fr => ?_
  refine sl_call fr rfl rfl rfl rfl rfl enM1 (ds_size S) ?_
  rintro _ w ⟨rfl, hv, S⟩
  refine ⟨_, rfl, hv, (S.frontAt 1 rfl).firsts [_], fun a fr => ?_⟩
  refine sl_run orcR6_ok 1 rfl fr fun a fr => ?_
  refine sl_end ?_
  (repeat (with_reducible refine then_n ?_))
  have hxn : IntKind.wrap .i64 ((x : Int) + (n : Int)) = ((x + n : Nat) : Int) := by rw [show IntKind.wrap .i64 ((x : Int) + (n : Int)) = (x : Int) + (n : Int) from IntWalk.i64_in _ ⟨by omega, by omega⟩]; omega
  by_cases hfull : D.seen.length < x + n
  · have e5 : addE D x l = 5 := by unfold addE; rw [if_neg hbig, hn, if_pos hfull]
    have fr := fr.bool (d := 31) rfl (decide_eq_true (show IntKind.wrap .i64 ((x : Int) + (n : Int)) > (D.seen.length : Int) by rw [hxn]; omega))
    skip; (repeat (with_reducible refine wp_seq ?_))
    refine cw_t fr rfl ?_
    skip; (repeat (with_reducible refine wp_seq ?_)); refine wp_region_lit ?_
    refine wl_run orcR6_ok 1 rfl fr fun a fr => ?_
    refine wpList_nil ?_; (repeat (with_reducible refine then_n ?_))
    refine wp_ret ?_
    skip; (repeat (first | (with_reducible refine then_r ?_) | (with_reducible refine blk_r ?_) | (with_reducible refine ng_r ?_)))
    refine ret1 fr rfl rfl ?_
    unfold addX addD
    rw [e5, if_neg (by decide), if_neg (by decide)]
    exact ⟨rfl, rfl, (S.mask [true, true, false] : Sat w0 _ (ddsA b D :: stA 162 g _ :: R)).frontAt 1 rfl⟩
  have e0 : addE D x l = 0 := by unfold addE; rw [if_neg hbig, hn, if_neg hfull]
  unfold addX addD
  rw [e0, if_pos rfl, if_pos rfl, hn]
  have fr := fr.bool (d := 31) rfl (decide_eq_false (show ¬ IntKind.wrap .i64 ((x : Int) + (n : Int)) > (D.seen.length : Int) by rw [hxn]; omega))
  skip; (repeat (with_reducible refine wp_seq ?_))
  refine cw_f fr rfl ?_
  refine wp_skip ?_
  (with_reducible refine then_n ?_)
  skip; (repeat (with_reducible refine wp_seq ?_)); refine wp_region_lit ?_
  refine wl_run orcR6_ok 1 rfl fr fun a fr => ?_
  refine wpList_nil ?_; (repeat (with_reducible refine then_n ?_))
  generalize hB : Frames.put l = B at *
  generalize hF : wrs D x n B = F
  have hm0 := (S.frontAt 2 rfl).own.2
  skip; (repeat (with_reducible refine wp_seq ?_))
  refine wp_block ?_
  refine cw_loop (fun q a w1 => ∃ (i : Nat) (D' : Dk), i + q = n + 1 ∧ i ≤ n ∧ wrs D' (x + i) (n - i) (B.drop (64 * i)) = F ∧ D'.waits.length ≤ 900000 + i ∧ Fr 64 a [(0, .pointer (some ⟨g, 0, none⟩)), (5, .slice A0 B.length c0), (7, .int .i64 (n : Int)), (8, .int .i64 (i : Int))] ∧ Sat w0 w1 (ddsA b D' :: stA 162 g [.pointer (some ⟨b, 0, none⟩), .int .i64 (x : Int)] :: ownA .u8 5 A0 c0 B :: R)) (n + 1)
    ⟨0, D, by omega, by omega, hF, by omega, fr.sub ⟨rfl, rfl, rfl, rfl, trivial⟩, S⟩ ?_ ?_
  · rintro a w1 ⟨i, _, h, h', -⟩
    omega
  clear fr S
  rintro q a w1 ⟨i, D', hi, hi', hFi, hwt, fr, S⟩
  skip; (repeat (with_reducible refine wp_seq ?_)); refine wp_region_lit ?_
  refine wl_run orcR6_ok 3 rfl fr fun a fr => ?_
  refine wpList_nil ?_; (repeat (with_reducible refine then_n ?_))
  by_cases hlt : i < n
  rotate_left
  · have fr := fr.bool (d := 34) rfl (decide_eq_false (show ¬ (i : Int) < (n : Int) by omega))
    rw [show n - i = 0 by omega] at hFi
    have hDF : D' = F := hFi
    subst hDF
    skip; (repeat (with_reducible refine wp_seq ?_))
    refine cw_f fr rfl ?_
    refine wp_exit ?_
    skip; (repeat (first | (with_reducible refine then_e ?_) | (with_reducible refine ng_e ?_) | (with_reducible refine blk_e (by decide) ?_))); (with_reducible refine blk_y ?_); (repeat (with_reducible refine then_n ?_))
    skip; (repeat (with_reducible refine wp_seq ?_)); refine wp_region_lit ?_
    refine wl_run orcR6_ok 4 rfl fr fun a fr => ?_
    refine wl_ldf orcR6_ok (Sat.stAt S 1 rfl (j := 1) rfl) fr rfl rfl rfl rfl rfl rfl rfl fun a fr => ?_
    refine wl_run orcR6_ok 2 rfl fr fun a fr => ?_
    have fr := fr.spell (d := 61) rfl (congrArg (Value.int .i64) hxn)
    refine wl_run orcR6_ok 2 rfl fr fun a fr => ?_
    have S := S.frontAt 1 rfl
    refine wl_stf (j := 1) orcR6_ok fr rfl rfl rfl rfl rfl rfl rfl rfl S rfl ?_
    intro w2 S
    refine wpList_nil ?_; (repeat (with_reducible refine then_n ?_))
    skip; (repeat (with_reducible refine wp_seq ?_)); refine wp_region_lit ?_
    refine wl_run orcR6_ok 1 rfl fr fun a fr => ?_
    refine wpList_nil ?_; (repeat (with_reducible refine then_n ?_))
    refine wp_ret ?_
    skip; (repeat (first | (with_reducible refine then_r ?_) | (with_reducible refine blk_r ?_) | (with_reducible refine ng_r ?_)))
    refine ret1 fr rfl rfl ?_
    exact ⟨rfl, rfl, (S.mask [true, true, false] : Sat w0 w2 (rlgA g b ((x + n : Nat) : Int) :: ddsA b D' :: R))⟩
  have fr := fr.bool (d := 34) rfl (decide_eq_true (show (i : Int) < (n : Int) by omega))
  obtain ⟨Pc', hP⟩ : ∃ P, (B.take (64 * i + 64)).drop (64 * i) = P := ⟨_, rfl⟩
  have hPl : Pc'.length = 64 := by rw [← hP, List.length_drop, List.length_take]; omega
  have hw1 : IntKind.wrap .i64 ((x : Int) + (i : Int)) = ((x + i : Nat) : Int) := by rw [show IntKind.wrap .i64 ((x : Int) + (i : Int)) = (x : Int) + (i : Int) from IntWalk.i64_in _ ⟨by omega, by omega⟩]; omega
  have hw2 : IntKind.wrap .i64 (64 * (i : Int)) = ((64 * i : Nat) : Int) := by rw [show IntKind.wrap .i64 (64 * (i : Int)) = 64 * (i : Int) from IntWalk.i64_in _ ⟨by omega, by omega⟩]; omega
  have hw3 : IntKind.wrap .i64 (IntKind.wrap .i64 (64 * (i : Int)) + 64) = ((64 * i + 64 : Nat) : Int) := by rw [hw2, show IntKind.wrap .i64 (((64 * i : Nat) : Int) + 64) = ((64 * i : Nat) : Int) + 64 from IntWalk.i64_in _ ⟨by omega, by omega⟩]; omega
  skip; (repeat (with_reducible refine wp_seq ?_))
  refine cw_t fr rfl ?_
  refine wp_skip ?_
  (with_reducible refine then_n ?_)
  skip; (repeat (with_reducible refine wp_seq ?_))
  refine wp_block ?_
  skip; (repeat (with_reducible refine wp_seq ?_))
  refine wp_region_sl [.one (0, true, some 37), .one (1, true, some 38), .one (2, true, some 39), .one (3, true, some 40), .one (4, true, some 41), .one (5, true, some 42), .one (6, true, some 43), .one (7, true, some 44), .one (8, true, some 45), .one (9, true, some 46), .one (10, true, some 47), .one (11, true, some 48), .one (12, true, some 49), .one (13, true, some 50), .one (14, true, some 51), .one (15, true, some 52), .one (16, true, some 53), .one (17, false, some 54)]
                [.one ⟨true, some 37, (Go.Op.move (Go.Operand.tmp 0)), 69, none⟩,
                .one ⟨true, some 38, (Go.Op.nilCheck (Go.Operand.tmp 37)), 0, none⟩,
                .one ⟨true, some 39, (Go.Op.fieldAddr 162 (Go.Operand.tmp 38) 0), 0, none⟩,
                .one ⟨true, some 40, (Go.Op.load 28 (Go.Operand.tmp 39)), 28, none⟩,
                .one ⟨true, some 41, (Go.Op.move (Go.Operand.tmp 0)), 69, none⟩,
                .one ⟨true, some 42, (Go.Op.nilCheck (Go.Operand.tmp 41)), 0, none⟩,
                .one ⟨true, some 43, (Go.Op.fieldAddr 162 (Go.Operand.tmp 42) 1), 0, none⟩,
                .one ⟨true, some 44, (Go.Op.load 3 (Go.Operand.tmp 43)), 3, none⟩,
                .one ⟨true, some 45, (Go.Op.move (Go.Operand.tmp 8)), 3, none⟩,
                .one ⟨true, some 46, (Go.Op.binOp Go.BinOp.add 3 (Go.Operand.tmp 44) (Go.Operand.tmp 45) 3), 3, none⟩,
                .one ⟨true, some 47, (Go.Op.move (Go.Operand.tmp 5)), 45, none⟩,
                .one ⟨true, some 48, (Go.Op.move (Go.Operand.tmp 8)), 3, none⟩,
                .one ⟨true, some 49, (Go.Op.binOp Go.BinOp.mul 3 (Go.Operand.const (Go.Value.int Go.IntKind.i64 64)) (Go.Operand.tmp 48) 3), 3, none⟩,
                .one ⟨true, some 50, (Go.Op.move (Go.Operand.tmp 8)), 3, none⟩,
                .one ⟨true, some 51, (Go.Op.binOp Go.BinOp.mul 3 (Go.Operand.const (Go.Value.int Go.IntKind.i64 64)) (Go.Operand.tmp 50) 3), 3, none⟩,
                .one ⟨true, some 52, (Go.Op.binOp Go.BinOp.add 3 (Go.Operand.tmp 51) (Go.Operand.const (Go.Value.int Go.IntKind.i64 64)) 3), 3, none⟩,
                .one ⟨true, some 53, (Go.Op.slice 45 (Go.Operand.tmp 47) (some (Go.Operand.tmp 49)) (some (Go.Operand.tmp 52)) none), 45, none⟩,
                .one ⟨false, some 54, (Go.Op.call { callee := (Go.Callee.value (Go.Operand.func 13)), args := #[(Go.Operand.tmp 40), (Go.Operand.tmp 46), (Go.Operand.tmp 53)], argTypes := #[28, 3, 45] }), 25, none⟩]
                (fun v => Sat w0 v [stA 162 g [.pointer (some ⟨b, 0, none⟩), .int .i64 (x : Int)]]) rfl (by kernel_rfl) (by kernel_rfl) ?_ ?_
  · exact (S.drew.frontAt 1 rfl).firsts [_]
  have S := S.drew
  refine sl_run orcR6_ok 3 rfl fr fun a fr => ?_
  refine sl_ldf orcR6_ok (fun _ S => Sat.stAt S 0 rfl (j := 0) rfl) fr rfl rfl rfl rfl rfl rfl rfl rfl ((S.frontAt 1 rfl).firsts [_]) fun a fr => ?_
  refine sl_run orcR6_ok 3 rfl fr fun a fr => ?_
  refine sl_ldf orcR6_ok (fun _ S => Sat.stAt S 0 rfl (j := 1) rfl) fr rfl rfl rfl rfl rfl rfl rfl rfl ((S.frontAt 1 rfl).firsts [_]) fun a fr => ?_
  refine sl_run orcR6_ok 8 rfl fr fun a fr => ?_
  have fr := fr.spell (d := 46) rfl (congrArg (Value.int .i64) hw1)
  have fr := fr.spell (d := 49) rfl (congrArg (Value.int .i64) hw2)
  have fr := fr.spell (d := 52) rfl (congrArg (Value.int .i64) hw3)
  refine sl_q (v := .slice (dropA A0 c0 (64 * i)) Pc'.length (c0 - 64 * i)) fr rfl rfl rfl rfl (fun w' _ => by
    have h := mid_run orcR6_ok fr (o := ⟨some 53, .slice 45 (.tmp 47) (some (.tmp 49)) (some (.tmp 52)) none, 45, "", #[], none⟩) rfl (A := A0) (n := B.length) (c := c0) rfl rfl rfl rfl infoB1 ⟨⟨by omega, by omega⟩, by omega⟩ w'
    rw [Int.toNat_natCast, Int.toNat_natCast, show 64 * i + 64 - 64 * i = Pc'.length by omega] at h
    exact h) (vok_sl (A := dropA A0 c0 (64 * i)) ⟨by omega, by omega⟩) fun a fr => ?_
  refine sl_call fr rfl rfl rfl rfl rfl enM3 (ds_write (x := ((x + i : Nat) : Int)) (l := Pc') (i64_wf (by omega) (by omega)) ⟨by omega, by omega⟩ (fun w' S' => by
    have h := Rk.drop (n := 64 * i) (c := c0) (Rk.take (S'.ownAt 1 rfl) (64 * i + 64)) (by rw [List.length_take]; omega)
    rw [hP] at h
    exact h) (by omega) S) ?_
  rintro _ w2 ⟨rfl, hv, S⟩
  refine ⟨_, rfl, hv, (S.frontAt 1 rfl).firsts [_], fun a fr => ?_⟩
  refine sl_end ?_
  (repeat (first | (with_reducible refine then_n ?_) | (with_reducible refine blk_n ?_) | (with_reducible refine ng_n ?_)))
  skip; (repeat (with_reducible refine wp_seq ?_)); refine wp_region_lit ?_
  refine wl_run orcR6_ok 3 rfl fr fun a fr => ?_
  refine wpList_nil ?_; (repeat (with_reducible refine then_n ?_))
  have fr := fr.spell (d := 8) rfl (congrArg (Value.int .i64) (i64_next hlt (by omega)))
  have hwt2 := writeR_waits D' ((x + i : Nat) : Int) Pc'
  refine ⟨i + 1, _, by omega, by omega, ?_, by omega, fr.sub ⟨rfl, rfl, rfl, rfl, trivial⟩, S⟩
  rw [show n - i = (n - (i + 1)) + 1 by omega] at hFi
  have h2 : wrs (D'.writeR ((x + i : Nat) : Int) ((B.drop (64 * i)).take 64)) (x + i + 1) (n - (i + 1)) ((B.drop (64 * i)).drop 64) = F := hFi
  rw [List.drop_drop, show 64 * i + 64 = 64 * (i + 1) by omega, show (B.drop (64 * i)).take 64 = Pc' by rw [← hP, List.drop_take, show 64 * i + 64 - 64 * i = 64 by omega]] at h2
  exact h2
end
end Go.Proofs.YticnjkdaccacaaaGreatDoor.Sx
end
section
namespace Go.Proofs.YticnjkdaccacaaaGreatDoor.Sx
open Go Go.RowKit Base _root_.Go.Proofs.YticnjkdaccacaaaGreatDoor.Own Disk
def parse : Nat → List Int → List (List Int × Nat)
  | 0, _ => []
  | k + 1, b => match Frames.get b with
    | none => []
    | some (r, m) => (r, m) :: parse k (b.drop (m * 64))
def secs (l : List (List Int × Nat)) : Nat := (l.map (·.2)).sum
theorem secs_snoc (l : List (List Int × Nat)) (p : List Int × Nat) : secs (l ++ [p]) = secs l + p.2 := by unfold secs; simp
section
variable {w w0 : World} {R : List Asn}
theorem wli_yields {P : Program} {ops : Array Oper} {Q : Exit → Act → World → Prop} {N n : Nat} {a : Act} {L : Env} {o : Oper} {rest : List Oper} {d lp : Nat} {x : Operand} {vs : List Value} {c : Call} {fn : FuncId} {tmps : Array Value} {assign body : Code} {I : World → Prop} (fr : Fr N a L) (hw : wantL ops L o = some true) (hd : o.dst = some d) (hlt : Nat.blt d N = true) (ho : o.op = .call c) (hc : c.callee = .value x)
    (hx : ev L x = some (.func (.yield lp) #[] #[])) (hxs : evs L c.args.toList = some vs) (hy : (Instr.yield lp vs.toArray).run P w = .ok (.round lp fn tmps assign body) w)
    (hR : RoundIn Fence.wide (n - 1) P lp fn tmps assign body w fun e w' => e = .returned (.bool true) ∧ I w') (h : ∀ w', I w' → ∀ a', Fr N a' ((d, .bool true) :: L) → wpListIn Fence.wide n P ops Q rest a' w') : wpListIn Fence.wide n P ops Q (o :: rest) a w := by
  have e : c.args.map a.eval = vs.toArray := by
    apply Array.toList_inj.1
    rw [Array.toList_map, (evs_run fr hxs).1]
  have hrun : (execOp a.eval o).run P w = .ok (.round lp fn tmps assign body) w := by
    unfold execOp
    simp only [ho, resolve, hc, (fr.ev hx).1, Deferred.ofValue]
    rw [Sem.run_bind, Sem.run_pure, Result.andThen_ok]
    simp only [invoke, e]
    simpa using hy
  unfold wpListIn
  rw [wantL_run fr hw, if_pos rfl]
  refine ⟨fun _ _ => trivial, ?_⟩
  show o.uponIn Fence.wide n P a _ Q ((execOp a.eval o).run P w)
  rw [hrun]
  refine ⟨(fun hh => by cases hh), hR.mono ?_⟩
  rintro e' w' ⟨rfl, hI⟩
  show wpListIn Fence.wide n P ops Q rest (a.put o.dst (.bool true)) w'
  rw [hd]
  exact h w' hI _ (fr.put (blt_lt hlt) rfl)
theorem get_len {b r : List Int} {m : Nat} (h : Frames.get b = some (r, m)) : m = Frames.nsec r.length ∧ 1 ≤ m ∧ m * 64 ≤ b.length ∧ r.length ≤ 16384 := by
  obtain ⟨h1, h2, _, h4, _⟩ := Frames.get_some h
  exact ⟨h1, by rw [h1]; unfold Frames.nsec; omega, h4, h2⟩
theorem get_call {A : Option Addr} {c : Nat} {b : List Int} (rk : Rk .u8 w A b) (hc : b.length ≤ c) (hl : b.length ≤ 100000000) (S : Sat w0 w R) :
    Calls Tryz.prog 210 #[.slice A b.length c] w fun e w' => (Frames.get b = none → e = .returned (.tuple #[.slice none 0 0, .int .i64 0, .int .i64 4]) ∧ Sat w0 w' R) ∧
      ∀ r m, Frames.get b = some (r, m) → ∃ A' c', e = .returned (.tuple #[.slice A' r.length c', .int .i64 m, .int .i64 0]) ∧ vok (.tuple #[.slice A' r.length c', .int .i64 m, .int .i64 0]) = true ∧ Sat w0 w' (ownA .u8 5 A' c' r :: R) := by
  refine (Frames.get_any A c b w hl (bts_rk rk) rk.rd hc).mono ?_
  rintro e w' ⟨h1, h2⟩
  refine ⟨fun hn => ?_, fun r m hg => ?_⟩
  · rw [hn] at h1
    exact ⟨h1, S.new h2⟩
  · rw [hg] at h1
    obtain ⟨v, rfl, h3⟩ := h1
    obtain ⟨g1, _, g3, g4, g5⟩ := Frames.get_some hg
    obtain ⟨A', c', rfl, h5, h6⟩ := S.row h2 h3 (bts_wf (fun z hz => by rw [g5] at hz; exact bts_rk rk z (List.mem_of_mem_drop (List.mem_of_mem_take hz))))
    refine ⟨A', c', rfl, ?_, h6⟩
    have h7 : vokC (.slice A' r.length c') = true := h5
    have h8 : vokC (.int .i64 (m : Int)) = true := vok_small (by
      have := (get_len hg).1
      unfold Frames.nsec at this
      omega)
    show [_, _, _].all vokC = true
    rw [List.all_cons, List.all_cons, h7, h8]; rfl
set_option maxRecDepth 100000 in
set_option maxHeartbeats 1000000 in
theorem found_iter {M : List Asn} {bx lp : Nat} {A0 : Option Addr} {c0 : Nat} {all : List Int} {rec : Loop} (Z : List (List Int × Nat) → Asn) (hl : all.length ≤ 1000000) (hps : rec.params.size = 2)
    (S : Sat w0 w (Z [] :: objA (.loop rec) lp :: stA 45 bx [.slice A0 all.length c0] :: ownA .u8 5 A0 c0 all :: M))
    (hround : ∀ (w : World) (l : List (List Int × Nat)) (r : List Int) (m : Nat) (A : Option Addr) (c : Nat) (M : List Asn), vok (.slice A r.length c) = true → l.length ≤ 1000000 → secs l + m ≤ 1000000 → Sat w0 w (ownA .u8 5 A c r :: Z l :: objA (.loop rec) lp :: M) →
      RoundIn Fence.wide (3 - 1) Tryz.prog lp rec.fn ((rec.params.zip #[Value.slice A r.length c, Value.int .i64 m]).foldl (fun tmps (t, a) => tmps.setIfInBounds t a) rec.tmps) rec.assign rec.body w fun e w' => e = .returned (.bool true) ∧ Sat w0 w' (Z (l ++ [(r, m)]) :: objA (.loop rec) lp :: M)) :
    Calls Tryz.prog 209 #[.func (.yield lp) #[] #[], .pointer (some ⟨bx, 0, none⟩)] w fun e w' => e = .returned (.tuple #[]) ∧ ∃ v, Sat w0 w' (Z (parse (all.length + 1) all) :: objA (.loop rec) lp :: stA 45 bx [v] :: ownA .u8 5 A0 c0 all :: M) := by
  refine calls_start (N := 25) [.func (.yield lp) #[] #[], .pointer (some ⟨bx, 0, none⟩)] Tryz.func209 rfl rfl rfl rfl fun a fr => ?_
  obtain ⟨n, hn⟩ : ∃ n, n = parse (all.length + 1) all := ⟨_, rfl⟩
  rw [← hn]
  refine wp_block ?_
  refine cw_loop (fun q a w => ∃ (l : List (List Int × Nat)) (b : List Int) (A1 : Option Addr) (c1 : Nat), b.length < q ∧ l ++ parse q b = n ∧ secs l * 64 + b.length = all.length ∧ l.length ≤ secs l ∧ (∀ w, Rk .u8 w A0 all → Rk .u8 w A1 b) ∧ (b.length ≤ c1 ∧ c1 ≤ maxLen) ∧
      Fr 25 a [(0, .func (.yield lp) #[] #[]), (1, .pointer (some ⟨bx, 0, none⟩))] ∧
      Sat w0 w (Z l :: objA (.loop rec) lp :: stA 45 bx [.slice A1 b.length c1] :: ownA .u8 5 A0 c0 all :: M)) (all.length + 1)
    ⟨[], all, A0, c0, by omega, by rw [hn]; rfl, by simp [secs], Nat.zero_le _, fun _ h => h, (S.frontAt 3 rfl).own.2, fr.sub ⟨rfl, rfl, trivial⟩, S⟩ ?_ ?_
  · rintro a w ⟨l, b, A1, c1, h, -⟩
    omega
  clear fr S
  rintro q a w ⟨l, b, A1, c1, hq, hp, hs, hll, hrd, hmc, fr, S⟩
  refine wp_block ?_
  skip; (repeat (with_reducible refine wp_seq ?_)); refine wp_region_lit ?_
  refine wl_ldf orcL_ok (Sat.varAt S 2 rfl) fr rfl rfl rfl rfl rfl rfl rfl fun a fr => ?_
  have hG := get_call (hrd _ (Sat.ownAt S 3 rfl)) hmc.1 (by omega) S
  cases hg : Frames.get b with
  | none =>
    refine wl_call fr rfl rfl rfl rfl enGet hG ?_
    rintro _ w1 ⟨h1, -⟩
    obtain ⟨rfl, S⟩ := h1 hg
    refine ⟨_, rfl, rfl, fun a fr => ?_⟩
    refine wl_run orcL_ok 7 rfl fr fun a fr => ?_
    refine wpList_nil ?_; (repeat (with_reducible refine then_n ?_))
    skip; (repeat (with_reducible refine wp_seq ?_)); refine wp_region_lit ?_
    refine wl_run orcL_ok 9 rfl fr fun a fr => ?_
    refine wpList_nil ?_; (repeat (with_reducible refine then_n ?_))
    skip; (repeat (with_reducible refine wp_seq ?_))
    refine cw_t fr rfl ?_
    refine wp_ret ?_
    skip; (repeat (first | (with_reducible refine then_r ?_) | (with_reducible refine blk_r ?_) | (with_reducible refine ng_r ?_)))
    refine ret0 fr rfl ?_
    have : parse (q + 1) b = [] := by unfold parse; rw [hg]
    rw [this, List.append_nil] at hp
    rw [← hp]
    exact ⟨rfl, _, S⟩
  | some p =>
    obtain ⟨r, m⟩ := p
    obtain ⟨g1, g2, g3, g4⟩ := get_len hg
    refine wl_call fr rfl rfl rfl rfl enGet hG ?_
    rintro _ w1 ⟨-, h1⟩
    obtain ⟨A2, c2, rfl, hv, S⟩ := h1 r m hg
    refine ⟨_, rfl, hv, fun a fr => ?_⟩
    refine wl_run orcL_ok 7 rfl fr fun a fr => ?_
    refine wpList_nil ?_; (repeat (with_reducible refine then_n ?_))
    skip; (repeat (with_reducible refine wp_seq ?_)); refine reg_out (n := 3) ?_
    refine wli_run orcL_ok 6 rfl fr fun a fr => ?_
    have hlp := Sat.objAt S 2 rfl
    have hvs := fr.vok (d := 16) rfl
    have S : Sat w0 w1 (ownA .u8 5 A2 c2 r :: Z l :: objA (.loop rec) lp :: stA 45 bx [.slice A1 b.length c1] :: ownA .u8 5 A0 c0 all :: M) := S
    refine wli_yields (vs := [.slice A2 r.length c2, .int .i64 m]) fr rfl rfl rfl rfl rfl rfl rfl (run_yield (P := Tryz.prog) (args := #[.slice A2 r.length c2, .int .i64 m]) hlp (by rw [hps]; rfl)) (hround _ l r m A2 c2 _ hvs (by omega) (by omega) S) ?_
    intro w3 S a fr
    refine wli_run orcL_ok 2 rfl fr fun a fr => ?_
    refine wpListIn_nil ?_
    (repeat (with_reducible refine then_n ?_))
    skip; (repeat (with_reducible refine wp_seq ?_))
    refine cw_f fr rfl ?_
    refine wp_skip ?_
    (repeat (with_reducible refine then_n ?_))
    have hb2 := Sat.varAt S 2 rfl
    skip; (repeat (with_reducible refine wp_seq ?_)); refine wp_region_lit ?_
    refine wl_ldf orcL_ok hb2 fr rfl rfl rfl rfl rfl rfl rfl fun a fr => ?_
    refine wl_run orcL_ok 2 rfl fr fun a fr => ?_
    have fr := fr.spell (d := 23) rfl (congrArg (Value.int .i64) (show IntKind.wrap .i64 ((m : Int) * 64) = ((m * 64 : Nat) : Int) by rw [show IntKind.wrap .i64 ((m : Int) * 64) = (m : Int) * 64 from IntWalk.i64_in _ ⟨by omega, by omega⟩]; omega))
    refine wl_drop orcL_ok fr rfl rfl rfl rfl rfl rfl rfl infoB rfl ⟨by omega, by omega⟩ fun a fr => ?_
    have S : Sat w0 _ (stA 45 bx [.slice A1 b.length c1] :: Z (l ++ [(r, m)]) :: objA (.loop rec) lp :: ownA .u8 5 A0 c0 all :: M) := S.frontAt 2 rfl
    refine wl_stv orcL_ok fr rfl rfl rfl rfl rfl rfl rfl rfl S ?_
    intro w4 S
    have S : Sat w0 _ (Z (l ++ [(r, m)]) :: objA (.loop rec) lp :: stA 45 bx [.slice (dropA A1 c1 (Int.toNat ((m * 64 : Nat) : Int))) (b.drop (Int.toNat ((m * 64 : Nat) : Int))).length (c1 - Int.toNat ((m * 64 : Nat) : Int))] :: ownA .u8 5 A0 c0 all :: M) := ((S.frontAt 1 rfl).frontAt 2 rfl).frontAt 1 rfl
    rw [Int.toNat_natCast] at S
    refine wpList_nil ?_; (repeat (with_reducible refine then_n ?_))
    (repeat (first | (with_reducible refine then_n ?_) | (with_reducible refine blk_n ?_) | (with_reducible refine ng_n ?_)))
    have hgo : parse (q + 1) b = (r, m) :: parse q (b.drop (m * 64)) := by
      conv => lhs; unfold parse
      rw [hg]
    rw [hgo] at hp
    have hdl : (b.drop (m * 64)).length = b.length - m * 64 := List.length_drop
    have hse := secs_snoc l (r, m)
    exact ⟨l ++ [(r, m)], b.drop (m * 64), dropA A1 c1 (m * 64), c1 - m * 64, by omega, by rw [List.append_assoc]; exact hp, by rw [hse, hdl]; simp only; omega, by rw [hse]; simp only [List.length_append, List.length_singleton]; omega, fun w hw => (hrd w hw).drop hmc.1, ⟨by omega, by omega⟩, fr.sub ⟨rfl, rfl, trivial⟩, S⟩
theorem found_call {A : Option Addr} {n c : Nat} (hv : vok (.slice A n c) = true) (S : Sat w0 w R) :
    Calls Tryz.prog 120 #[.slice A n c] w fun e w' => ∃ bx, e = .returned (.func (.func 209) #[] #[.pointer (some ⟨bx, 0, none⟩)]) ∧ Sat w0 w' (stA 45 bx [.slice A n c] :: R) := by
  refine calls_start (N := 4) [.slice A n c] Tryz.func120 rfl rfl rfl (vok_c hv rfl) fun a fr => ?_
  skip; (repeat (with_reducible refine wp_seq ?_)); refine wp_region_lit ?_
  refine wl_boxv fr rfl rfl rfl rfl rfl rfl S ?_
  intro w1 bx S a fr
  refine wl_val (v := .nilFunc) fr rfl rfl rfl rfl rfl fun a fr => ?_
  refine wpList_nil ?_; (repeat (with_reducible refine then_n ?_))
  skip; (repeat (with_reducible refine wp_seq ?_)); refine wp_region_lit ?_
  refine wl_makef (xs := [.pointer (some ⟨bx, 0, none⟩)]) fr rfl rfl rfl rfl rfl ?_
  intro a fr
  refine wl_run orcL_ok 1 rfl fr fun a fr => ?_
  refine wpList_nil ?_; (repeat (with_reducible refine then_n ?_))
  refine wp_ret ?_
  refine ret1 fr rfl rfl ?_
  exact ⟨bx, rfl, S⟩
end
end Go.Proofs.YticnjkdaccacaaaGreatDoor.Sx
end
section
namespace Go.Proofs.YticnjkdaccacaaaGreatDoor.Sx
open Go Go.RowKit Base _root_.Go.Proofs.YticnjkdaccacaaaGreatDoor.Own Disk
def orcE : Orc := ⟨[(45, .slice 5), (9, .string), (4, .bool)], []⟩
theorem orcE_ok : orcE.Ok Tryz.prog := ⟨⟨Tryz.underlying45, Tryz.underlying9, Tryz.underlying4, trivial⟩, trivial⟩
section
variable {w w0 : World} {R : List Asn}
theorem conv_exec {N : Nat} {a : Act} {L : Env} {Df : List Deferred} (fr : FrD Df N a L) {o : Oper} {x : Operand} {A : Option Addr} {n c : Nat} {l : List Int} (ho : o.op = .convert 45 9 x) (hx : ev L x = some (.slice A n c)) (hn : n = l.length) (rk : Rk .u8 w A l) :
    (execOp a.eval o).run Tryz.prog w = .ok (.value (.string (strOfNums l))) w := by
  subst hn
  unfold execOp
  simp only [ho, (fr.ev hx).1]
  rw [Sem.run_bind, Bytes.conv_str Tryz.prog w 45 5 Tryz.underlying45 Tryz.underlying5 A l.length c l rfl rk.rd 9 Tryz.underlying9]
  rfl
theorem str_eq {a b : List Int} (ha : Bytes.Bts a) (hb : Bytes.Bts b) : ((strOfNums a).toList == (strOfNums b).toList) = decide (a = b) := by
  by_cases h : a = b
  · subst h; simp
  · rw [decide_eq_false h]
    have : ¬ (strOfNums a).toList = (strOfNums b).toList := fun e => h (Bytes.str_inj a b ha hb (by
      have e1 : (strOfNums a).toList = (strOfNums a).data.toList := ByteArray.toList_eq _
      have e2 : (strOfNums b).toList = (strOfNums b).data.toList := ByteArray.toList_eq _
      rw [e1, e2] at e
      exact ByteArray.ext (Array.toList_inj.1 e)))
    simpa using this
theorem equal_call {A B : Option Addr} {ca cb : Nat} {a b : List Int} (ra : Rk .u8 w A a) (rb : Rk .u8 w B b) (ma : a.length ≤ ca ∧ ca ≤ maxLen) (mb : b.length ≤ cb ∧ cb ≤ maxLen) :
    Calls Tryz.prog 121 #[.slice A a.length ca, .slice B b.length cb] w fun e w' => e = .returned (.bool (decide (a = b))) ∧ w' = w := by
  refine calls_start (N := 10) [.slice A a.length ca, .slice B b.length cb] Tryz.func121 rfl rfl rfl (vok_c (vok_sl ma) (vok_c (vok_sl mb) rfl)) fun a fr => ?_
  skip; (repeat (with_reducible refine wp_seq ?_)); refine wp_region_lit ?_
  refine wl_run orcE_ok 1 rfl fr fun a fr => ?_
  refine wpList_nil ?_; (repeat (with_reducible refine then_n ?_))
  skip; (repeat (with_reducible refine wp_seq ?_)); refine wp_region_lit ?_
  refine wl_run orcE_ok 1 rfl fr fun a fr => ?_
  refine wl_val fr rfl rfl rfl (conv_exec fr rfl rfl rfl ra) rfl fun a fr => ?_
  refine wl_run orcE_ok 1 rfl fr fun a fr => ?_
  refine wl_val fr rfl rfl rfl (conv_exec fr rfl rfl rfl rb) rfl fun a fr => ?_
  refine wl_run orcE_ok 2 rfl fr fun a fr => ?_
  refine wpList_nil ?_; (repeat (with_reducible refine then_n ?_))
  refine wp_ret ?_
  refine ret1 fr rfl rfl ?_
  exact ⟨congrArg (fun b => Ending.returned (.bool b)) (str_eq ra.bytes rb.bytes), rfl⟩
end
end Go.Proofs.YticnjkdaccacaaaGreatDoor.Sx
end
section
namespace Go.Proofs.YticnjkdaccacaaaGreatDoor.Sx
open Go Go.RowKit Base _root_.Go.Proofs.YticnjkdaccacaaaGreatDoor.Own Disk
section
variable {P : Program} {T : Orc} {ops : Array Oper} {Q : Exit → Act → World → Prop} {Df : List Deferred} {N : Nat} {a : Act} {w w0 : World} {L : Env} {R : List Asn}
theorem wl_recapp {o1 o2 : Oper} {rest : List Oper} {t eo ei : TypeId} {bytes d1 d2 n1 n c c1 : Nat} {x y : Operand} {A A1 : Option Addr} {l : List Int} {ls : List (List Int)} (ht : P.underlying t = some (.slice eo)) (hi : (P.info? eo).map (fun i => (i.zero.isSome, i.size)) = some (true, 1)) (hinfo : (P.info? eo).map (fun i => (i.zero.map (·.cells.size), i.size, i.bytes)) = some (some 1, 1, bytes)) (hby : bytes ≤ 64) (fr : FrD Df N a L)
    (hw1 : o1.guard = none) (ho1 : o1.op = .buildSlice t 1 #[(0, x)]) (hd1 : o1.dst = some d1) (hl1 : Nat.blt d1 N = true) (hw2 : o2.guard = none) (ho2 : o2.op = .call { callee := .builtin .append, args := #[y, .tmp d1], argTypes := #[t, t] }) (hd2 : o2.dst = some d2) (hl2 : Nat.blt d2 N = true)
    (hx : ev L x = some (.slice A1 n1 c1)) (hn1 : n1 = l.length) (hy : ∀ v, ev ((d1, v) :: L) y = some (.slice A n c)) (hn : n = ls.length) (hb : ls.length ≤ 1000000000) (hf : L.lookup d1 = none) (S : Sat w0 w (ownA .u8 ei A1 c1 l :: recsA .u8 eo ei A c ls :: R))
    (h : ∀ w' A' c', Sat w0 w' (recsA .u8 eo ei A' c' (ls ++ [l]) :: R) → ∀ a', FrD Df N a' ((d2, .slice A' (ls ++ [l]).length c') :: L) → wpList P ops Q rest a' w') : wpList P ops Q (o1 :: o2 :: rest) a w := by
  subst hn1 hn
  have hg : ∀ {o : Oper} {L : Env}, o.guard = none → wantL ops L o = some true := fun h => by unfold wantL; rw [h]
  obtain ⟨⟨rs, rfl⟩, S⟩ := (S.frontAt 1 rfl).ofEx
  have S := S.ofSep
  have hlen : (rs.map (·.2.2)).length = rs.length := List.length_map ..
  rw [hlen] at hb hy
  have hv1 := (fr.ev hx).2
  refine wl_val fr (hg hw1) hd1 hl1 (one_cell_exec fr ho1 hx rfl ht hi) (vok_sl ⟨Nat.le_refl _, by decide⟩) fun a1 fr1 => ?_
  have S := S.alloc (.cells #[.slice A1 l.length c1] eo)
  obtain ⟨A', c', w', h1, h2, h3⟩ := rws_app_exec (r := (A1, c1, l)) ht hinfo hby fr1 ho2 (hy _) rfl (by show ((d1, _) :: L).lookup d1 = _; rw [lookup_cons, if_pos rfl]) (by rw [cell_of_row _ _ _ _ _ _ (heap_alloc_new _ _)]; rfl) hv1 hb S
  refine wl_val fr1 (hg hw2) hd2 hl2 h1 h2 fun a2 fr2 => ?_
  have hl : (rs.map (·.2.2) ++ [l]).length = (rs ++ [(A1, c1, l)]).length := by simp
  rw [← hl] at fr2
  refine h w' A' c' ?_ a2 (fr2.skip2 hf)
  have h4 : Sat w0 w' (rwsA eo A' c' (rs ++ [(A1, c1, l)]) :: ownA .u8 ei A1 c1 l :: allA (rs.reverse.map fun r => ownA .u8 ei r.1 r.2.1 r.2.2) :: R) := by
    have := h3.frontAt 2 rfl
    exact this.frontAt 1 rfl
  have h5 : Sat w0 w' (ownA .u8 ei A1 c1 l :: allA (rs.reverse.map fun r => ownA .u8 ei r.1 r.2.1 r.2.2) :: rwsA eo A' c' (rs ++ [(A1, c1, l)]) :: R) := (h4.frontAt 2 rfl).frontAt 2 rfl
  have h6 := h5.toSep
  have h7 : Sat w0 w' (rwsA eo A' c' (rs ++ [(A1, c1, l)]) :: allA ((rs ++ [(A1, c1, l)]).reverse.map fun r => ownA .u8 ei r.1 r.2.1 r.2.2) :: R) := by
    rw [List.reverse_append]
    exact h6.frontAt 1 rfl
  exact Sat.toEx (f := fun q : { q : List Rw // q.map (·.2.2) = rs.map (·.2.2) ++ [l] } => sepA (rwsA eo A' c' q.1) (allA (q.1.reverse.map fun r => ownA .u8 ei r.1 r.2.1 r.2.2))) ⟨rs ++ [(A1, c1, l)], by simp⟩ h7.toSep
theorem results_cct {fn : Func} (hT : T.Ok P) {t1 t2 t3 : Nat} {y1 y2 : TypeId} {e1 e2 : TypeDesc} {p1 p2 : Addr} {v1 v2 v3 : Value} (hr : fn.results = #[.cell t1 y1, .cell t2 y2, .tmp t3]) (fr : FrD Df N a L) (h1 : L.lookup t1 = some (.pointer (some p1))) (h2 : L.lookup t2 = some (.pointer (some p2))) (h3 : L.lookup t3 = some v3)
    (u1 : T.ty.lookup y1 = some e1) (a1 : aggD e1 = false) (u2 : T.ty.lookup y2 = some e2) (a2 : aggD e2 = false) (c1 : w.cell? p1 = some v1) (c2 : w.cell? p2 = some v2) : (results fn a.tmps).run P w = .ok (.tuple #[v1, v2, v3]) w := by
  have g1 : a.tmps[t1]?.getD undef = .pointer (some p1) := by rw [(fr.get _ _ h1).1]; rfl
  have g2 : a.tmps[t2]?.getD undef = .pointer (some p2) := by rw [(fr.get _ _ h2).1]; rfl
  have g3 : a.tmps[t3]?.getD undef = v3 := by rw [(fr.get _ _ h3).1]; rfl
  simp [results, hr, g1, g2, g3, loadVar, asAddr, isAgg_run (hT.und u1), isAgg_run (hT.und u2), a1, a2, run_load, c1, c2]
end
def found (D : Dk) : List (List Int × Nat) := parse (D.seen.flatten.length + 1) D.seen.flatten
def recsD (D : Dk) : List (List Int) := (found D).map (·.1)
def atD (D : Dk) : Nat := secs (found D)
def clr (all : List Int) : Nat → Nat → Dk → Dk
  | 0, _, D => D
  | k + 1, i, D => clr all k (i + 1) (if (all.drop (i * 64)).take 64 = List.replicate 64 0 then D else D.writeR i (List.replicate 64 0))
def openD (D : Dk) : Dk := (clr D.seen.flatten (D.seen.length - atD D) (atD D) D).sync
theorem zeroLP : ∀ W, (zeroValue 65).run Tryz.prog W = .ok (.pointer none) W := fun _ => by kernel_rfl
theorem zeroRS : ∀ W, (zeroValue 66).run Tryz.prog W = .ok (.slice none 0 0) W := fun _ => by kernel_rfl
theorem litRi : (Tryz.prog.info? 45).map (fun i => (i.zero.isSome, i.size)) = some (true, 1) := by kernel_rfl
theorem litRj : (Tryz.prog.info? 45).map (fun i => (i.zero.map (·.cells.size), i.size, i.bytes)) = some (some 1, 1, 24) := by kernel_rfl
theorem flat_len {l : List (List Int)} (h : ∀ p ∈ l, Pc p) : l.flatten.length = l.length * 64 := by
  induction l with
  | nil => rfl
  | cons p l ih =>
    rw [List.flatten_cons, List.length_append, ih (fun q hq => h q (List.mem_cons_of_mem _ hq)), (h p List.mem_cons_self).1, List.length_cons]
    omega
def zA (b3 b2 g d : Nat) (l : List (List Int × Nat)) : Asn :=
  exA fun p : Option Addr × Nat => sepA (stA 66 b3 [.slice p.1 (l.map (·.1)).length p.2]) (sepA (recsA .u8 45 5 p.1 p.2 (l.map (·.1))) (sepA (stA 65 b2 [.pointer (some ⟨g, 0, none⟩)]) (logA g d (secs l))))
theorem Sat.openZ {w w0 : World} {R : List Asn} {b3 b2 g d : Nat} {l : List (List Int × Nat)} (S : Sat w0 w (zA b3 b2 g d l :: R)) : ∃ A c, Sat w0 w (stA 66 b3 [.slice A (l.map (·.1)).length c] :: recsA .u8 45 5 A c (l.map (·.1)) :: stA 65 b2 [.pointer (some ⟨g, 0, none⟩)] :: logA g d (secs l) :: R) := by
  obtain ⟨p, S⟩ := S.ofEx
  have S := (S.ofSep.frontAt 1 rfl).ofSep
  have S := (S.frontAt 1 rfl).ofSep
  have S : Sat w0 w (stA 66 b3 [.slice p.1 (l.map (·.1)).length p.2] :: recsA .u8 45 5 p.1 p.2 (l.map (·.1)) :: stA 65 b2 [.pointer (some ⟨g, 0, none⟩)] :: logA g d (secs l) :: R) := (S.frontAt 2 rfl).frontAt 3 rfl
  exact ⟨_, _, S⟩
theorem Sat.shutZ {w w0 : World} {R : List Asn} {b3 b2 g d : Nat} {l : List (List Int × Nat)} {A : Option Addr} {c : Nat} (S : Sat w0 w (stA 66 b3 [.slice A (l.map (·.1)).length c] :: recsA .u8 45 5 A c (l.map (·.1)) :: stA 65 b2 [.pointer (some ⟨g, 0, none⟩)] :: logA g d (secs l) :: R)) : Sat w0 w (zA b3 b2 g d l :: R) := by
  have S1 : Sat w0 w (stA 65 b2 [.pointer (some ⟨g, 0, none⟩)] :: logA g d (secs l) :: recsA .u8 45 5 A c (l.map (·.1)) :: stA 66 b3 [.slice A (l.map (·.1)).length c] :: R) := ((S.frontAt 1 rfl).frontAt 3 rfl).frontAt 3 rfl
  have S2 := (S1.toSep.frontAt 1 rfl).toSep
  have S3 := (S2.frontAt 1 rfl).toSep
  exact Sat.toEx (f := fun p : Option Addr × Nat => sepA (stA 66 b3 [.slice p.1 (l.map (·.1)).length p.2]) (sepA (recsA .u8 45 5 p.1 p.2 (l.map (·.1))) (sepA (stA 65 b2 [.pointer (some ⟨g, 0, none⟩)]) (logA g d (secs l))))) (A, c) S3
end Go.Proofs.YticnjkdaccacaaaGreatDoor.Sx
end
