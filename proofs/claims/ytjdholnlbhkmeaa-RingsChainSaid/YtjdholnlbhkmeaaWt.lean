/- Rings: who waits for whom, as the program gathers it. -/
import Derived.Test.YtjdholnlbhkmeaaProg
import Derived.Test.YtjdholnlbhkmeaaMr
import Derived.Test.YtjdholnlbhkmeaaPh
namespace Go.Proofs.Ytjdholnlbhkmeaa.Sx
open Go Go.RowKit Base Own

/-- For whom each one waits. -/
def wtStep (m : List (Int × List Int)) (p : Int × Int) : List (Int × List Int) :=
  if (lkM (upM m p.1 ((lkM m p.1).getD [] ++ [p.2])) p.2).isSome = true then upM m p.1 ((lkM m p.1).getD [] ++ [p.2]) else upM (upM m p.1 ((lkM m p.1).getD [] ++ [p.2])) p.2 []
def wtL (es : List (Int × Int)) : List (Int × List Int) := es.foldl wtStep []
def tgt (es : List (Int × Int)) (x : Int) : List Int := (es.filter fun p => p.1 == x).map (·.2)
def nodeOf (es : List (Int × Int)) (x : Int) : Prop := ∃ p ∈ es, p.1 = x ∨ p.2 = x
instance (es : List (Int × Int)) (x : Int) : Decidable (nodeOf es x) := by unfold nodeOf; exact List.decidableBEx _ es
theorem wtL_snoc (es : List (Int × Int)) (p : Int × Int) : wtL (es ++ [p]) = wtStep (wtL es) p := by unfold wtL; rw [List.foldl_append]; rfl
theorem tgt_snoc (es : List (Int × Int)) (p : Int × Int) (x : Int) : tgt (es ++ [p]) x = if p.1 = x then tgt es x ++ [p.2] else tgt es x := by
  unfold tgt
  rw [List.filter_append, List.map_append]
  by_cases h : p.1 = x
  · rw [if_pos h, List.filter_cons, if_pos (by simpa using h)]; rfl
  · rw [if_neg h, List.filter_cons, if_neg (by simpa using h)]; simp
theorem node_snoc (es : List (Int × Int)) (p : Int × Int) (x : Int) : nodeOf (es ++ [p]) x ↔ nodeOf es x ∨ p.1 = x ∨ p.2 = x := by
  unfold nodeOf
  constructor
  · rintro ⟨q, hq, h⟩
    rcases List.mem_append.1 hq with hq | hq
    · exact .inl ⟨q, hq, h⟩
    · rw [List.mem_singleton] at hq; subst hq; exact .inr h
  · rintro (⟨q, hq, h⟩ | h)
    · exact ⟨q, List.mem_append_left _ hq, h⟩
    · exact ⟨p, List.mem_append_right _ (List.mem_singleton_self p), h⟩
theorem tgt_none {es : List (Int × Int)} {x : Int} (h : ¬ nodeOf es x) : tgt es x = [] := by
  unfold tgt
  rw [List.filter_eq_nil_iff.2 (fun p hp => by
    have : p.1 ≠ x := fun e => h ⟨p, hp, .inl e⟩
    simpa using this)]
  rfl
theorem snoc_ind {P : List (Int × Int) → Prop} (h0 : P []) (hs : ∀ es p, P es → P (es ++ [p])) (es : List (Int × Int)) : P es := by
  have : ∀ l : List (Int × Int), P l.reverse := by
    intro l
    induction l with
    | nil => exact h0
    | cons x l ih => rw [List.reverse_cons]; exact hs _ _ ih
  have := this es.reverse
  rwa [List.reverse_reverse] at this
theorem lk_wtL (es : List (Int × Int)) : (∀ x, lkM (wtL es) x = if nodeOf es x then some (tgt es x) else none) ∧ (keysM (wtL es)).Nodup := by
  refine snoc_ind (P := fun es => (∀ x, lkM (wtL es) x = if nodeOf es x then some (tgt es x) else none) ∧ (keysM (wtL es)).Nodup) ⟨fun x => ?_, List.nodup_nil⟩ (fun es p ih => ?_) es
  · rw [if_neg (by rintro ⟨p, hp, _⟩; cases hp)]; rfl
  · obtain ⟨h1, h2⟩ := ih
    rw [wtL_snoc]
    have e0 : (lkM (wtL es) p.1).getD [] = tgt es p.1 := by
      rw [h1]
      by_cases h : nodeOf es p.1
      · rw [if_pos h]; rfl
      · rw [if_neg h, tgt_none h]; rfl
    have h3 : ∀ x, lkM (upM (wtL es) p.1 ((lkM (wtL es) p.1).getD [] ++ [p.2])) x = if nodeOf es x ∨ p.1 = x then some (tgt (es ++ [p]) x) else none := by
      intro x
      rw [lk_up, e0, tgt_snoc]
      by_cases h : p.1 = x
      · rw [if_pos h, if_pos (.inr h), if_pos h, h]
      · rw [if_neg h, if_neg h, h1]
        by_cases h4 : nodeOf es x
        · rw [if_pos h4, if_pos (.inl h4)]
        · rw [if_neg h4, if_neg (by rintro (h' | h'); exact h4 h'; exact h h')]
    unfold wtStep
    by_cases hs : (lkM (upM (wtL es) p.1 ((lkM (wtL es) p.1).getD [] ++ [p.2])) p.2).isSome = true
    · rw [if_pos hs]
      refine ⟨fun x => ?_, nodup_up h2 _ _⟩
      rw [h3]
      rw [h3] at hs
      have h5 : nodeOf es p.2 ∨ p.1 = p.2 := by
        by_cases h : nodeOf es p.2 ∨ p.1 = p.2
        · exact h
        · rw [if_neg h] at hs; cases hs
      have : (nodeOf es x ∨ p.1 = x) ↔ nodeOf (es ++ [p]) x := by
        rw [node_snoc]
        constructor
        · rintro (h | h)
          · exact .inl h
          · exact .inr (.inl h)
        · rintro (h | h | h)
          · exact .inl h
          · exact .inr h
          · rw [← h]; exact h5
      by_cases h : nodeOf es x ∨ p.1 = x
      · rw [if_pos h, if_pos (this.1 h)]
      · rw [if_neg h, if_neg (fun q => h (this.2 q))]
    · rw [if_neg hs]
      refine ⟨fun x => ?_, nodup_up (nodup_up h2 _ _) _ _⟩
      rw [lk_up, h3]
      rw [h3] at hs
      have h5 : ¬ (nodeOf es p.2 ∨ p.1 = p.2) := fun h => hs (by rw [if_pos h]; rfl)
      by_cases hx : p.2 = x
      · rw [if_pos hx, if_pos ((node_snoc _ _ _).2 (.inr (.inr hx)))]
        subst hx
        rw [tgt_snoc, if_neg (fun e => h5 (.inr e)), tgt_none (fun e => h5 (.inl e))]
      · rw [if_neg hx]
        have : (nodeOf es x ∨ p.1 = x) ↔ nodeOf (es ++ [p]) x := by
          rw [node_snoc]
          constructor
          · rintro (h | h)
            · exact .inl h
            · exact .inr (.inl h)
          · rintro (h | h | h)
            · exact .inl h
            · exact .inr h
            · exact absurd h hx
        by_cases h : nodeOf es x ∨ p.1 = x
        · rw [if_pos h, if_pos (this.1 h)]
        · rw [if_neg h, if_neg (fun q => h (this.2 q))]
theorem tgt_len (es : List (Int × Int)) (x : Int) : (tgt es x).length ≤ es.length := by unfold tgt; rw [List.length_map]; exact List.length_filter_le _ _

/-! ### The walk -/
def orcW : Orc := ⟨[(3, .int .i64), (4, .bool), (23, .int .u32), (22, .slice 23), (43, .map 23 22), (45, .map 23 3)],
  [(3, 1), (23, 1)]⟩
theorem orcW_ok : orcW.Ok Try.prog := ⟨⟨Try.underlying3, Try.underlying4, Try.underlying23, Try.underlying22, Try.underlying43, Try.underlying45, trivial⟩, ⟨by kernel_rfl, by kernel_rfl, trivial⟩⟩
theorem litW : RowTy Try.prog 22 23 .u32 := ⟨Try.underlying22, 4, by decide, by kernel_rfl⟩
theorem zeroW : ∀ W, (zeroValue 22).run Try.prog W = .ok (rwV rw0) W := fun _ => by kernel_rfl
theorem zeroI : ∀ W, (zeroValue 3).run Try.prog W = .ok (.int .i64 0) W := fun _ => by kernel_rfl
theorem rowK_pl {m : List (Int × Rw)} {es : List (Int × Int)} (h : plM m = wtL es) (x : Int) : (rowK m x).2.2 = tgt es x := by
  have h1 := lk_pl m x
  rw [h, (lk_wtL es).1] at h1
  unfold rowK
  cases hl : lkM m x with
  | none =>
    rw [hl] at h1
    split at h1
    · cases h1
    · rename_i hn; rw [tgt_none hn]; rfl
  | some v =>
    rw [hl] at h1
    split at h1
    · injection h1 with h1; rw [h1]; rfl
    · cases h1
set_option maxRecDepth 100000 in
set_option maxHeartbeats 4000000 in
theorem waits_key {w : World} (A0 A1 : Option Addr) (c0 c1 : Nat) (l0 l1 : List Int) (rk0 : Rk .u32 w A0 l0) (rk1 : Rk .u32 w A1 l1) (m0 : l0.length ≤ c0 ∧ c0 ≤ maxLen) (m1 : l1.length ≤ c1 ∧ c1 ≤ maxLen) (hl : l1.length = l0.length) (hb : l0.length ≤ 1000) :
    Calls Try.prog 21 #[.slice A0 l0.length c0, .slice A1 l1.length c1] w fun e w' => ∃ b m, e = .returned (.map (some b)) ∧ plM m = wtL (l0.zip l1) ∧ Sat w w' (mapA .u32 rwV b m :: (rowsOf .u32 23 m ++ [])) := by
  have S := Sat.start w
  refine calls_start (N := 47) [.slice A0 l0.length c0, .slice A1 l1.length c1] Try.func21 rfl rfl rfl (vok_c (vok_sl m0) (vok_c (vok_sl m1) rfl)) fun a fr => ?_
  skip; (repeat (with_reducible refine wp_seq ?_)); refine wp_region_lit ?_
  refine wl_run orcW_ok 1 rfl fr fun a fr => ?_
  refine wpList_nil ?_; (repeat (with_reducible refine then_n ?_))
  skip; (repeat (with_reducible refine wp_seq ?_)); refine wp_region_lit ?_
  refine wl_mkmap .u32 rwV fr rfl rfl rfl rfl S ?_
  intro w1 b S a fr
  refine wl_run orcW_ok 1 rfl fr fun a fr => ?_
  refine wpList_nil ?_; (repeat (with_reducible refine then_n ?_))
  skip; (repeat (with_reducible refine wp_seq ?_)); refine wp_region_lit ?_
  refine wl_run orcW_ok 3 rfl fr fun a fr => ?_
  refine wpList_nil ?_; (repeat (with_reducible refine then_n ?_))
  refine wp_block ?_
  have hz : (l0.zip l1).length = l0.length := by rw [List.length_zip, hl, Nat.min_self]
  refine cw_loop (fun q a w2 => ∃ (i : Nat) (m : List (Int × Rw)), i + q = l0.length + 1 ∧ i ≤ l0.length ∧ plM m = wtL ((l0.zip l1).take i) ∧ Fr 47 a [(0, .slice A0 l0.length c0), (1, .slice A1 l1.length c1), (5, .map (some b)), (11, .slice A0 l0.length c0), (12, .int .i64 (l0.length : Int)), (13, .int .i64 (i : Int))] ∧
      Sat w w2 (mapA .u32 rwV b m :: (rowsOf .u32 23 m ++ []))) (l0.length + 1) ⟨0, [], by omega, by omega, rfl, fr.sub ⟨rfl, rfl, rfl, rfl, rfl, rfl, trivial⟩, S⟩ ?_ ?_
  · rintro a w2 ⟨i, m, h, h', -⟩
    omega
  · rintro q a w2 ⟨i, m, hi, hi', hm, fr, S⟩
    skip; (repeat (with_reducible refine wp_seq ?_)); refine wp_region_lit ?_
    refine wl_run orcW_ok 1 rfl fr fun a fr => ?_
    refine wpList_nil ?_; (repeat (with_reducible refine then_n ?_))
    by_cases hlt : i < l0.length
    · have fr := fr.bool (d := 14) rfl (decide_eq_true (show (i : Int) < (l0.length : Int) by omega))
      skip; (repeat (with_reducible refine wp_seq ?_))
      refine cw_t fr rfl ?_
      refine wp_skip ?_
      (with_reducible refine then_n ?_)
      refine cw_cut (fun a w5 => ∃ m3, plM m3 = wtL ((l0.zip l1).take (i + 1)) ∧ Fr 47 a [(0, .slice A0 l0.length c0), (1, .slice A1 l1.length c1), (5, .map (some b)), (11, .slice A0 l0.length c0), (12, .int .i64 (l0.length : Int)), (13, .int .i64 (i : Int))] ∧ Sat w w5 (mapA .u32 rwV b m3 :: (rowsOf .u32 23 m3 ++ []))) ?_ ?_
      rotate_left
      · rintro a w5 ⟨m3, hm3, fr, S⟩
        skip; (repeat (with_reducible refine wp_seq ?_)); refine wp_region_lit ?_
        refine wl_run orcW_ok 2 rfl fr fun a fr => ?_
        refine wpList_nil ?_; (repeat (with_reducible refine then_n ?_))
        refine ⟨i + 1, m3, by omega, by omega, hm3, ?_, S⟩
        have fr := fr.spell (d := 13) rfl (congrArg (Value.int .i64) (Pl.w64s (n := i) (by omega)))
        exact fr.sub ⟨rfl, rfl, rfl, rfl, rfl, rfl, trivial⟩
      refine wp_block ?_
      skip; (repeat (with_reducible refine wp_seq ?_)); refine wp_region_lit ?_
      refine wl_run orcW_ok 1 rfl fr fun a fr => ?_
      refine wl_ld orcW_ok (Rk.at rk0 S) fr rfl rfl rfl rfl rfl rfl rfl rfl rfl rfl rfl rfl rfl rfl rfl rfl ⟨by omega, by omega⟩ fun a fr => ?_
      refine wl_run orcW_ok 2 rfl fr fun a fr => ?_
      refine wpList_nil ?_; (repeat (with_reducible refine then_n ?_))
      obtain ⟨x, hx⟩ : ∃ x, l0.getD i 0 = x := ⟨_, rfl⟩
      obtain ⟨y, hy⟩ : ∃ y, l1.getD i 0 = y := ⟨_, rfl⟩
      skip; (repeat (with_reducible refine wp_seq ?_))
      refine wp_region_ph [] [11] [] [] [.one (0, true, some 18), .one (1, true, some 19), .one (2, true, some 20), .one (3, true, some 21), .one (4, true, some 22), .one (5, true, some 23), .one (6, true, some 24), .one (7, true, some 25), .one (8, true, some 26), .one (9, false, some 27), .one (10, false, some 28)] [.one ⟨true, some 18, (Go.Op.move (Go.Operand.tmp 5)), 43, none⟩,
    .one ⟨true, some 19, (Go.Op.move (Go.Operand.tmp 7)), 23, none⟩,
    .one ⟨true, some 20, (Go.Op.move (Go.Operand.tmp 5)), 43, none⟩,
    .one ⟨true, some 21, (Go.Op.move (Go.Operand.tmp 7)), 23, none⟩,
    .one ⟨true, some 22, (Go.Op.lookup 43 (Go.Operand.tmp 20) (Go.Operand.tmp 21) false), 22, none⟩,
    .one ⟨true, some 23, (Go.Op.move (Go.Operand.tmp 1)), 22, none⟩,
    .one ⟨true, some 24, (Go.Op.move (Go.Operand.tmp 6)), 3, none⟩,
    .one ⟨true, some 25, (Go.Op.indexAddr 22 (Go.Operand.tmp 23) (Go.Operand.tmp 24)), 0, none⟩,
    .one ⟨true, some 26, (Go.Op.load 23 (Go.Operand.tmp 25)), 23, none⟩,
    .one ⟨false, some 27, (Go.Op.buildSlice 22 1 #[(0, (Go.Operand.tmp 26))]), 22, none⟩,
    .one ⟨false, some 28, (Go.Op.call { callee := (Go.Callee.builtin Go.Builtin.append), args := #[(Go.Operand.tmp 22), (Go.Operand.tmp 27)], argTypes := #[22, 22] }), 22, none⟩] [.one (11, false, none)] [.one ⟨false, none, (Go.Op.mapUpdate 43 (Go.Operand.tmp 18) (Go.Operand.tmp 19) (Go.Operand.tmp 28)), 0, none⟩] (fun v => Sat w v [mapA .u32 rwV b m]) (fun v => Sat w v []) rfl (by kernel_rfl) (by kernel_rfl) (by kernel_rfl) (by kernel_rfl) (S.drew.firsts [_]) (fun _ S => S.firsts []) ?_
      have S := S.drew
      refine sl_next ?_
      refine sl_run orcW_ok 4 rfl fr fun a fr => ?_
      refine sl_lk (f := rwV) orcW_ok rw0 zeroW rfl (fun _ S => Sat.mapAt S 0 rfl) fr rfl rfl rfl rfl rfl rfl rfl rfl rfl (S.firsts [_]) fun a fr => ?_
      refine sl_run orcW_ok 2 rfl fr fun a fr => ?_
      refine sl_ld orcW_ok (fun _ S => Rk.at rk1 S) fr rfl rfl rfl rfl rfl rfl rfl rfl rfl rfl rfl rfl rfl rfl rfl rfl rfl rfl ⟨by omega, by omega⟩ (S.firsts [_]) fun a fr => ?_
      rw [Int.toNat_natCast] at fr
      rw [hx, hy] at fr
      have fr := fr.spell (d := 22) rfl (show rwV ((lkM m x).getD rw0) = .slice (rowK m x).1 (rowK m x).2.2.length (rowK m x).2.1 from rfl)
      have S : Sat w _ (ownA .u32 23 (rowK m x).1 (rowK m x).2.1 (rowK m x).2.2 :: mapA .u32 rwV b m :: (rowsOf .u32 23 (delM m x) ++ [])) := S.take2 [mapA .u32 rwV b m] x
      refine sl_lit (xs := [y]) orcW_ok litW fr rfl rfl rfl rfl rfl ⟨rfl, rfl, trivial⟩ rfl rfl S ?_
      intro w3 A3 c3 S
      refine ⟨(S.mask [false, false]).firsts [_], fun a fr => ?_⟩
      have hk := Sat.ownAt S 0 rfl
      have S : Sat w _ (ownA .u32 23 (rowK m x).1 (rowK m x).2.1 (rowK m x).2.2 :: ownA .u32 23 A3 c3 [y] :: mapA .u32 rwV b m :: (rowsOf .u32 23 (delM m x) ++ [])) := S.frontAt 1 rfl
      have hlen : (rowK m x).2.2.length ≤ i := by
        rw [rowK_pl hm]
        refine Nat.le_trans (tgt_len _ _) ?_
        rw [List.length_take]; omega
      refine sl_app litW fr rfl rfl rfl rfl rfl rfl rfl rfl rfl hk (by simp only [List.length_cons, List.length_nil]; omega) S ?_
      intro w4 A4 c4 S
      have S := S.mask [true, false]
      refine ⟨(S.mask [false]).firsts [_], fun a fr => ?_⟩
      refine sl_next ?_
      have S : Sat w _ (mapA .u32 rwV b m :: ownA .u32 23 A4 c4 ((rowK m x).2.2 ++ [y]) :: (rowsOf .u32 23 (delM m x) ++ [])) := S.frontAt 1 rfl
      refine sl_up orcW_ok ((A4, c4, (rowK m x).2.2 ++ [y]) : Rw) fr rfl rfl rfl (.inl rfl) rfl rfl rfl rfl rfl S ?_
      intro w5 S
      refine ⟨S.firsts [], ?_⟩
      refine sl_end ?_
      (with_reducible refine then_n ?_)
      have S : Sat w _ (ownA .u32 23 A4 c4 ((rowK m x).2.2 ++ [y]) :: mapA .u32 rwV b (upM m x (A4, c4, (rowK m x).2.2 ++ [y])) :: (rowsOf .u32 23 (delM m x) ++ [])) := S.frontAt 1 rfl
      have S : Sat w _ (mapA .u32 rwV b (upM m x (A4, c4, (rowK m x).2.2 ++ [y])) :: (rowsOf .u32 23 (upM m x (A4, c4, (rowK m x).2.2 ++ [y])) ++ [])) := Sat.put2 [mapA .u32 rwV b (upM m x (A4, c4, (rowK m x).2.2 ++ [y]))] (r := (A4, c4, (rowK m x).2.2 ++ [y])) x S
      have hm2 : plM (upM m x (A4, c4, (rowK m x).2.2 ++ [y])) = upM (wtL ((l0.zip l1).take i)) x ((lkM (wtL ((l0.zip l1).take i)) x).getD [] ++ [y]) := by
        rw [up_pl, hm, rowK_pl hm]
        have : (lkM (wtL ((l0.zip l1).take i)) x).getD [] = tgt ((l0.zip l1).take i) x := by
          rw [(lk_wtL _).1]
          split
          · rfl
          · rename_i hn; rw [tgt_none hn]; rfl
        rw [this]
      generalize upM m x (A4, c4, (rowK m x).2.2 ++ [y]) = m2 at S hm2
      skip; (repeat (with_reducible refine wp_seq ?_)); refine wp_region_lit ?_
      refine wl_run orcW_ok 3 rfl fr fun a fr => ?_
      refine wl_ld orcW_ok (Rk.at rk1 S) fr rfl rfl rfl rfl rfl rfl rfl rfl rfl rfl rfl rfl rfl rfl rfl rfl ⟨by omega, by omega⟩ fun a fr => ?_
      rw [Int.toNat_natCast, hy] at fr
      refine wl_lk2 (f := rwV) orcW_ok rw0 zeroW rfl (fun _ => rfl) (Sat.mapAt S 0 rfl) fr rfl rfl rfl rfl rfl rfl rfl rfl fun a fr => ?_
      refine wl_run orcW_ok 5 rfl fr fun a fr => ?_
      refine wpList_nil ?_; (repeat (with_reducible refine then_n ?_))
      skip; (repeat (with_reducible refine wp_seq ?_)); refine wp_region_lit ?_
      refine wl_run orcW_ok 2 rfl fr fun a fr => ?_
      refine wpList_nil ?_; (repeat (with_reducible refine then_n ?_))
      have hzi : (l0.zip l1).take (i + 1) = (l0.zip l1).take i ++ [(x, y)] := by
        rw [List.take_succ_eq_append_getElem (by omega), List.getElem_zip]
        rw [List.getD_eq_getElem?_getD, List.getElem?_eq_getElem hlt] at hx
        rw [List.getD_eq_getElem?_getD, List.getElem?_eq_getElem (by omega)] at hy
        simp only [Option.getD_some] at hx hy
        rw [hx, hy]
      have hw : wtL ((l0.zip l1).take (i + 1)) = if (lkM m2 y).isSome = true then plM m2 else upM (plM m2) y [] := by
        rw [hzi, wtL_snoc]
        unfold wtStep
        simp only
        rw [← hm2, lk_pl]
        cases lkM m2 y <;> rfl
      cases hs : (lkM m2 y).isSome with
      | true =>
        rw [hs, if_pos rfl] at hw
        have fr := fr.bool (d := 39) rfl (by rw [hs])
        refine cw_f fr rfl ?_
        refine wp_skip ?_
        refine blk_n ?_
        refine then_n ?_
        exact ⟨m2, hw.symm, fr.sub ⟨rfl, rfl, rfl, rfl, rfl, rfl, trivial⟩, S⟩
      | false =>
        rw [hs, if_neg (by decide)] at hw
        have fr := fr.bool (d := 39) rfl (by rw [hs])
        refine cw_t fr rfl ?_
        skip; (repeat (with_reducible refine wp_seq ?_)); refine wp_region_lit ?_
        refine wl_run orcW_ok 3 rfl fr fun a fr => ?_
        refine wl_ld orcW_ok (Rk.at rk1 S) fr rfl rfl rfl rfl rfl rfl rfl rfl rfl rfl rfl rfl rfl rfl rfl rfl ⟨by omega, by omega⟩ fun a fr => ?_
        rw [Int.toNat_natCast, hy] at fr
        refine wl_up orcW_ok rw0 fr rfl rfl (.inl rfl) rfl rfl rfl rfl rfl S ?_
        intro w6 S
        refine wpList_nil ?_
        refine blk_n ?_
        refine then_n ?_
        have hn : lkM m2 y = none := by cases h : lkM m2 y with
          | none => rfl
          | some v => rw [h] at hs; cases hs
        refine ⟨upM m2 y rw0, by rw [up_pl, hw]; rfl, fr.sub ⟨rfl, rfl, rfl, rfl, rfl, rfl, trivial⟩, ?_⟩
        have S : Sat w w6 (ownA .u32 23 none 0 [] :: mapA .u32 rwV b (upM m2 y rw0) :: (rowsOf .u32 23 (delM m2 y) ++ [])) := by
          rw [del_none hn]; exact S.nilRow .u32 23
        exact Sat.put2 [mapA .u32 rwV b (upM m2 y rw0)] (r := rw0) y S
    · obtain rfl : i = l0.length := by omega
      have fr := fr.bool (d := 14) rfl (decide_eq_false (by omega))
      skip; (repeat (with_reducible refine wp_seq ?_))
      refine cw_f fr rfl ?_
      refine wp_exit ?_
      refine then_e ?_
      refine then_e ?_
      refine blk_y ?_
      (repeat (with_reducible refine then_n ?_))
      skip; (repeat (with_reducible refine wp_seq ?_)); refine wp_region_lit ?_
      refine wl_run orcW_ok 2 rfl fr fun a fr => ?_
      refine wpList_nil ?_; (repeat (with_reducible refine then_n ?_))
      refine wp_ret ?_
      refine ret1 fr rfl rfl ?_
      rw [List.take_of_length_le (by omega)] at hm
      exact ⟨b, m, rfl, hm, S⟩
theorem waits_walk {w0 w : World} {R : List Asn} (A0 A1 : Option Addr) (c0 c1 : Nat) (l0 l1 : List Int) (rk0 : Rk .u32 w A0 l0) (rk1 : Rk .u32 w A1 l1) (m0 : l0.length ≤ c0 ∧ c0 ≤ maxLen) (m1 : l1.length ≤ c1 ∧ c1 ≤ maxLen) (hl : l1.length = l0.length) (hb : l0.length ≤ 1000) (S : Sat w0 w R) :
    Calls Try.prog 21 #[.slice A0 l0.length c0, .slice A1 l1.length c1] w fun e w' => ∃ b m, e = .returned (.map (some b)) ∧ plM m = wtL (l0.zip l1) ∧ Sat w0 w' (mapA .u32 rwV b m :: (rowsOf .u32 23 m ++ R)) :=
  (waits_key A0 A1 c0 c1 l0 l1 rk0 rk1 m0 m1 hl hb).mono fun e w' ⟨b, m, h1, h2, h3⟩ => ⟨b, m, h1, h2, by
    rw [List.append_nil] at h3
    exact S.join h3 fun A hA F => by
      rcases List.mem_cons.1 hA with rfl | hA
      · exact mapA_lower S.below.size F
      · obtain ⟨p, -, rfl⟩ := List.mem_map.1 hA
        exact own_lower S.below.size F⟩
end Go.Proofs.Ytjdholnlbhkmeaa.Sx
