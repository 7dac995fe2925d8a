/- rings.Closes walked: it tells who comes to whom. -/
import Derived.Test.YtjdholnlbhkmeaaRc
namespace Go.Proofs.Ytjdholnlbhkmeaa.Sx
open Go Go.RowKit Base Own

theorem enWaits : Enters Try.prog 21 := fun _ _ => by kernel_rfl
/-- So many of those that are waited for have not been seen. -/
def unseen (es : List (Int × Int)) (sm : List (Int × Int)) : Nat := (es.filter fun p => (lkM sm p.2).isNone).length
theorem unseen_le {es sm sm' : List (Int × Int)} (h : ∀ x, lkM sm x ≠ none → lkM sm' x ≠ none) : unseen es sm' ≤ unseen es sm := by
  unfold unseen
  induction es with
  | nil => exact Nat.le_refl _
  | cons p r ih =>
    rw [List.filter_cons, List.filter_cons]
    cases hp : lkM sm p.2 with
    | some v =>
      have h1 := h p.2 (by rw [hp]; simp)
      cases hp' : lkM sm' p.2 with
      | none => exact absurd hp' h1
      | some v' => simpa using ih
    | none =>
      rw [if_pos (show (none : Option Int).isNone = true from rfl)]
      split
      · simp only [List.length_cons]; omega
      · simp only [List.length_cons]; omega
theorem unseen_lt {es sm sm' : List (Int × Int)} (h : ∀ x, lkM sm x ≠ none → lkM sm' x ≠ none) {p : Int × Int} (hp : p ∈ es) (h1 : lkM sm p.2 = none) (h2 : lkM sm' p.2 ≠ none) : unseen es sm' < unseen es sm := by
  induction es with
  | nil => cases hp
  | cons q r ih =>
    unfold unseen at ih ⊢
    rw [List.filter_cons, List.filter_cons]
    rcases List.mem_cons.1 hp with rfl | hp
    · have h3 : ¬ (lkM sm' p.2).isNone = true := by cases hq : lkM sm' p.2 with
        | none => exact absurd hq h2
        | some v => simp
      rw [if_neg h3, if_pos (by rw [h1]; rfl)]
      have := unseen_le (es := r) h
      unfold unseen at this
      simp only [List.length_cons]; omega
    · have := ih hp
      cases hq : lkM sm q.2 with
      | some v =>
        have h3 : ¬ (lkM sm' q.2).isNone = true := by cases hq' : lkM sm' q.2 with
          | none => exact absurd hq' (h q.2 (by rw [hq]; simp))
          | some v => simp
        rw [if_neg h3, if_neg (by simp)]; exact this
      | none =>
        rw [if_pos (show (none : Option Int).isNone = true from rfl)]
        split
        · simp only [List.length_cons]; omega
        · simp only [List.length_cons]; omega
/-- Between two steps of the search. -/
structure Srch (es : List (Int × Int)) (whom : Int) (P : Int → Prop) (sm : List (Int × Int)) (st : List Int) : Prop where
  ones : ∀ x v, lkM sm x = some v → v = 1
  begun : lkM sm whom = some 1
  come : ∀ x, lkM sm x = some 1 → Cms es whom x
  stack : ∀ x ∈ st, lkM sm x = some 1
  done : ∀ x, lkM sm x = some 1 → x ∈ st ∨ P x ∨ (∀ y, (x, y) ∈ es → lkM sm y = some 1)
  size : st.length + unseen es sm ≤ es.length + 1
theorem Srch.start (es : List (Int × Int)) (whom : Int) : Srch es whom (fun _ => False) (upM [] whom 1) [whom] := by
  have h : ∀ x, lkM (upM ([] : List (Int × Int)) whom 1) x = if whom = x then some 1 else none := fun x => by rw [lk_up]; rfl
  refine ⟨fun x v hv => ?_, by rw [h, if_pos rfl], fun x hx => ?_, fun x hx => ?_, fun x hx => ?_, ?_⟩
  · rw [h] at hv
    split at hv
    · injection hv with hv; exact hv.symm
    · cases hv
  · rw [h] at hx
    split at hx
    · rename_i e; subst e; exact .here
    · cases hx
  · rw [List.mem_singleton] at hx; subst hx; rw [h, if_pos rfl]
  · rw [h] at hx
    split at hx
    · rename_i e; subst e; exact .inl (List.mem_singleton_self _)
    · cases hx
  · have : unseen es (upM [] whom 1) ≤ es.length := List.length_filter_le _ _
    simp only [List.length_cons, List.length_nil]; omega
theorem Srch.pop {es : List (Int × Int)} {whom : Int} {sm : List (Int × Int)} {st : List Int} {x : Int} (h : Srch es whom (fun _ => False) sm (st ++ [x])) : Srch es whom (fun z => z = x) sm st := by
  refine ⟨h.ones, h.begun, h.come, fun z hz => h.stack z (List.mem_append_left _ hz), fun z hz => ?_, ?_⟩
  · rcases h.done z hz with h1 | h1 | h1
    · rcases List.mem_append.1 h1 with h1 | h1
      · exact .inl h1
      · rw [List.mem_singleton] at h1; exact .inr (.inl h1)
    · exact h1.elim
    · exact .inr (.inr h1)
  · have := h.size
    rw [List.length_append] at this
    simp only [List.length_cons, List.length_nil] at this
    omega
theorem Srch.push {es : List (Int × Int)} {whom : Int} {P : Int → Prop} {sm : List (Int × Int)} {st : List Int} {x y : Int} (h : Srch es whom P sm st) (hx : lkM sm x = some 1) (he : (x, y) ∈ es) (hn : lkM sm y = none) : Srch es whom P (upM sm y 1) (st ++ [y]) := by
  have hl : ∀ z, lkM (upM sm y 1) z = if y = z then some 1 else lkM sm z := fun z => lk_up sm y z 1
  have hk : ∀ z, lkM sm z = some 1 → lkM (upM sm y 1) z = some 1 := fun z hz => by rw [hl]; split; rfl; exact hz
  refine ⟨fun z v hv => ?_, hk _ h.begun, fun z hz => ?_, fun z hz => ?_, fun z hz => ?_, ?_⟩
  · rw [hl] at hv
    split at hv
    · injection hv with hv; exact hv.symm
    · exact h.ones z v hv
  · rw [hl] at hz
    split at hz
    · rename_i e; subst e; exact .step (h.come x hx) he
    · exact h.come z hz
  · rcases List.mem_append.1 hz with hz | hz
    · exact hk _ (h.stack z hz)
    · rw [List.mem_singleton] at hz; subst hz; rw [hl, if_pos rfl]
  · rw [hl] at hz
    by_cases e : y = z
    · exact .inl (List.mem_append_right _ (by rw [e]; exact List.mem_singleton_self z))
    · rw [if_neg e] at hz
      rcases h.done z hz with h1 | h1 | h1
      · exact .inl (List.mem_append_left _ h1)
      · exact .inr (.inl h1)
      · exact .inr (.inr fun y' hy' => hk _ (h1 y' hy'))
  · have h1 := h.size
    have h2 := unseen_lt (es := es) (sm := sm) (sm' := upM sm y 1) (fun z hz e => by
      rw [hl] at e
      split at e
      · cases e
      · exact hz e) he hn (by rw [hl, if_pos rfl]; simp)
    rw [List.length_append]
    simp only [List.length_cons, List.length_nil]; omega
theorem Srch.less {es sm : List (Int × Int)} {x y : Int} (he : (x, y) ∈ es) (hn : lkM sm y = none) : unseen es (upM sm y 1) + 1 ≤ unseen es sm := by
  have hl : ∀ z, lkM (upM sm y 1) z = if y = z then some 1 else lkM sm z := fun z => lk_up sm y z 1
  exact unseen_lt (es := es) (sm := sm) (sm' := upM sm y 1) (fun z hz e => by
    rw [hl] at e
    split at e
    · cases e
    · exact hz e) he hn (by rw [hl, if_pos rfl]; simp)
theorem Srch.ends {es : List (Int × Int)} {whom x : Int} {sm : List (Int × Int)} {st : List Int} (h : Srch es whom (fun z => z = x) sm st) (hc : ∀ y, (x, y) ∈ es → lkM sm y = some 1) : Srch es whom (fun _ => False) sm st :=
  ⟨h.ones, h.begun, h.come, h.stack, fun z hz => by
    rcases h.done z hz with h1 | h1 | h1
    · exact .inl h1
    · subst h1; exact .inr (.inr hc)
    · exact .inr (.inr h1), h.size⟩
theorem Srch.tells {es : List (Int × Int)} {whom who : Int} {sm : List (Int × Int)} {st : List Int} {P : Int → Prop} (h : Srch es whom P sm st) (hs : (st = [] ∧ ∀ x, ¬ P x) ∨ lkM sm who = some 1) : lkM sm who = some 1 ↔ Cms es whom who := by
  refine ⟨h.come who, fun hc => ?_⟩
  rcases hs with ⟨rfl, hP⟩ | hs
  · induction hc with
    | here => exact h.begun
    | step _ hm ih =>
      rcases h.done _ ih with h1 | h1 | h1
      · cases h1
      · exact absurd h1 (hP _)
      · exact h1 _ hm
  · exact hs
set_option maxRecDepth 100000 in
set_option maxHeartbeats 4000000 in
theorem closes_key {w : World} (A0 A1 : Option Addr) (c0 c1 : Nat) (l0 l1 : List Int) (who whom : Int) (rk0 : Rk .u32 w A0 l0) (rk1 : Rk .u32 w A1 l1) (m0 : l0.length ≤ c0 ∧ c0 ≤ maxLen) (m1 : l1.length ≤ c1 ∧ c1 ≤ maxLen) (v2 : (Lit.int .u32 who).wf = true) (v3 : (Lit.int .u32 whom).wf = true) (hb : l0.length ≤ 1000) :
    Calls Try.prog 14 #[.slice A0 l0.length c0, .slice A1 l1.length c1, .int .u32 who, .int .u32 whom] w fun e w' => e = .returned (.tuple #[.bool (if l0.length = l1.length then comesB (l0.zip l1) whom who else false), .int .i64 (if l0.length = l1.length then 0 else 1)]) ∧ Below w.heap.size w w' := by
  have S := Sat.start w
  refine calls_start (N := 71) [.slice A0 l0.length c0, .slice A1 l1.length c1, .int .u32 who, .int .u32 whom] Try.func14 rfl rfl rfl (vok_c (vok_sl m0) (vok_c (vok_sl m1) (vok_c v2 (vok_c v3 rfl)))) fun a fr => ?_
  skip; (repeat (with_reducible refine wp_seq ?_)); refine wp_region_lit ?_
  refine wl_run orcW_ok 2 rfl fr fun a fr => ?_
  refine wpList_nil ?_; (repeat (with_reducible refine then_n ?_))
  refine cw_scope ?_
  skip; (repeat (with_reducible refine wp_seq ?_)); refine wp_region_lit ?_
  refine wl_run orcW_ok 5 rfl fr fun a fr => ?_
  refine wpList_nil ?_; (repeat (with_reducible refine then_n ?_))
  by_cases hl : l0.length = l1.length
  rotate_left
  · have fr := fr.bool (d := 20) rfl (show (((l0.length : Int) != (l1.length : Int)) = true) by simp; omega)
    skip; (repeat (with_reducible refine wp_seq ?_))
    refine cw_t fr rfl ?_
    skip; (repeat (with_reducible refine wp_seq ?_)); refine wp_region_lit ?_
    refine wl_run orcW_ok 2 rfl fr fun a fr => ?_
    refine wpList_nil ?_; (repeat (with_reducible refine then_n ?_))
    refine wp_ret ?_
    skip; (repeat (first | (with_reducible refine then_r ?_) | (with_reducible refine blk_r ?_) | (with_reducible refine ng_r ?_)))
    refine ret2 fr rfl rfl rfl ?_
    rw [if_neg hl, if_neg hl]
    exact ⟨rfl, S.below⟩
  · rw [if_pos hl, if_pos hl]
    have fr := fr.bool (d := 20) rfl (show (((l0.length : Int) != (l1.length : Int)) = false) by simp; omega)
    skip; (repeat (with_reducible refine wp_seq ?_))
    refine cw_f fr rfl ?_
    refine wp_skip ?_
    (repeat (with_reducible refine then_n ?_))
    skip; (repeat (with_reducible refine wp_seq ?_)); refine wp_region_lit ?_
    refine wl_run orcW_ok 2 rfl fr fun a fr => ?_
    refine wl_call fr rfl rfl rfl rfl enWaits (waits_walk A0 A1 c0 c1 l0 l1 (rk0.at S) (rk1.at S) m0 m1 hl.symm hb S) ?_
    rintro _ w1 ⟨b, m, rfl, hm, S⟩
    refine ⟨_, rfl, rfl, fun a fr => ?_⟩
    refine wl_run orcW_ok 1 rfl fr fun a fr => ?_
    refine wpList_nil ?_; (repeat (with_reducible refine then_n ?_))
    skip; (repeat (with_reducible refine wp_seq ?_)); refine wp_region_lit ?_
    refine wl_mkmap .u32 (Value.int .i64) fr rfl rfl rfl rfl S ?_
    intro w2 g S a fr
    refine wl_run orcW_ok 1 rfl fr fun a fr => ?_
    refine wl_up orcW_ok (1 : Int) fr rfl rfl (.inr rfl) rfl rfl rfl rfl rfl S ?_
    intro w3 S
    refine wl_run orcW_ok 2 rfl fr fun a fr => ?_
    refine wpList_nil ?_; (repeat (with_reducible refine then_n ?_))
    skip; (repeat (with_reducible refine wp_seq ?_)); refine wp_region_lit ?_
    refine wl_run orcW_ok 1 rfl fr fun a fr => ?_
    refine wl_lit (xs := [whom]) orcW_ok litW fr rfl rfl rfl rfl ⟨rfl, rfl, trivial⟩ rfl rfl S ?_
    intro w4 A4 c4 S a fr
    refine wl_run orcW_ok 1 rfl fr fun a fr => ?_
    refine wpList_nil ?_; (repeat (with_reducible refine then_n ?_))
    skip; (repeat (with_reducible refine wp_seq ?_))
    refine wp_label ?_
    (repeat (with_reducible refine then_n ?_))
    have hz : (l0.zip l1).length = l0.length := by rw [List.length_zip, hl, Nat.min_self]
    generalize hes : l0.zip l1 = es at hm hz ⊢
    refine cw_cut (fun a w5 => ∃ sm, (lkM sm who = some 1 ↔ Cms es whom who) ∧ (∀ x v, lkM sm x = some v → v = 1) ∧ Fr 71 a [(2, .int .u32 who), (11, .map (some g))] ∧ Sat w w5 (mapA .u32 (Value.int .i64) g sm :: [])) ?_ ?_
    rotate_left
    · rintro a w5 ⟨sm, h1, h2, fr, S⟩
      skip; (repeat (with_reducible refine wp_seq ?_)); refine wp_region_lit ?_
      refine wl_run orcW_ok 2 rfl fr fun a fr => ?_
      refine wl_lk (f := Value.int .i64) orcW_ok (0 : Int) zeroI rfl (Sat.mapAt S 0 rfl) fr rfl rfl rfl rfl rfl rfl rfl rfl fun a fr => ?_
      refine wl_run orcW_ok 3 rfl fr fun a fr => ?_
      refine wpList_nil ?_; (repeat (with_reducible refine then_n ?_))
      refine wp_ret ?_
      skip; (repeat (first | (with_reducible refine then_r ?_) | (with_reducible refine blk_r ?_) | (with_reducible refine ng_r ?_)))
      refine ret2 fr rfl rfl rfl ?_
      have : decide ((lkM sm who).getD 0 > 0) = comesB es whom who := by
        cases hk : lkM sm who with
        | none =>
          have : comesB es whom who = false := by
            cases hc : comesB es whom who with
            | false => rfl
            | true => have := h1.2 ((comes_iff _ _ _).1 hc); rw [hk] at this; cases this
          rw [this]; rfl
        | some v =>
          have := h2 _ _ hk
          subst this
          rw [(comes_iff es whom who).2 (h1.1 hk)]; rfl
      rw [this]
      exact ⟨rfl, S.below⟩
    refine wp_block ?_
    refine cw_loop (fun q a w5 => ∃ sm st A c, st.length + unseen es sm + 1 ≤ q ∧ Srch es whom (fun _ => False) sm st ∧ Fr 71 a [(2, .int .u32 who), (10, .map (some b)), (11, .map (some g)), (12, .slice A st.length c)] ∧ Sat w w5 (ownA .u32 23 A c st :: mapA .u32 (Value.int .i64) g sm :: mapA .u32 rwV b m :: (rowsOf .u32 23 m ++ []))) ([whom].length + unseen es (upM [] whom 1) + 1) ⟨_, [whom], A4, c4, Nat.le_refl _, Srch.start es whom, fr.sub ⟨rfl, rfl, rfl, rfl, trivial⟩, S⟩ ?_ ?_
    · rintro a w5 ⟨sm, st, A, c, h, -⟩
      omega
    rintro q a w5 ⟨sm, st, A, c, hq, hs, fr, S⟩
    have hsz := hs.size
    skip; (repeat (with_reducible refine wp_seq ?_)); refine wp_region_lit ?_
    refine wl_run orcW_ok 3 rfl fr fun a fr => ?_
    refine wpList_nil ?_; (repeat (with_reducible refine then_n ?_))
    rcases List.eq_nil_or_concat st with rfl | ⟨st, x, rfl⟩
    · have fr := fr.bool (d := 31) rfl (by rfl)
      skip; (repeat (with_reducible refine wp_seq ?_))
      refine cw_f fr rfl ?_
      refine wp_exit ?_
      skip; (repeat (first | (with_reducible refine then_e ?_) | (with_reducible refine ng_e ?_) | (with_reducible refine blk_e (by decide) ?_))); (with_reducible refine blk_y ?_); (repeat (with_reducible refine then_n ?_))
      exact ⟨sm, hs.tells (.inl ⟨rfl, fun _ => id⟩), hs.ones, fr.sub ⟨rfl, rfl, trivial⟩, (S.mask [false]).firsts [_]⟩
    rw [List.concat_eq_append] at hs S fr hsz hq
    have hlen : (st ++ [x]).length = st.length + 1 := by simp
    have fr := fr.bool (d := 31) rfl (decide_eq_true (show (((st ++ [x]).length : Nat) : Int) > 0 by omega))
    skip; (repeat (with_reducible refine wp_seq ?_))
    refine cw_t fr rfl ?_
    refine wp_skip ?_
    (repeat (with_reducible refine then_n ?_))
    refine wp_block ?_
    skip; (repeat (with_reducible refine wp_seq ?_)); refine wp_region_lit ?_
    refine wl_run orcW_ok 4 rfl fr fun a fr => ?_
    have hw1 : IntKind.wrap .i64 ((((st ++ [x]).length : Nat) : Int) - 1) = (st.length : Int) := by rw [Pl.w64 (by omega) (by omega)]; omega
    have fr := fr.spell (d := 35) rfl (congrArg (Value.int .i64) hw1)
    refine wl_ld orcW_ok (Sat.ownAt S 0 rfl) fr rfl rfl rfl rfl rfl rfl rfl rfl rfl rfl rfl rfl rfl rfl rfl rfl ⟨by omega, by omega⟩ fun a fr => ?_
    have hgx : (st ++ [x]).getD (Int.toNat (st.length : Int)) 0 = x := by rw [Int.toNat_natCast, List.getD_eq_getElem?_getD, List.getElem?_append_right (Nat.le_refl _)]; simp
    rw [hgx] at fr
    refine wl_run orcW_ok 1 rfl fr fun a fr => ?_
    refine wpList_nil ?_; (repeat (with_reducible refine then_n ?_))
    skip; (repeat (with_reducible refine wp_seq ?_)); refine wp_region_lit ?_
    refine wl_run orcW_ok 4 rfl fr fun a fr => ?_
    have fr := fr.spell (d := 41) rfl (congrArg (Value.int .i64) hw1)
    refine wl_otake orcW_ok fr rfl rfl rfl rfl rfl rfl rfl rfl rfl ⟨by omega, by omega⟩ S ?_
    intro S a fr
    have htk : (st ++ [x]).take (Int.toNat (st.length : Int)) = st := by rw [Int.toNat_natCast, List.take_left]
    rw [htk] at S fr
    refine wl_run orcW_ok 1 rfl fr fun a fr => ?_
    refine wpList_nil ?_; (repeat (with_reducible refine then_n ?_))
    skip; (repeat (with_reducible refine wp_seq ?_)); refine wp_region_lit ?_
    refine wl_run orcW_ok 3 rfl fr fun a fr => ?_
    refine wpList_nil ?_; (repeat (with_reducible refine then_n ?_))
    by_cases hxw : x = who
    · have fr := fr.bool (d := 45) rfl (show (x == who) = true by rw [hxw]; simp)
      skip; (repeat (with_reducible refine wp_seq ?_))
      refine cw_t fr rfl ?_
      refine wp_exit ?_
      skip; (repeat (first | (with_reducible refine then_e ?_) | (with_reducible refine ng_e ?_) | (with_reducible refine blk_e (by decide) ?_))); (with_reducible refine blk_y ?_); (repeat (with_reducible refine then_n ?_))
      have h1 := hs.stack x (List.mem_append_right _ (List.mem_singleton_self x))
      exact ⟨sm, hs.tells (.inr (by rw [← hxw]; exact h1)), hs.ones, fr.sub ⟨rfl, rfl, trivial⟩, (S.mask [false]).firsts [_]⟩
    have fr := fr.bool (d := 45) rfl (show (x == who) = false by simpa using hxw)
    skip; (repeat (with_reducible refine wp_seq ?_))
    refine cw_f fr rfl ?_
    refine wp_skip ?_
    (repeat (with_reducible refine then_n ?_))
    have hx1 := hs.stack x (List.mem_append_right _ (List.mem_singleton_self x))
    have hs := hs.pop
    have hrow := rowK_pl (m := m) (es := es) hm x
    skip; (repeat (with_reducible refine wp_seq ?_)); refine wp_region_lit ?_
    refine wl_run orcW_ok 2 rfl fr fun a fr => ?_
    refine wl_lk (f := rwV) orcW_ok rw0 zeroW rfl (Sat.mapAt S 2 rfl) fr rfl rfl rfl rfl rfl rfl rfl rfl fun a fr => ?_
    have fr := fr.spell (d := 48) rfl (show rwV ((lkM m x).getD rw0) = .slice (rowK m x).1 (rowK m x).2.2.length (rowK m x).2.1 from rfl)
    refine wl_run orcW_ok 2 rfl fr fun a fr => ?_
    refine wpList_nil ?_; (repeat (with_reducible refine then_n ?_))
    refine wp_block ?_
    have hq' : st.length + unseen es sm + 1 ≤ q := by omega
    have htl : (rowK m x).2.2.length ≤ es.length := by rw [hrow]; exact tgt_len es x
    have hel : es.length ≤ 1000 := by omega
    refine cw_loop (fun q2 a w6 => ∃ (j : Nat) (sm st : List _) (A : Option Addr) (c : Nat), j + q2 = (rowK m x).2.2.length + 1 ∧ j ≤ (rowK m x).2.2.length ∧ st.length + unseen es sm + 1 ≤ q ∧ Srch es whom (fun z => z = x) sm st ∧ lkM sm x = some 1 ∧ (∀ y ∈ (rowK m x).2.2.take j, lkM sm y = some 1) ∧
      Fr 71 a [(2, .int .u32 who), (10, .map (some b)), (11, .map (some g)), (12, .slice A st.length c), (48, .slice (rowK m x).1 (rowK m x).2.2.length (rowK m x).2.1), (49, .int .i64 ((rowK m x).2.2.length : Int)), (50, .int .i64 (j : Int))] ∧
      Sat w w6 (ownA .u32 23 A c st :: mapA .u32 (Value.int .i64) g sm :: mapA .u32 rwV b m :: (rowsOf .u32 23 m ++ []))) ((rowK m x).2.2.length + 1) ⟨0, sm, st, A, c, by omega, by omega, hq', hs, hx1, (by simp), fr.sub ⟨rfl, rfl, rfl, rfl, rfl, rfl, rfl, trivial⟩, S⟩ ?_ ?_
    · rintro a w6 ⟨j, sm, st, A, c, h, h', -⟩
      omega
    clear fr S hx1 hs hq hq' hsz hlen hw1 hgx htk
    clear fr
    rintro q2 a w6 ⟨j, sm, st, A, c, hj, hj', hq, hs, hx1, hseen, fr, S⟩
    have hsz := hs.size
    skip; (repeat (with_reducible refine wp_seq ?_)); refine wp_region_lit ?_
    refine wl_run orcW_ok 1 rfl fr fun a fr => ?_
    refine wpList_nil ?_; (repeat (with_reducible refine then_n ?_))
    by_cases hlt : j < (rowK m x).2.2.length
    rotate_left
    · obtain rfl : j = (rowK m x).2.2.length := by omega
      have fr := fr.bool (d := 51) rfl (decide_eq_false (by omega))
      skip; (repeat (with_reducible refine wp_seq ?_))
      refine cw_f fr rfl ?_
      refine wp_exit ?_
      skip; (repeat (first | (with_reducible refine then_e ?_) | (with_reducible refine ng_e ?_) | (with_reducible refine blk_e (by decide) ?_))); (with_reducible refine blk_y ?_); (repeat (with_reducible refine then_n ?_))
      refine blk_n ?_
      refine then_n ?_
      refine ⟨sm, st, A, c, hq, hs.ends fun y hy => hseen y ?_, fr.sub ⟨rfl, rfl, rfl, rfl, trivial⟩, S⟩
      rw [List.take_length, hrow]
      exact mem_tgt.2 hy
    have fr := fr.bool (d := 51) rfl (decide_eq_true (show (j : Int) < ((rowK m x).2.2.length : Int) by omega))
    skip; (repeat (with_reducible refine wp_seq ?_))
    refine cw_t fr rfl ?_
    refine wp_skip ?_
    (with_reducible refine then_n ?_)
    obtain ⟨y, hy⟩ : ∃ y, (rowK m x).2.2.getD j 0 = y := ⟨_, rfl⟩
    have hye : (rowK m x).2.2.take (j + 1) = (rowK m x).2.2.take j ++ [y] := by
      rw [List.take_succ_eq_append_getElem hlt, ← hy, List.getD_eq_getElem?_getD, List.getElem?_eq_getElem hlt]; rfl
    have hym : (x, y) ∈ es := mem_tgt.1 (by
      rw [← hrow, ← hy, List.getD_eq_getElem?_getD, List.getElem?_eq_getElem hlt]
      exact List.getElem_mem hlt)
    refine cw_cut (fun a w7 => ∃ (sm st : List _) (A : Option Addr) (c : Nat), st.length + unseen es sm + 1 ≤ q ∧ Srch es whom (fun z => z = x) sm st ∧ lkM sm x = some 1 ∧ (∀ y ∈ (rowK m x).2.2.take (j + 1), lkM sm y = some 1) ∧
      Fr 71 a [(2, .int .u32 who), (10, .map (some b)), (11, .map (some g)), (12, .slice A st.length c), (48, .slice (rowK m x).1 (rowK m x).2.2.length (rowK m x).2.1), (49, .int .i64 ((rowK m x).2.2.length : Int)), (50, .int .i64 (j : Int))] ∧
      Sat w w7 (ownA .u32 23 A c st :: mapA .u32 (Value.int .i64) g sm :: mapA .u32 rwV b m :: (rowsOf .u32 23 m ++ []))) ?_ ?_
    rotate_left
    · rintro a w7 ⟨sm, st, A, c, hq, hs, hx1, hseen, fr, S⟩
      skip; (repeat (with_reducible refine wp_seq ?_)); refine wp_region_lit ?_
      refine wl_run orcW_ok 2 rfl fr fun a fr => ?_
      refine wpList_nil ?_; (repeat (with_reducible refine then_n ?_))
      have fr := fr.spell (d := 50) rfl (congrArg (Value.int .i64) (Pl.w64s (n := j) (by omega)))
      exact ⟨j + 1, sm, st, A, c, by omega, by omega, hq, hs, hx1, hseen, fr.sub ⟨rfl, rfl, rfl, rfl, rfl, rfl, rfl, trivial⟩, S⟩
    refine wp_block ?_
    skip; (repeat (with_reducible refine wp_seq ?_)); refine wp_region_lit ?_
    refine wl_ld orcW_ok (S.readAt [_, _, _] x).1 fr rfl rfl rfl rfl rfl rfl rfl rfl rfl rfl rfl rfl rfl rfl rfl rfl ⟨by omega, by omega⟩ fun a fr => ?_
    rw [Int.toNat_natCast, hy] at fr
    refine wl_run orcW_ok 1 rfl fr fun a fr => ?_
    refine wpList_nil ?_; (repeat (with_reducible refine then_n ?_))
    skip; (repeat (with_reducible refine wp_seq ?_)); refine wp_region_lit ?_
    refine wl_run orcW_ok 2 rfl fr fun a fr => ?_
    refine wl_lk (f := Value.int .i64) orcW_ok (0 : Int) zeroI rfl (Sat.mapAt S 1 rfl) fr rfl rfl rfl rfl rfl rfl rfl rfl fun a fr => ?_
    refine wl_run orcW_ok 1 rfl fr fun a fr => ?_
    refine wpList_nil ?_; (repeat (with_reducible refine then_n ?_))
    cases hk : lkM sm y with
    | some v =>
      have hv := hs.ones y v hk
      subst hv
      have fr := fr.bool (d := 57) rfl (show decide ((lkM sm y).getD 0 > 0) = true by rw [hk]; rfl)
      skip; (repeat (with_reducible refine wp_seq ?_))
      refine cw_t fr rfl ?_
      refine wp_exit ?_
      skip; (repeat (first | (with_reducible refine then_e ?_) | (with_reducible refine ng_e ?_) | (with_reducible refine blk_e (by decide) ?_))); (with_reducible refine blk_y ?_); (repeat (with_reducible refine then_n ?_))
      exact ⟨sm, st, A, c, hq, hs, hx1, fun z hz => by
        rw [hye] at hz
        rcases List.mem_append.1 hz with hz | hz
        · exact hseen z hz
        · rw [List.mem_singleton] at hz; rw [hz, hk], fr.sub ⟨rfl, rfl, rfl, rfl, rfl, rfl, rfl, trivial⟩, S⟩
    | none =>
      have fr := fr.bool (d := 57) rfl (show decide ((lkM sm y).getD 0 > 0) = false by rw [hk]; rfl)
      skip; (repeat (with_reducible refine wp_seq ?_))
      refine cw_f fr rfl ?_
      refine wp_skip ?_
      (with_reducible refine then_n ?_)
      skip; (repeat (with_reducible refine wp_seq ?_)); refine wp_region_lit ?_
      refine wl_run orcW_ok 2 rfl fr fun a fr => ?_
      refine wl_lk (f := Value.int .i64) orcW_ok (0 : Int) zeroI rfl (Sat.mapAt S 1 rfl) fr rfl rfl rfl rfl rfl rfl rfl rfl fun a fr => ?_
      refine wl_run orcW_ok 1 rfl fr fun a fr => ?_
      have fr := fr.spell (d := 61) rfl (show Value.int .i64 (IntKind.wrap .i64 ((lkM sm y).getD 0 + 1)) = .int .i64 1 by rw [hk]; rfl)
      have S : Sat w _ (mapA .u32 (Value.int .i64) g sm :: ownA .u32 23 A c st :: mapA .u32 rwV b m :: (rowsOf .u32 23 m ++ [])) := S.frontAt 1 rfl
      refine wl_up orcW_ok (1 : Int) fr rfl rfl (.inl rfl) rfl rfl rfl rfl rfl S ?_
      intro w7 S
      refine wpList_nil ?_; (repeat (with_reducible refine then_n ?_))
      skip; (repeat (with_reducible refine wp_seq ?_)); refine wp_region_lit ?_
      refine wl_run orcW_ok 2 rfl fr fun a fr => ?_
      refine wl_lit (xs := [y]) orcW_ok litW fr rfl rfl rfl rfl ⟨rfl, rfl, trivial⟩ rfl rfl S ?_
      intro w8 A8 c8 S a fr
      have hk8 := Sat.ownAt S 0 rfl
      have S : Sat w _ (ownA .u32 23 A c st :: ownA .u32 23 A8 c8 [y] :: mapA .u32 (Value.int .i64) g (upM sm y 1) :: mapA .u32 rwV b m :: (rowsOf .u32 23 m ++ [])) := S.frontAt 2 rfl
      refine wl_app litW fr rfl rfl rfl rfl rfl rfl rfl rfl hk8 (by simp only [List.length_cons, List.length_nil]; omega) S ?_
      intro w9 A9 c9 S a fr
      have S := S.mask [true, false]
      refine wl_run orcW_ok 1 rfl fr fun a fr => ?_
      refine wpList_nil ?_
      refine blk_n ?_
      refine then_n ?_
      have hl : ∀ z, lkM (upM sm y 1) z = if y = z then some 1 else lkM sm z := fun z => lk_up sm y z 1
      have hless := Srch.less hym hk
      refine ⟨upM sm y 1, st ++ [y], A9, c9, by rw [List.length_append]; simp only [List.length_cons, List.length_nil]; omega, hs.push hx1 hym hk, by rw [hl]; split; rfl; exact hx1, fun z hz => ?_, fr.sub ⟨rfl, rfl, rfl, rfl, rfl, rfl, rfl, trivial⟩, S⟩
      rw [hye] at hz
      rw [hl]
      rcases List.mem_append.1 hz with hz | hz
      · split
        · rfl
        · exact hseen z hz
      · rw [List.mem_singleton] at hz; rw [hz, if_pos rfl]
end Go.Proofs.Ytjdholnlbhkmeaa.Sx
