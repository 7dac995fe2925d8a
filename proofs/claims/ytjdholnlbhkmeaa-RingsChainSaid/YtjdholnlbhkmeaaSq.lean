/- slices.Sorted(maps.Keys(m)), m a map of rows, walked. -/
import Derived.Test.YtjdholnlbhkmeaaProg
import Derived.Test.YtjdholnlbhkmeaaRf
import Derived.Test.YtjdholnlbhkmeaaSrt
import Derived.Test.YtjdholnlbhkmeaaWt
namespace Go.Proofs.Ytjdholnlbhkmeaa.Sx
open Go Go.RowKit Base Own QSortuint32uint32

def orcQ : Orc := ⟨[(3, .int .i64), (4, .bool), (23, .int .u32), (22, .slice 23), (43, .map 23 22)],
  [(3, 1), (23, 1), (22, 1), (43, 1)]⟩
theorem orcQ_ok : orcQ.Ok Try.prog := ⟨⟨Try.underlying3, Try.underlying4, Try.underlying23, Try.underlying22, Try.underlying43, trivial⟩, ⟨by kernel_rfl, by kernel_rfl, by kernel_rfl, by kernel_rfl, trivial⟩⟩
theorem enIter : Enters Try.prog 32 := fun _ _ => by kernel_rfl
theorem enAps : Enters Try.prog 34 := fun _ _ => by kernel_rfl
theorem enCol : Enters Try.prog 30 := fun _ _ => by kernel_rfl
theorem enSrt : Enters Try.prog 31 := fun _ _ => by kernel_rfl
set_option maxRecDepth 100000 in
set_option maxHeartbeats 1000000 in
/-- The keys come, each once, in some order. -/
theorem keys_iter {w0 w : World} {M : List Asn} {bx b lp : Nat} {m : List (Int × Rw)} {rec : Loop} (Z : List Int → Asn) (hc : m.length ≤ 100000) (hps : rec.params.size = 1)
    (S : Sat w0 w (Z [] :: objA (.loop rec) lp :: stA 43 bx [.map (some b)] :: mapA .u32 rwV b m :: M))
    (hround : ∀ (w : World) (l : List Int) (x : Int) (M : List Asn), (Lit.int .u32 x).wf = true → l.length < m.length → Sat w0 w (Z l :: objA (.loop rec) lp :: M) →
      RoundIn Fence.wide (3 - 1) Try.prog lp rec.fn ((rec.params.zip #[Value.int .u32 x]).foldl (fun tmps (t, a) => tmps.setIfInBounds t a) rec.tmps) rec.assign rec.body w fun e w' => e = .returned (.bool true) ∧ Sat w0 w' (Z (l ++ [x]) :: objA (.loop rec) lp :: M)) :
    Calls Try.prog 32 #[.func (.yield lp) #[] #[], .pointer (some ⟨bx, 0, none⟩)] w fun e w' => e = .returned (.tuple #[]) ∧ ∃ l, l.Perm (keysM m) ∧ Sat w0 w' (Z l :: objA (.loop rec) lp :: stA 43 bx [.map (some b)] :: mapA .u32 rwV b m :: M) := by
  refine calls_start (N := 14) [.func (.yield lp) #[] #[], .pointer (some ⟨bx, 0, none⟩)] Try.func32 rfl rfl rfl rfl fun a fr => ?_
  skip; (repeat (with_reducible refine wp_seq ?_)); refine wp_region_lit ?_
  refine wl_ldf orcQ_ok (Sat.varAt S 2 rfl) fr rfl rfl rfl rfl rfl rfl rfl fun a fr => ?_
  have S : Sat w0 _ (mapA .u32 rwV b m :: Z [] :: objA (.loop rec) lp :: stA 43 bx [.map (some b)] :: M) := S.frontAt 3 rfl
  refine wl_range orcQ_ok fr rfl rfl rfl rfl rfl rfl S ?_
  intro w1 r S a fr
  refine wpList_nil ?_; (repeat (with_reducible refine then_n ?_))
  refine wp_block ?_
  refine cw_loop (fun q a w => ∃ l left cur, left.length + 1 = q ∧ (l ++ left.map (·.1)).Perm (keysM m) ∧ Fr 14 a [(0, .func (.yield lp) #[] #[]), (5, .pointer (some ⟨r, 0, none⟩))] ∧
      Sat w0 w (iterA .u32 rwV b r m left cur :: Z l :: objA (.loop rec) lp :: stA 43 bx [.map (some b)] :: M)) (m.length + 1) ⟨[], m, none, rfl, List.Perm.refl _, fr.sub ⟨rfl, rfl, trivial⟩, S⟩ ?_ ?_
  · rintro a w ⟨l, left, cur, h, -⟩
    omega
  rintro q a w ⟨l, left, cur, hq, hp, fr, S⟩
  skip; (repeat (with_reducible refine wp_seq ?_)); refine wp_region_lit ?_
  refine wl_next (fun _ => rfl) fr rfl rfl rfl rfl rfl S ?_ ?_
  · intro hl a fr
    subst hl
    refine wl_run orcQ_ok 1 rfl fr fun a fr => ?_
    refine wpList_nil ?_; (repeat (with_reducible refine then_n ?_))
    skip; (repeat (with_reducible refine wp_seq ?_))
    refine cw_f fr rfl ?_
    refine wp_exit ?_
    skip; (repeat (first | (with_reducible refine then_e ?_) | (with_reducible refine ng_e ?_) | (with_reducible refine blk_e (by decide) ?_))); (with_reducible refine blk_y ?_); (repeat (with_reducible refine then_n ?_))
    refine end_ret ?_
    have S := S.iterEnd
    have S : Sat w0 _ (Z l :: objA (.loop rec) lp :: stA 43 bx [.map (some b)] :: mapA .u32 rwV b m :: M) := S.perm ((List.Perm.swap _ _ _).trans (List.Perm.cons _ ((List.Perm.swap _ _ _).trans (List.Perm.cons _ (List.Perm.swap _ _ _)))))
    refine ret0 fr rfl ?_
    exact ⟨rfl, l, by simpa using hp, S⟩
  · intro w2 p l1 l2 hl S1 a fr
    subst hl
    have S := S1
    clear S1
    refine wl_run orcQ_ok 1 rfl fr fun a fr => ?_
    refine wpList_nil ?_; (repeat (with_reducible refine then_n ?_))
    skip; (repeat (with_reducible refine wp_seq ?_))
    refine cw_t fr rfl ?_
    refine wp_skip ?_
    (repeat (with_reducible refine then_n ?_))
    refine wp_block ?_
    skip; (repeat (with_reducible refine wp_seq ?_)); refine wp_region_lit ?_
    refine wl_entry (fun _ => rfl) fr rfl rfl rfl rfl rfl S ?_
    intro a fr
    refine wl_run orcQ_ok 2 rfl fr fun a fr => ?_
    refine wpList_nil ?_; (repeat (with_reducible refine then_n ?_))
    skip; (repeat (with_reducible refine wp_seq ?_)); refine reg_out (n := 3) ?_
    refine wli_run orcQ_ok 2 rfl fr fun a fr => ?_
    have hlp := Sat.objAt S 2 rfl
    have hv := fr.int (d := 3) rfl
    have hlen := hp.length_eq
    simp only [List.length_append, List.length_map, List.length_cons, keysM] at hlen
    have S2 : Sat w0 _ (Z l :: objA (.loop rec) lp :: iterA .u32 rwV b r m (l1 ++ l2) (some p) :: stA 43 bx [.map (some b)] :: M) := S.perm ((List.Perm.swap _ _ _).trans (List.Perm.cons _ (List.Perm.swap _ _ _)))
    refine wli_yield fr rfl rfl rfl rfl rfl rfl rfl (run_yield (P := Try.prog) (args := #[.int .u32 p.1]) hlp (by rw [hps]; rfl)) (hround _ l p.1 _ hv (by omega) S2) ?_
    intro w3 S a fr
    refine wli_run orcQ_ok 1 rfl fr fun a fr => ?_
    refine wpListIn_nil ?_
    (repeat (with_reducible refine then_n ?_))
    skip; (repeat (with_reducible refine wp_seq ?_))
    refine cw_f fr rfl ?_
    refine wp_skip ?_
    refine blk_n ?_
    (repeat (with_reducible refine then_n ?_))
    have S : Sat w0 _ (iterA .u32 rwV b r m (l1 ++ l2) (some p) :: Z (l ++ [p.1]) :: objA (.loop rec) lp :: stA 43 bx [.map (some b)] :: M) := S.frontAt 2 rfl
    refine ⟨l ++ [p.1], l1 ++ l2, some p, by simp at hq ⊢; omega, ?_, fr.sub ⟨rfl, rfl, trivial⟩, S⟩
    refine List.Perm.trans ?_ hp
    rw [List.map_append, List.map_append, List.map_cons, List.append_assoc, List.singleton_append]
    exact List.Perm.append_left l List.perm_middle.symm
/-- A variable that holds a row of the call's own. -/
def varRow (B : Nat) (l : List Int) : Asn := exA fun p : Option Addr × Nat => sepA (stA 22 B [.slice p.1 l.length p.2]) (ownA .u32 23 p.1 p.2 l)
set_option maxRecDepth 100000 in
set_option maxHeartbeats 1000000 in
theorem appseq {w0 w : World} {M : List Asn} {bx b : Nat} {m : List (Int × Rw)} (hc : m.length ≤ 100000) (S : Sat w0 w (stA 43 bx [.map (some b)] :: mapA .u32 rwV b m :: M)) :
    Calls Try.prog 34 #[.slice none 0 0, .func (.func 32) #[] #[.pointer (some ⟨bx, 0, none⟩)]] w fun e w' => ∃ A c l, e = .returned (.slice A l.length c) ∧ vok (.slice A l.length c) = true ∧ l.Perm (keysM m) ∧ Sat w0 w' (ownA .u32 23 A c l :: stA 43 bx [.map (some b)] :: mapA .u32 rwV b m :: M) := by
  refine calls_marks (N := 13) [.slice none 0 0, .func (.func 32) #[] #[.pointer (some ⟨bx, 0, none⟩)]] Try.func34 rfl rfl rfl rfl fun a fr => ?_
  skip; (repeat (with_reducible refine wp_seq ?_)); refine wp_region_lit ?_
  refine wl_boxv fr rfl rfl rfl rfl rfl rfl S ?_
  intro w1 Bs S a fr
  refine wl_run orcQ_ok 1 rfl fr fun a fr => ?_
  refine wpList_nil ?_; (repeat (with_reducible refine then_n ?_))
  skip; (repeat (with_reducible refine wp_seq ?_)); refine wp_region_lit ?_
  refine wl_run orcQ_ok 1 rfl fr fun a fr => ?_
  refine wpList_nil ?_; (repeat (with_reducible refine then_n ?_))
  skip; (repeat (with_reducible refine wp_seq ?_))
  refine wp_block ?_
  have S := S.nilRow .u32 23
  have S : Sat w0 _ (stA 22 Bs [.slice none 0 0] :: ownA .u32 23 none 0 [] :: stA 43 bx [.map (some b)] :: mapA .u32 rwV b m :: M) := S.frontAt 1 rfl
  have S : Sat w0 _ (varRow Bs [] :: stA 43 bx [.map (some b)] :: mapA .u32 rwV b m :: M) := Sat.toEx (none, 0) S.toSep
  refine cw_rangeF fr rfl enIter S ?_
  intro fn lp D w2 S
  have S : Sat w0 _ (varRow Bs [] :: objA (.loop _) lp :: stA 43 bx [.map (some b)] :: mapA .u32 rwV b m :: objA (.deferred (some [])) D :: M) := (((S.frontAt 4 rfl).frontAt 4 rfl).frontAt 2 rfl).frontAt 4 rfl
  refine (keys_iter (varRow Bs) hc rfl S ?_).mono ?_
  · intro w3 l x M hx hl S
    have fr7 := fr.put (d := 7) (v := .int .u32 x) (by decide) hx
    have hact : a.put (some 7) (.int .u32 x) = { tmps := (#[7].zip #[Value.int .u32 x]).foldl (fun tmps (t, a) => tmps.setIfInBounds t a) a.tmps, defers := [] } := by
      have := fr.defers
      cases a
      simp only at this
      subst this
      simp [Act.put]
    rw [hact] at fr7
    refine roundIn_of_wpIn trivial ?_
    refine regIn (fun _ _ h => h) (by simp) ?_
    refine wl_run orcQ_ok 1 rfl fr7 fun a' fr => ?_
    refine wpList_nil ?_
    have hlp := Sat.objAt S 1 rfl
    refine ⟨_, run_beginRound hlp rfl, ?_⟩
    have S : Sat w0 _ (objA (.loop _) lp :: varRow Bs l :: M) := S.frontAt 1 rfl
    have S := S.putLoop fun r => { r with state := .busy }
    have S : Sat w0 _ (varRow Bs l :: objA (.loop _) lp :: M) := S.frontAt 1 rfl
    obtain ⟨⟨A, c⟩, S⟩ := S.ofEx
    have S := S.ofSep
    have hcl := S.tl.own
    refine wpIn_block ?_
    refine regIn (fun _ _ h => h) (by simp) ?_
    refine wl_ldf orcQ_ok (Sat.varAt S 0 rfl) fr rfl rfl rfl rfl rfl rfl rfl fun a' fr => ?_
    refine wl_run orcQ_ok 1 rfl fr fun a fr => ?_
    refine wl_lit (xs := [x]) orcQ_ok litW fr rfl rfl rfl rfl ⟨rfl, rfl, trivial⟩ rfl rfl S ?_
    intro w4 A4 c4 S a4 fr
    have hk := Sat.ownAt S 0 rfl
    have S : Sat w0 _ (ownA .u32 23 A c l :: ownA .u32 23 A4 c4 [x] :: stA 22 Bs [.slice A l.length c] :: objA (.loop _) lp :: M) := S.frontAt 2 rfl
    refine wl_app litW fr rfl rfl rfl rfl rfl rfl rfl rfl hk (by simp only [List.length_cons, List.length_nil]; omega) S ?_
    intro w5 A5 c5 S a5 fr
    have S : Sat w0 _ (ownA .u32 23 A5 c5 (l ++ [x]) :: stA 22 Bs [.slice A l.length c] :: objA (.loop _) lp :: M) := S.mask [true, false]
    have S : Sat w0 _ (stA 22 Bs [.slice A l.length c] :: ownA .u32 23 A5 c5 (l ++ [x]) :: objA (.loop _) lp :: M) := S.frontAt 1 rfl
    refine wl_stv orcQ_ok fr rfl rfl rfl rfl rfl rfl rfl rfl S ?_
    intro w6 S
    refine wpList_nil ?_
    have S : Sat w0 _ (varRow Bs (l ++ [x]) :: objA (.loop _) lp :: M) := Sat.toEx (A5, c5) S.toSep
    have S : Sat w0 _ (objA (.loop _) lp :: varRow Bs (l ++ [x]) :: M) := S.frontAt 1 rfl
    refine ⟨_, _, run_endRound none (Sat.objAt S 0 rfl), rfl, ?_⟩
    exact (S.putObj _).frontAt 1 rfl
  · rintro e w3 ⟨rfl, l, hp, S⟩
    refine ⟨⟨_, rfl⟩, Sat.objAt S 1 rfl, ?_⟩
    have S : Sat w0 _ (objA (.loop _) lp :: varRow Bs l :: stA 43 bx [.map (some b)] :: mapA .u32 rwV b m :: objA (.deferred (some [])) D :: M) := S.frontAt 1 rfl
    have S := S.putLoop fun r => { r with state := .exhausted }
    refine blk_n ?_
    (repeat (with_reducible refine then_n ?_))
    obtain ⟨tm, df⟩ := a
    have hdf : df = [] := fr.defers
    subst hdf
    skip; (repeat (with_reducible refine wp_seq ?_)); refine wp_region_lit ?_
    have S : Sat w0 _ (varRow Bs l :: objA (.loop _) lp :: stA 43 bx [.map (some b)] :: mapA .u32 rwV b m :: objA (.deferred (some [])) D :: M) := S.frontAt 1 rfl
    obtain ⟨⟨A, c⟩, S⟩ := S.ofEx
    have S := S.ofSep
    have hcl := S.tl.own
    have hv := Sat.varAt S 0 rfl
    have fr2 := fr.put (d := 12) (v := .slice A l.length c) (by decide) hv.2
    have fr3 := fr2.put (d := 4) (v := .slice A l.length c) (by decide) hv.2
    refine wl_raw (v := .slice A l.length c) rfl (load_run orcQ_ok fr (o := ⟨some 12, .load 22 (.tmp 2), 0, "", #[], none⟩) rfl rfl rfl rfl hv.1) ?_
    refine wl_raw (v := .slice A l.length c) rfl (congrArg (fun v => Result.ok (Next.value v) _) (fr2.ev (o := .tmp 12) rfl).1) ?_
    refine wpList_nil ?_; (repeat (with_reducible refine then_n ?_))
    refine wp_ret ?_
    refine ⟨by simp, .inl ⟨_, _, rfl, run_takeDeferred (Sat.objAt S 5 rfl), ?_⟩⟩
    have S : Sat w0 _ (objA (.deferred (some [])) D :: stA 22 Bs [.slice A l.length c] :: ownA .u32 23 A c l :: objA (.loop _) lp :: stA 43 bx [.map (some b)] :: mapA .u32 rwV b m :: M) := S.frontAt 5 rfl
    have S := S.putObj (.deferred none)
    have S : Sat w0 _ (ownA .u32 23 A c l :: stA 43 bx [.map (some b)] :: mapA .u32 rwV b m :: M) := S.mask [false, false, true, false]
    refine ⟨.slice A l.length c, ?_, A, c, l, rfl, hv.2, hp, S⟩
    rw [results_tmp rfl, Array.getD_eq_getD_getElem?]
    exact congrArg (fun (o : Option Value) => Result.ok (o.getD undef) _) (fr3.get 4 _ rfl).1
theorem collect_walk {w0 w : World} {M : List Asn} {bx b : Nat} {m : List (Int × Rw)} (hc : m.length ≤ 100000) (S : Sat w0 w (stA 43 bx [.map (some b)] :: mapA .u32 rwV b m :: M)) :
    Calls Try.prog 30 #[.func (.func 32) #[] #[.pointer (some ⟨bx, 0, none⟩)]] w fun e w' => ∃ A c l, e = .returned (.slice A l.length c) ∧ vok (.slice A l.length c) = true ∧ l.Perm (keysM m) ∧ Sat w0 w' (ownA .u32 23 A c l :: stA 43 bx [.map (some b)] :: mapA .u32 rwV b m :: M) := by
  refine calls_start (N := 5) [.func (.func 32) #[] #[.pointer (some ⟨bx, 0, none⟩)]] Try.func30 rfl rfl rfl rfl fun a fr => ?_
  skip; (repeat (with_reducible refine wp_seq ?_)); refine wp_region_lit ?_
  refine wl_run orcQ_ok 1 rfl fr fun a fr => ?_
  refine wpList_nil ?_; (repeat (with_reducible refine then_n ?_))
  skip; (repeat (with_reducible refine wp_seq ?_)); refine wp_region_lit ?_
  refine wl_run orcQ_ok 1 rfl fr fun a fr => ?_
  refine wl_call fr rfl rfl rfl rfl enAps (appseq hc S) ?_
  rintro _ w1 ⟨A, c, l, rfl, hv, hp, S⟩
  refine ⟨_, rfl, hv, fun a fr => ?_⟩
  refine wl_run orcQ_ok 1 rfl fr fun a fr => ?_
  refine wpList_nil ?_; (repeat (with_reducible refine then_n ?_))
  refine wp_ret ?_
  refine ret1 fr rfl rfl ?_
  exact ⟨A, c, l, rfl, hv, hp, S⟩
/-- Rising. -/
def risen (l : List Int) : List Int := l.mergeSort fun x y => decide (x ≤ y)
theorem risen_perm {l m : List Int} (h : l.Perm m) : risen l = risen m := by
  refine List.Perm.eq_of_pairwise (le := fun x y => x ≤ y) (fun a b _ _ h1 h2 => Int.le_antisymm h1 h2) ?_ ?_ ((List.mergeSort_perm _ _).trans (h.trans (List.mergeSort_perm _ _).symm))
  all_goals
    have := List.pairwise_mergeSort (le := fun (x y : Int) => decide (x ≤ y)) (fun a b c h1 h2 => by simp only [decide_eq_true_eq] at *; omega) (fun a b => by simp only [Bool.or_eq_true, decide_eq_true_eq]; omega)
    first
      | simpa [risen] using this l
      | simpa [risen] using this m
theorem sorted_walk {w0 w : World} {M : List Asn} {bx b : Nat} {m : List (Int × Rw)} (hc : m.length ≤ 1000) (S : Sat w0 w (stA 43 bx [.map (some b)] :: mapA .u32 rwV b m :: M)) :
    Calls Try.prog 24 #[.func (.func 32) #[] #[.pointer (some ⟨bx, 0, none⟩)]] w fun e w' => ∃ A c, e = .returned (.slice A (risen (keysM m)).length c) ∧ vok (.slice A (risen (keysM m)).length c) = true ∧ Sat w0 w' (ownA .u32 23 A c (risen (keysM m)) :: mapA .u32 rwV b m :: M) := by
  refine calls_start (N := 9) [.func (.func 32) #[] #[.pointer (some ⟨bx, 0, none⟩)]] Try.func24 rfl rfl rfl rfl fun a fr => ?_
  skip; (repeat (with_reducible refine wp_seq ?_)); refine wp_region_lit ?_
  refine wl_run orcQ_ok 1 rfl fr fun a fr => ?_
  refine wpList_nil ?_; (repeat (with_reducible refine then_n ?_))
  skip; (repeat (with_reducible refine wp_seq ?_)); refine wp_region_lit ?_
  refine wl_run orcQ_ok 1 rfl fr fun a fr => ?_
  refine wl_call fr rfl rfl rfl rfl enCol (collect_walk (by omega) S) ?_
  rintro _ w1 ⟨A, c, l, rfl, hv, hp, S⟩
  refine ⟨_, rfl, hv, fun a fr => ?_⟩
  refine wl_run orcQ_ok 1 rfl fr fun a fr => ?_
  refine wpList_nil ?_; (repeat (with_reducible refine then_n ?_))
  have hlen : l.length ≤ 1000 := by rw [hp.length_eq]; simpa [keysM] using hc
  obtain ⟨k, hk⟩ := sort_pl l hlen
  have S := S.toRow
  skip; (repeat (with_reducible refine wp_seq ?_)); refine wp_region_lit ?_
  refine wl_run orcQ_ok 1 rfl fr fun a fr => ?_
  refine wl_call fr rfl rfl rfl rfl enSrt (Sort_uint32_uint32.walk k A c l.length l (fr.slice (d := 6) rfl) S hk) ?_
  rintro _ w2 ⟨rfl, S⟩
  refine ⟨_, rfl, rfl, fun a fr => ?_⟩
  refine wpList_nil ?_; (repeat (with_reducible refine then_n ?_))
  skip; (repeat (with_reducible refine wp_seq ?_)); refine wp_region_lit ?_
  refine wl_run orcQ_ok 2 rfl fr fun a fr => ?_
  refine wpList_nil ?_; (repeat (with_reducible refine then_n ?_))
  refine wp_ret ?_
  refine ret1 fr rfl rfl ?_
  have hr : (l.mergeSort fun x y => decide (x ≤ y)) = risen (keysM m) := risen_perm hp
  rw [hr] at S
  have hv := fr.vok (d := 2) rfl
  obtain ⟨en, S⟩ := S.ofRow
  rw [← en] at hv ⊢
  exact ⟨A, c, rfl, hv, S.mask [true, false]⟩
/-- maps.Keys: the iterator, over a variable that holds the map. -/
theorem keys_call {w0 w : World} {M : List Asn} {b : Nat} (S : Sat w0 w M) :
    Calls Try.prog 25 #[.map (some b)] w fun e w' => ∃ bx, e = .returned (.func (.func 32) #[] #[.pointer (some ⟨bx, 0, none⟩)]) ∧ Sat w0 w' (stA 43 bx [.map (some b)] :: M) := by
  refine calls_start (N := 4) [.map (some b)] Try.func25 rfl rfl rfl rfl fun a fr => ?_
  skip; (repeat (with_reducible refine wp_seq ?_)); refine wp_region_lit ?_
  refine wl_boxv fr rfl rfl rfl rfl rfl rfl S ?_
  intro w1 bx S a fr
  refine wl_val (v := .nilFunc) fr rfl rfl rfl rfl rfl fun a fr => ?_
  refine wpList_nil ?_; (repeat (with_reducible refine then_n ?_))
  skip; (repeat (with_reducible refine wp_seq ?_)); refine wp_region_lit ?_
  refine wl_makef (xs := [.pointer (some ⟨bx, 0, none⟩)]) fr rfl rfl rfl rfl rfl ?_
  intro a fr
  refine wl_run orcQ_ok 1 rfl fr fun a fr => ?_
  refine wpList_nil ?_; (repeat (with_reducible refine then_n ?_))
  refine wp_ret ?_
  refine ret1 fr rfl rfl ?_
  exact ⟨bx, rfl, S⟩
end Go.Proofs.Ytjdholnlbhkmeaa.Sx
