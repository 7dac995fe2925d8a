/- rings.Order walked. -/
import Derived.Test.YtjdholnlbhkmeaaSq
import Derived.Test.YtjdholnlbhkmeaaRcl
import Derived.Test.YtjdholnlbhkmeaaCf
import Derived.Test.YtjdholnlbhkmeaaDl
namespace Go.Proofs.Ytjdholnlbhkmeaa.Sx
open Go Go.RowKit Base Own

/-- Has everybody been told for whom one waits? -/
def freeAt (es : List (Int × Int)) (out : List Int) (x : Int) : Bool := (tgt es x).all fun y => out.contains y
/-- The order, the least of those that are free next. -/
def ordGo (es : List (Int × Int)) : Nat → List Int → List Int → Option (List Int)
  | 0, left, out => if left = [] then some out else none
  | n + 1, left, out => if left = [] then some out else match left.find? (freeAt es out) with
    | none => none
    | some x => ordGo es n (left.erase x) (out ++ [x])
def ordF (es : List (Int × Int)) : Option (List Int) := ordGo es (keysM (wtL es)).length (risen (keysM (wtL es))) []
theorem risen_mem {l : List Int} {x : Int} : x ∈ risen l ↔ x ∈ l := (List.mergeSort_perm _ _).mem_iff
theorem risen_len (l : List Int) : (risen l).length = l.length := (List.mergeSort_perm _ _).length_eq
theorem risen_nodup {l : List Int} (h : l.Nodup) : (risen l).Nodup := ((List.mergeSort_perm _ _).nodup_iff).2 h
theorem find_at_ {p : Int → Bool} {l : List Int} {i : Nat} (hi : i < l.length) (h1 : ∀ x ∈ l.take i, p x = false) (h2 : p l[i] = true) : l.find? p = some l[i] := by
  induction l generalizing i with
  | nil => simp at hi
  | cons y l ih =>
    cases i with
    | zero => simp only [List.getElem_cons_zero] at h2 ⊢; rw [List.find?_cons, h2]
    | succ i =>
      have hy : p y = false := h1 y (by simp)
      rw [List.find?_cons, hy]
      simp only [List.getElem_cons_succ] at h2 ⊢
      exact ih (by simpa using hi) (fun x hx => h1 x (by simp [hx])) h2
theorem erase_nodup : ∀ {l : List Int} {i : Nat} (hi : i < l.length), l.Nodup → l.erase l[i] = l.eraseIdx i := by
  intro l
  induction l with
  | nil => intro i hi; simp at hi
  | cons y l ih =>
    intro i hi hn
    rw [List.nodup_cons] at hn
    cases i with
    | zero => simp
    | succ i =>
      simp only [List.getElem_cons_succ, List.eraseIdx_cons_succ]
      have hil : i < l.length := by simpa using hi
      have hne : y ≠ l[i] := fun e => hn.1 (by rw [e]; exact List.getElem_mem hil)
      rw [List.erase_cons_tail (by simpa using hne), ih hil hn.2]
theorem wt_len (es : List (Int × Int)) : (wtL es).length ≤ 2 * es.length := by
  refine snoc_ind (P := fun es => (wtL es).length ≤ 2 * es.length) (by simp [wtL]) (fun es p ih => ?_) es
  rw [wtL_snoc]
  have hu : ∀ (m : List (Int × List Int)) (x : Int) (v : List Int), (upM m x v).length ≤ m.length + 1 := by
    intro m x v
    induction m with
    | nil => simp [upM]
    | cons q r ihr =>
      unfold upM
      split
      · simp
      · simp only [List.length_cons]; omega
  have h1 := hu (wtL es) p.1 ((lkM (wtL es) p.1).getD [] ++ [p.2])
  have h2 := hu (upM (wtL es) p.1 ((lkM (wtL es) p.1).getD [] ++ [p.2])) p.2 []
  unfold wtStep
  rw [List.length_append]
  simp only [List.length_cons, List.length_nil]
  split <;> omega
theorem enKeys : Enters Try.prog 25 := fun _ _ => by kernel_rfl
theorem enSorted : Enters Try.prog 24 := fun _ _ => by kernel_rfl
theorem enCont : Enters Try.prog 26 := fun _ _ => by kernel_rfl
theorem enDel : Enters Try.prog 28 := fun _ _ => by kernel_rfl
def orcO : Orc := ⟨[(3, .int .i64), (4, .bool), (23, .int .u32), (22, .slice 23), (43, .map 23 22), (45, .map 23 3)],
  [(3, 1), (23, 1), (22, 1), (43, 1), (45, 1)]⟩
theorem orcO_ok : orcO.Ok Try.prog := ⟨⟨Try.underlying3, Try.underlying4, Try.underlying23, Try.underlying22, Try.underlying43, Try.underlying45, trivial⟩, ⟨by kernel_rfl, by kernel_rfl, by kernel_rfl, by kernel_rfl, by kernel_rfl, trivial⟩⟩
theorem zeroMI : ∀ W, (zeroValue 45).run Try.prog W = .ok (.map none) W := fun _ => by kernel_rfl
/-- Between two rounds. -/
structure Ords (es : List (Int × Int)) (r : Option (List Int)) (left out : List Int) (tm : List (Int × Int)) : Prop where
  go : ordGo es left.length left out = r
  nodup : left.Nodup
  node : ∀ x ∈ left, nodeOf es x
  told : ∀ y, (((lkM tm y).getD 0 == 0) = true ↔ y ∉ out)
  fresh : ∀ x ∈ left, x ∉ out
  size : left.length + out.length ≤ 2000
set_option maxRecDepth 100000 in
set_option maxHeartbeats 4000000 in
theorem order_key {w : World} (A0 A1 : Option Addr) (c0 c1 : Nat) (l0 l1 : List Int) (rk0 : Rk .u32 w A0 l0) (rk1 : Rk .u32 w A1 l1) (m0 : l0.length ≤ c0 ∧ c0 ≤ maxLen) (m1 : l1.length ≤ c1 ∧ c1 ≤ maxLen) (hb : l0.length ≤ 500) (r : Option (List Int)) (hr : r = if l0.length = l1.length then ordF (l0.zip l1) else none) :
    Calls Try.prog 18 #[.slice A0 l0.length c0, .slice A1 l1.length c1] w fun e w' => ∃ A c, e = .returned (.tuple #[.slice A (r.getD []).length c, .bool r.isSome]) ∧ vok (.slice A (r.getD []).length c) = true ∧ Sat w w' [ownA .u32 23 A c (r.getD [])] := by
  have S := Sat.start w
  refine calls_start (N := 53) [.slice A0 l0.length c0, .slice A1 l1.length c1] Try.func18 rfl rfl rfl (vok_c (vok_sl m0) (vok_c (vok_sl m1) rfl)) fun a fr => ?_
  skip; (repeat (with_reducible refine wp_seq ?_)); refine wp_region_lit ?_
  refine wl_run orcO_ok 2 rfl fr fun a fr => ?_
  refine wpList_nil ?_; (repeat (with_reducible refine then_n ?_))
  refine cw_scope ?_
  skip; (repeat (with_reducible refine wp_seq ?_)); refine wp_region_lit ?_
  refine wl_run orcO_ok 5 rfl fr fun a fr => ?_
  refine wpList_nil ?_; (repeat (with_reducible refine then_n ?_))
  by_cases hl : l0.length = l1.length
  rotate_left
  · have fr := fr.bool (d := 15) rfl (show (((l0.length : Int) != (l1.length : Int)) = true) by simp; omega)
    skip; (repeat (with_reducible refine wp_seq ?_))
    refine cw_t fr rfl ?_
    skip; (repeat (with_reducible refine wp_seq ?_)); refine wp_region_lit ?_
    refine wl_run orcO_ok 2 rfl fr fun a fr => ?_
    refine wpList_nil ?_; (repeat (with_reducible refine then_n ?_))
    refine wp_ret ?_
    skip; (repeat (first | (with_reducible refine then_r ?_) | (with_reducible refine blk_r ?_) | (with_reducible refine ng_r ?_)))
    refine ret2 fr rfl rfl rfl ?_
    rw [if_neg hl] at hr
    subst hr
    exact ⟨none, 0, rfl, rfl, S.nilRow _ _⟩
  rw [if_pos hl] at hr
  have fr := fr.bool (d := 15) rfl (show (((l0.length : Int) != (l1.length : Int)) = false) by simp; omega)
  skip; (repeat (with_reducible refine wp_seq ?_))
  refine cw_f fr rfl ?_
  refine wp_skip ?_
  (repeat (with_reducible refine then_n ?_))
  skip; (repeat (with_reducible refine wp_seq ?_)); refine wp_region_lit ?_
  refine wl_run orcO_ok 2 rfl fr fun a fr => ?_
  refine wl_call fr rfl rfl rfl rfl enWaits (waits_walk A0 A1 c0 c1 l0 l1 (rk0.at S) (rk1.at S) m0 m1 hl.symm (by omega) S) ?_
  rintro _ w1 ⟨b, m, rfl, hm, S⟩
  refine ⟨_, rfl, rfl, fun a fr => ?_⟩
  refine wl_run orcO_ok 1 rfl fr fun a fr => ?_
  refine wpList_nil ?_; (repeat (with_reducible refine then_n ?_))
  have hz : (l0.zip l1).length = l0.length := by rw [List.length_zip, hl, Nat.min_self]
  generalize hes : l0.zip l1 = es at hm hz hr
  have hkm : keysM m = keysM (wtL es) := by rw [← hm, keys_pl]
  have hml : m.length ≤ 1000 := by
    have h1 := wt_len es
    have h2 := congrArg List.length hkm
    simp only [keysM, List.length_map] at h2
    omega
  have hnode : ∀ x, x ∈ keysM m ↔ nodeOf es x := fun x => by
    rw [hkm]
    have h1 := (lk_wtL es).1 x
    constructor
    · intro hx
      refine Classical.byContradiction fun hn => ?_
      rw [if_neg hn] at h1
      exact (lk_none.1 h1) hx
    · intro hx
      rw [if_pos hx] at h1
      refine Classical.byContradiction fun hn => ?_
      rw [lk_none.2 hn] at h1; cases h1
  skip; (repeat (with_reducible refine wp_seq ?_)); refine wp_region_lit ?_
  refine wl_run orcO_ok 1 rfl fr fun a fr => ?_
  refine wl_call fr rfl rfl rfl rfl enKeys (keys_call S) ?_
  rintro _ w2 ⟨bx, rfl, S⟩
  refine ⟨_, rfl, rfl, fun a fr => ?_⟩
  refine wl_call fr rfl rfl rfl rfl enSorted (sorted_walk hml S) ?_
  rintro _ w3 ⟨A3, c3, rfl, hv3, S⟩
  refine ⟨_, rfl, hv3, fun a fr => ?_⟩
  refine wl_run orcO_ok 1 rfl fr fun a fr => ?_
  refine wpList_nil ?_; (repeat (with_reducible refine then_n ?_))
  skip; (repeat (with_reducible refine wp_seq ?_)); refine wp_region_lit ?_
  refine wl_mkmap .u32 (Value.int .i64) fr rfl rfl rfl rfl S ?_
  intro w4 gt S a fr
  refine wl_allocv fr rfl rfl rfl rfl zeroMI rfl rfl S ?_
  intro w5 bt S a fr
  refine wl_stv orcO_ok fr rfl rfl rfl rfl rfl rfl rfl rfl S ?_
  intro w6 S
  refine wpList_nil ?_; (repeat (with_reducible refine then_n ?_))
  skip; (repeat (with_reducible refine wp_seq ?_))
  refine wp_label ?_
  (repeat (with_reducible refine then_n ?_))
  skip; (repeat (with_reducible refine wp_seq ?_))
  refine wp_block ?_
  have S := S.nilRow .u32 23
  have S : Sat w _ (ownA .u32 23 A3 c3 (risen (keysM m)) :: ownA .u32 23 none 0 [] :: stA 45 bt [.map (some gt)] :: mapA .u32 (Value.int .i64) gt [] :: mapA .u32 rwV b m :: (rowsOf .u32 23 m ++ [])) := S.frontAt 3 rfl
  refine cw_loop (fun q a w => ∃ (left out : List Int) (tm : List (Int × Int)) (A : Option Addr) (c : Nat) (A2 : Option Addr) (c2 : Nat), left.length + 1 = q ∧ Ords es r left out tm ∧
      Fr 53 a [(4, .slice A2 out.length c2), (6, .map (some b)), (7, .slice A left.length c), (8, .pointer (some ⟨bt, 0, none⟩))] ∧
      Sat _ w (ownA .u32 23 A c left :: ownA .u32 23 A2 c2 out :: stA 45 bt [.map (some gt)] :: mapA .u32 (Value.int .i64) gt tm :: mapA .u32 rwV b m :: (rowsOf .u32 23 m ++ []))) ((risen (keysM m)).length + 1) ⟨_, [], [], A3, c3, none, 0, rfl, ?_, fr.sub ⟨rfl, rfl, rfl, rfl, trivial⟩, S⟩ ?_ ?_
  · refine ⟨?_, risen_nodup (by rw [hkm]; exact (lk_wtL es).2), fun x hx => (hnode x).1 (risen_mem.1 hx), fun y => by simp [lkM], fun x _ => by simp, ?_⟩
    · rw [hr, hkm, risen_len]; rfl
    · rw [risen_len]; simp only [keysM, List.length_map, List.length_nil]; omega
  · rintro a w ⟨left, out, tm, A, c, A2, c2, h, -⟩
    omega
  rintro q a w ⟨left, out, tm, A, c, A2, c2, hq, ho, fr, S⟩
  have hsz := ho.size
  skip; (repeat (with_reducible refine wp_seq ?_)); refine wp_region_lit ?_
  refine wl_run orcO_ok 3 rfl fr fun a fr => ?_
  refine wpList_nil ?_; (repeat (with_reducible refine then_n ?_))
  by_cases hnil : left = []
  · subst hnil
    have fr := fr.bool (d := 25) rfl (by rfl)
    skip; (repeat (with_reducible refine wp_seq ?_))
    refine cw_f fr rfl ?_
    refine wp_exit ?_
    skip; (repeat (first | (with_reducible refine then_e ?_) | (with_reducible refine ng_e ?_) | (with_reducible refine blk_e (by decide) ?_))); (with_reducible refine blk_y ?_); (repeat (with_reducible refine then_n ?_))
    skip; (repeat (with_reducible refine wp_seq ?_)); refine wp_region_lit ?_
    refine wl_run orcO_ok 3 rfl fr fun a fr => ?_
    refine wpList_nil ?_; (repeat (with_reducible refine then_n ?_))
    refine wp_ret ?_
    skip; (repeat (first | (with_reducible refine then_r ?_) | (with_reducible refine blk_r ?_) | (with_reducible refine ng_r ?_)))
    refine ret2 fr rfl rfl rfl ?_
    have hgo := ho.go
    have : r = some out := by rw [← hgo]; rfl
    subst this
    exact ⟨A2, c2, rfl, fr.vok (d := 4) rfl, S.mask [false, true, false, false, false] |>.firsts [_]⟩
  have hpos : 0 < left.length := List.length_pos_iff.2 hnil
  have fr := fr.bool (d := 25) rfl (decide_eq_true (show ((left.length : Nat) : Int) > 0 by omega))
  skip; (repeat (with_reducible refine wp_seq ?_))
  refine cw_t fr rfl ?_
  refine wp_skip ?_
  (repeat (with_reducible refine then_n ?_))
  refine wp_block ?_
  skip; (repeat (with_reducible refine wp_seq ?_)); refine wp_region_lit ?_
  refine wl_run orcO_ok 3 rfl fr fun a fr => ?_
  refine wpList_nil ?_; (repeat (with_reducible refine then_n ?_))
  skip; (repeat (with_reducible refine wp_seq ?_))
  refine wp_block ?_
  refine cw_loop (fun q2 a w => ∃ (i : Nat), i + q2 = left.length + 1 ∧ i ≤ left.length ∧ (∀ x ∈ left.take i, freeAt es out x = false) ∧
      Fr 53 a [(4, .slice A2 out.length c2), (6, .map (some b)), (7, .slice A left.length c), (8, .pointer (some ⟨bt, 0, none⟩)), (26, .slice A left.length c), (27, .int .i64 (left.length : Int)), (28, .int .i64 (i : Int))] ∧
      Sat _ w (ownA .u32 23 A c left :: ownA .u32 23 A2 c2 out :: stA 45 bt [.map (some gt)] :: mapA .u32 (Value.int .i64) gt tm :: mapA .u32 rwV b m :: (rowsOf .u32 23 m ++ []))) (left.length + 1) ⟨0, by omega, by omega, by simp, fr.sub ⟨rfl, rfl, rfl, rfl, rfl, rfl, rfl, trivial⟩, S⟩ ?_ ?_
  · rintro a w ⟨i, h, h', -⟩
    omega
  clear fr S
  rintro q2 a w7 ⟨i, hi, hi', hno, fr, S⟩
  skip; (repeat (with_reducible refine wp_seq ?_)); refine wp_region_lit ?_
  refine wl_run orcO_ok 1 rfl fr fun a fr => ?_
  refine wpList_nil ?_; (repeat (with_reducible refine then_n ?_))
  by_cases hlt : i < left.length
  rotate_left
  · obtain rfl : i = left.length := by omega
    have fr := fr.bool (d := 29) rfl (decide_eq_false (by omega))
    skip; (repeat (with_reducible refine wp_seq ?_))
    refine cw_f fr rfl ?_
    refine wp_exit ?_
    skip; (repeat (first | (with_reducible refine then_e ?_) | (with_reducible refine ng_e ?_) | (with_reducible refine blk_e (by decide) ?_))); (with_reducible refine blk_y ?_); (repeat (with_reducible refine then_n ?_))
    skip; (repeat (with_reducible refine wp_seq ?_)); refine wp_region_lit ?_
    refine wl_run orcO_ok 2 rfl fr fun a fr => ?_
    refine wpList_nil ?_; (repeat (with_reducible refine then_n ?_))
    refine wp_ret ?_
    skip; (repeat (first | (with_reducible refine then_r ?_) | (with_reducible refine blk_r ?_) | (with_reducible refine ng_r ?_)))
    refine ret2 fr rfl rfl rfl ?_
    rw [List.take_length] at hno
    have : r = none := by
      rw [← ho.go]
      obtain ⟨n, hn⟩ : ∃ n, left.length = n + 1 := ⟨left.length - 1, by omega⟩
      rw [hn]
      unfold ordGo
      rw [if_neg hnil, List.find?_eq_none.2 (fun x hx => by rw [hno x hx]; decide)]
    subst this
    exact ⟨none, 0, rfl, rfl, (S.nilRow .u32 23).firsts [_]⟩
  have fr := fr.bool (d := 29) rfl (decide_eq_true (show (i : Int) < (left.length : Int) by omega))
  skip; (repeat (with_reducible refine wp_seq ?_))
  refine cw_t fr rfl ?_
  refine wp_skip ?_
  (with_reducible refine then_n ?_)
  obtain ⟨x, hx⟩ : ∃ x, left.getD i 0 = x := ⟨_, rfl⟩
  have hge : left[i] = x := by rw [← hx, List.getD_eq_getElem?_getD, List.getElem?_eq_getElem hlt]; rfl
  have hxm : x ∈ left := by rw [← hge]; exact List.getElem_mem hlt
  have hye : left.take (i + 1) = left.take i ++ [x] := by rw [List.take_succ_eq_append_getElem hlt, hge]
  skip; (repeat (with_reducible refine wp_seq ?_))
  refine wp_block ?_
  skip; (repeat (with_reducible refine wp_seq ?_)); refine wp_region_lit ?_
  refine wl_run orcO_ok 1 rfl fr fun a fr => ?_
  refine wl_ld orcO_ok (Sat.ownAt S 0 rfl) fr rfl rfl rfl rfl rfl rfl rfl rfl rfl rfl rfl rfl rfl rfl rfl rfl ⟨by omega, by omega⟩ fun a fr => ?_
  rw [Int.toNat_natCast, hx] at fr
  refine wl_run orcO_ok 2 rfl fr fun a fr => ?_
  refine wpList_nil ?_; (repeat (with_reducible refine then_n ?_))
  have hrow := rowK_pl (m := m) (es := es) hm x
  have hrr := S.readAt [_, _, _, _, _] x
  skip; (repeat (with_reducible refine wp_seq ?_)); refine wp_region_lit ?_
  refine wl_run orcO_ok 2 rfl fr fun a fr => ?_
  refine wl_lk (f := rwV) orcO_ok rw0 zeroW rfl (Sat.mapAt S 4 rfl) fr rfl rfl rfl rfl rfl rfl rfl rfl fun a fr => ?_
  have fr := fr.spell (d := 35) rfl (show rwV ((lkM m x).getD rw0) = .slice (rowK m x).1 (rowK m x).2.2.length (rowK m x).2.1 from rfl)
  refine wl_makef (xs := [.pointer (some ⟨bt, 0, none⟩)]) fr rfl rfl rfl rfl rfl ?_
  intro a fr
  have htl : (rowK m x).2.2.length ≤ 1000000 := by rw [hrow]; have := tgt_len es x; omega
  refine wl_call fr rfl rfl rfl rfl enCont (containsf hrr.1 hrr.2 htl ⟨(Sat.varAt S 2 rfl).1, Sat.mapAt S 3 rfl⟩) ?_
  rintro _ w8 ⟨rfl, hw8⟩
  subst w8
  refine ⟨_, rfl, rfl, fun a fr => ?_⟩
  refine wpList_nil ?_; (repeat (with_reducible refine then_n ?_))
  have hfree : ((rowK m x).2.2.any fun y => (lkM tm y).getD 0 == 0) = !freeAt es out x := by
    rw [hrow]
    unfold freeAt
    rw [List.not_all_eq_any_not]
    congr 1
    funext y
    have := ho.told y
    by_cases hyo : y ∈ out
    · have h1 : ((lkM tm y).getD 0 == 0) = false := by
        cases h : ((lkM tm y).getD 0 == 0) with
        | false => rfl
        | true => exact absurd hyo (this.1 h)
      rw [h1]; simp [hyo]
    · rw [this.2 hyo]; simp [hyo]
  cases hfr : freeAt es out x with
  | false =>
    have fr := fr.bool (d := 37) rfl (by rw [hfree, hfr])
    skip; (repeat (with_reducible refine wp_seq ?_))
    refine cw_t fr rfl ?_
    refine wp_exit ?_
    skip; (repeat (first | (with_reducible refine then_e ?_) | (with_reducible refine ng_e ?_) | (with_reducible refine blk_e (by decide) ?_))); (with_reducible refine blk_y ?_); (repeat (with_reducible refine then_n ?_))
    skip; (repeat (with_reducible refine wp_seq ?_)); refine wp_region_lit ?_
    refine wl_run orcO_ok 2 rfl fr fun a fr => ?_
    refine wpList_nil ?_; (repeat (with_reducible refine then_n ?_))
    have fr := fr.spell (d := 28) rfl (congrArg (Value.int .i64) (Pl.w64s (n := i) (by omega)))
    refine ⟨i + 1, by omega, by omega, fun z hz => ?_, fr.sub ⟨rfl, rfl, rfl, rfl, rfl, rfl, rfl, trivial⟩, S⟩
    rw [hye] at hz
    rcases List.mem_append.1 hz with hz | hz
    · exact hno z hz
    · rw [List.mem_singleton] at hz; rw [hz]; exact hfr
  | true =>
    have fr := fr.bool (d := 37) rfl (by rw [hfree, hfr])
    skip; (repeat (with_reducible refine wp_seq ?_))
    refine cw_f fr rfl ?_
    refine wp_skip ?_
    (with_reducible refine then_n ?_)
    have hxo : x ∉ out := ho.fresh x hxm
    have hk0 : (lkM tm x).getD 0 = 0 := by simpa using (ho.told x).2 hxo
    skip; (repeat (with_reducible refine wp_seq ?_)); refine wp_region_lit ?_
    refine wl_ldf orcO_ok (Sat.varAt S 2 rfl) fr rfl rfl rfl rfl rfl rfl rfl fun a fr => ?_
    refine wl_run orcO_ok 1 rfl fr fun a fr => ?_
    refine wl_lk (f := Value.int .i64) orcO_ok (0 : Int) zeroI rfl (Sat.mapAt S 3 rfl) fr rfl rfl rfl rfl rfl rfl rfl rfl fun a fr => ?_
    rw [hk0] at fr
    refine wl_run orcO_ok 1 rfl fr fun a fr => ?_
    have fr := fr.spell (d := 41) rfl (show Value.int .i64 (IntKind.wrap .i64 (0 + 1)) = .int .i64 1 from rfl)
    have S : Sat _ _ (mapA .u32 (Value.int .i64) gt tm :: ownA .u32 23 A c left :: ownA .u32 23 A2 c2 out :: stA 45 bt [.map (some gt)] :: mapA .u32 rwV b m :: (rowsOf .u32 23 m ++ [])) := S.frontAt 3 rfl
    refine wl_up orcO_ok (1 : Int) fr rfl rfl (.inl rfl) rfl rfl rfl rfl rfl S ?_
    intro w9 S
    refine wpList_nil ?_; (repeat (with_reducible refine then_n ?_))
    skip; (repeat (with_reducible refine wp_seq ?_)); refine wp_region_lit ?_
    refine wl_run orcO_ok 2 rfl fr fun a fr => ?_
    refine wl_lit (xs := [x]) orcO_ok litW fr rfl rfl rfl rfl ⟨rfl, rfl, trivial⟩ rfl rfl S ?_
    intro w10 A10 c10 S a fr
    have hk10 := Sat.ownAt S 0 rfl
    have S : Sat _ _ (ownA .u32 23 A2 c2 out :: ownA .u32 23 A10 c10 [x] :: mapA .u32 (Value.int .i64) gt (upM tm x 1) :: ownA .u32 23 A c left :: stA 45 bt [.map (some gt)] :: mapA .u32 rwV b m :: (rowsOf .u32 23 m ++ [])) := S.frontAt 3 rfl
    refine wl_app litW fr rfl rfl rfl rfl rfl rfl rfl rfl hk10 (by simp only [List.length_cons, List.length_nil]; omega) S ?_
    intro w11 A11 c11 S a fr
    have S := S.mask [true, false]
    refine wl_run orcO_ok 1 rfl fr fun a fr => ?_
    refine wpList_nil ?_; (repeat (with_reducible refine then_n ?_))
    skip; (repeat (with_reducible refine wp_seq ?_)); refine wp_region_lit ?_
    refine wl_run orcO_ok 4 rfl fr fun a fr => ?_
    have fr := fr.spell (d := 49) rfl (congrArg (Value.int .i64) (Pl.w64s (n := i) (by omega)))
    have S : Sat _ _ (ownA .u32 23 A c left :: ownA .u32 23 A11 c11 (out ++ [x]) :: mapA .u32 (Value.int .i64) gt (upM tm x 1) :: stA 45 bt [.map (some gt)] :: mapA .u32 rwV b m :: (rowsOf .u32 23 m ++ [])) := S.frontAt 2 rfl
    refine wl_call fr rfl rfl rfl rfl enDel (delete_walk i hlt (by omega) S) ?_
    rintro _ w12 ⟨rfl, hv12, S⟩
    refine ⟨_, rfl, hv12, fun a fr => ?_⟩
    refine wl_run orcO_ok 1 rfl fr fun a fr => ?_
    refine wpList_nil ?_; (repeat (with_reducible refine then_n ?_))
    refine wp_exit ?_
    skip; (repeat (first | (with_reducible refine then_e ?_) | (with_reducible refine ng_e ?_) | (with_reducible refine blk_e (by decide) ?_))); (with_reducible refine blk_y ?_); (repeat (with_reducible refine then_n ?_))
    have hel : (left.eraseIdx i).length + 1 = left.length := by rw [List.length_eraseIdx_of_lt hlt]; omega
    have her : left.eraseIdx i = left.erase x := by rw [← hge, erase_nodup hlt ho.nodup]
    have S : Sat _ _ (ownA .u32 23 A c (left.eraseIdx i) :: ownA .u32 23 A11 c11 (out ++ [x]) :: stA 45 bt [.map (some gt)] :: mapA .u32 (Value.int .i64) gt (upM tm x 1) :: mapA .u32 rwV b m :: (rowsOf .u32 23 m ++ [])) := S.perm (List.Perm.cons _ (List.Perm.cons _ (List.Perm.swap _ _ _)))
    refine ⟨left.eraseIdx i, out ++ [x], upM tm x 1, A, c, A11, c11, by omega, ⟨?_, ?_, ?_, ?_, ?_, ?_⟩, fr.sub ⟨rfl, rfl, rfl, rfl, trivial⟩, S⟩
    · rw [← ho.go, her]
      obtain ⟨n, hn⟩ : ∃ n, left.length = n + 1 := ⟨left.length - 1, by omega⟩
      have hn2 : (left.erase x).length = n := by rw [← her]; omega
      rw [hn, hn2]
      conv => rhs; unfold ordGo
      rw [if_neg hnil, find_at_ hlt hno (by rw [hge]; exact hfr), hge]
    · exact ho.nodup.sublist (List.eraseIdx_sublist _ _)
    · exact fun z hz => ho.node z ((List.eraseIdx_sublist _ _).subset hz)
    · intro y
      rw [lk_up]
      by_cases hxy : x = y
      · rw [if_pos hxy]; simp [hxy]
      · rw [if_neg hxy, ho.told y, List.mem_append, List.mem_singleton]
        constructor
        · rintro h (h' | h')
          · exact h h'
          · exact hxy h'.symm
        · exact fun h h' => h (.inl h')
    · intro z hz
      rw [List.mem_append, List.mem_singleton]
      rintro (h | h)
      · exact ho.fresh z ((List.eraseIdx_sublist _ _).subset hz) h
      · subst h
        rw [her] at hz
        exact (List.Nodup.not_mem_erase ho.nodup) hz
    · rw [List.length_append]; simp only [List.length_cons, List.length_nil]; omega
end Go.Proofs.Ytjdholnlbhkmeaa.Sx
