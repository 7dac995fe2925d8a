/- Texts of this work, one behind the other. -/
import Derived.Test.YticnjkdaccacaaaGreatDoorVRingsOrder7
import Derived.WalkKit
import Derived.ProofKit
import Derived.OpenShut
import Derived.ShutString
import Derived.ChangeOld
import Derived.SizedLaws
import Derived.KernelRfl
import Derived.Deep.Slices
import Derived.IntWalk
section
/- rings.Order walked. -/
namespace Go.Proofs.YticnjkdaccacaaaGreatDoor.Sx
open Go Go.RowKit Base Own

/-- Has everybody been told for whom one waits? -/
def freeAt (es : List (Int × Int)) (out : List Int) (x : Int) : Bool := (tgt es x).all fun y => out.contains y
/-- The order, the least of those that are free next. -/
def ordGo (es : List (Int × Int)) : Nat → List Int → List Int → Option (List Int)
  | 0, left, out => if left = [] then some out else none
  | n + 1, left, out => if left = [] then some out else match left.find? (freeAt es out) with
    | none => none
    | some x => ordGo es n (left.erase x) (out ++ [x])
def ordF (es : List (Int × Int)) : Option (List Int) := ordGo es (keysM (wtL es)).length (risen (keysM (wtL es))) []
theorem risen_mem {l : List Int} {x : Int} : x ∈ risen l ↔ x ∈ l := (List.mergeSort_perm _ _).mem_iff
theorem risen_len (l : List Int) : (risen l).length = l.length := (List.mergeSort_perm _ _).length_eq
theorem risen_nodup {l : List Int} (h : l.Nodup) : (risen l).Nodup := ((List.mergeSort_perm _ _).nodup_iff).2 h
theorem find_at_ {p : Int → Bool} {l : List Int} {i : Nat} (hi : i < l.length) (h1 : ∀ x ∈ l.take i, p x = false) (h2 : p l[i] = true) : l.find? p = some l[i] := by
  induction l generalizing i with
  | nil => simp at hi
  | cons y l ih =>
    cases i with
    | zero => simp only [List.getElem_cons_zero] at h2 ⊢; rw [List.find?_cons, h2]
    | succ i =>
      have hy : p y = false := h1 y (by simp)
      rw [List.find?_cons, hy]
      simp only [List.getElem_cons_succ] at h2 ⊢
      exact ih (by simpa using hi) (fun x hx => h1 x (by simp [hx])) h2
theorem erase_nodup : ∀ {l : List Int} {i : Nat} (hi : i < l.length), l.Nodup → l.erase l[i] = l.eraseIdx i := by
  intro l
  induction l with
  | nil => intro i hi; simp at hi
  | cons y l ih =>
    intro i hi hn
    rw [List.nodup_cons] at hn
    cases i with
    | zero => simp
    | succ i =>
      simp only [List.getElem_cons_succ, List.eraseIdx_cons_succ]
      have hil : i < l.length := by simpa using hi
      have hne : y ≠ l[i] := fun e => hn.1 (by rw [e]; exact List.getElem_mem hil)
      rw [List.erase_cons_tail (by simpa using hne), ih hil hn.2]
theorem wt_len (es : List (Int × Int)) : (wtL es).length ≤ 2 * es.length := by
  refine snoc_ind (P := fun es => (wtL es).length ≤ 2 * es.length) (by simp [wtL]) (fun es p ih => ?_) es
  rw [wtL_snoc]
  have hu : ∀ (m : List (Int × List Int)) (x : Int) (v : List Int), (upM m x v).length ≤ m.length + 1 := by
    intro m x v
    induction m with
    | nil => simp [upM]
    | cons q r ihr =>
      unfold upM
      split
      · simp
      · simp only [List.length_cons]; omega
  have h1 := hu (wtL es) p.1 ((lkM (wtL es) p.1).getD [] ++ [p.2])
  have h2 := hu (upM (wtL es) p.1 ((lkM (wtL es) p.1).getD [] ++ [p.2])) p.2 []
  unfold wtStep
  rw [List.length_append]
  simp only [List.length_cons, List.length_nil]
  split <;> omega
theorem enKeys : Enters Tryz.prog 135 := fun _ _ => by kernel_rfl
theorem enSorted : Enters Tryz.prog 134 := fun _ _ => by kernel_rfl
theorem enCont : Enters Tryz.prog 136 := fun _ _ => by kernel_rfl
theorem enDel : Enters Tryz.prog 138 := fun _ _ => by kernel_rfl
def orcO : Orc := ⟨[(3, .int .i64), (4, .bool), (86, .int .u32), (91, .slice 86), (174, .map 86 91), (167, .map 86 3)],
  [(3, 1), (86, 1), (91, 1), (174, 1), (167, 1)]⟩
theorem orcO_ok : orcO.Ok Tryz.prog := ⟨⟨Tryz.underlying3, Tryz.underlying4, Tryz.underlying86, Tryz.underlying91, Tryz.underlying174, Tryz.underlying167, trivial⟩, ⟨by kernel_rfl, by kernel_rfl, by kernel_rfl, by kernel_rfl, by kernel_rfl, trivial⟩⟩
theorem zeroMI : ∀ W, (zeroValue 167).run Tryz.prog W = .ok (.map none) W := fun _ => by kernel_rfl
/-- Between two rounds. -/
structure Ords (es : List (Int × Int)) (r : Option (List Int)) (left out : List Int) (tm : List (Int × Int)) : Prop where
  go : ordGo es left.length left out = r
  nodup : left.Nodup
  node : ∀ x ∈ left, nodeOf es x
  told : ∀ y, (((lkM tm y).getD 0 == 0) = true ↔ y ∉ out)
  fresh : ∀ x ∈ left, x ∉ out
  size : left.length + out.length ≤ 2000
set_option maxRecDepth 100000 in
set_option maxHeartbeats 4000000 in
theorem order_key {w : World} (A0 A1 : Option Addr) (c0 c1 : Nat) (l0 l1 : List Int) (rk0 : Rk .u32 w A0 l0) (rk1 : Rk .u32 w A1 l1) (m0 : l0.length ≤ c0 ∧ c0 ≤ maxLen) (m1 : l1.length ≤ c1 ∧ c1 ≤ maxLen) (hb : l0.length ≤ 500) (r : Option (List Int)) (hr : r = if l0.length = l1.length then ordF (l0.zip l1) else none) :
    Calls Tryz.prog 50 #[.slice A0 l0.length c0, .slice A1 l1.length c1] w fun e w' => ∃ A c, e = .returned (.tuple #[.slice A (r.getD []).length c, .bool r.isSome]) ∧ vok (.slice A (r.getD []).length c) = true ∧ Sat w w' [ownA .u32 86 A c (r.getD [])] := by
  have S := Sat.start w
  refine calls_start (N := 53) [.slice A0 l0.length c0, .slice A1 l1.length c1] Tryz.func50 rfl rfl rfl (vok_c (vok_sl m0) (vok_c (vok_sl m1) rfl)) fun a fr => ?_
  skip; (repeat (with_reducible refine wp_seq ?_)); refine wp_region_lit ?_
  refine wl_run orcO_ok 2 rfl fr fun a fr => ?_
  refine wpList_nil ?_; (repeat (with_reducible refine then_n ?_))
  refine cw_scope ?_
  skip; (repeat (with_reducible refine wp_seq ?_)); refine wp_region_lit ?_
  refine wl_run orcO_ok 5 rfl fr fun a fr => ?_
  refine wpList_nil ?_; (repeat (with_reducible refine then_n ?_))
  by_cases hl : l0.length = l1.length
  rotate_left
  · have fr := fr.bool (d := 15) rfl (show (((l0.length : Int) != (l1.length : Int)) = true) by simp; omega)
    skip; (repeat (with_reducible refine wp_seq ?_))
    refine cw_t fr rfl ?_
    skip; (repeat (with_reducible refine wp_seq ?_)); refine wp_region_lit ?_
    refine wl_run orcO_ok 2 rfl fr fun a fr => ?_
    refine wpList_nil ?_; (repeat (with_reducible refine then_n ?_))
    refine wp_ret ?_
    skip; (repeat (first | (with_reducible refine then_r ?_) | (with_reducible refine blk_r ?_) | (with_reducible refine ng_r ?_)))
    refine ret2 fr rfl rfl rfl ?_
    rw [if_neg hl] at hr
    subst hr
    exact ⟨none, 0, rfl, rfl, S.nilRow _ _⟩
  rw [if_pos hl] at hr
  have fr := fr.bool (d := 15) rfl (show (((l0.length : Int) != (l1.length : Int)) = false) by simp; omega)
  skip; (repeat (with_reducible refine wp_seq ?_))
  refine cw_f fr rfl ?_
  refine wp_skip ?_
  (repeat (with_reducible refine then_n ?_))
  skip; (repeat (with_reducible refine wp_seq ?_)); refine wp_region_lit ?_
  refine wl_run orcO_ok 2 rfl fr fun a fr => ?_
  refine wl_call fr rfl rfl rfl rfl enWaits (waits_walk A0 A1 c0 c1 l0 l1 (rk0.at S) (rk1.at S) m0 m1 hl.symm (by omega) S) ?_
  rintro _ w1 ⟨b, m, rfl, hm, S⟩
  refine ⟨_, rfl, rfl, fun a fr => ?_⟩
  refine wl_run orcO_ok 1 rfl fr fun a fr => ?_
  refine wpList_nil ?_; (repeat (with_reducible refine then_n ?_))
  have hz : (l0.zip l1).length = l0.length := by rw [List.length_zip, hl, Nat.min_self]
  generalize hes : l0.zip l1 = es at hm hz hr
  have hkm : keysM m = keysM (wtL es) := by rw [← hm, keys_pl]
  have hml : m.length ≤ 1000 := by
    have h1 := wt_len es
    have h2 := congrArg List.length hkm
    simp only [keysM, List.length_map] at h2
    omega
  have hnode : ∀ x, x ∈ keysM m ↔ nodeOf es x := fun x => by
    rw [hkm]
    have h1 := (lk_wtL es).1 x
    constructor
    · intro hx
      refine Classical.byContradiction fun hn => ?_
      rw [if_neg hn] at h1
      exact (lk_none.1 h1) hx
    · intro hx
      rw [if_pos hx] at h1
      refine Classical.byContradiction fun hn => ?_
      rw [lk_none.2 hn] at h1; cases h1
  skip; (repeat (with_reducible refine wp_seq ?_)); refine wp_region_lit ?_
  refine wl_run orcO_ok 1 rfl fr fun a fr => ?_
  refine wl_call fr rfl rfl rfl rfl enKeys (keys_call S) ?_
  rintro _ w2 ⟨bx, rfl, S⟩
  refine ⟨_, rfl, rfl, fun a fr => ?_⟩
  refine wl_call fr rfl rfl rfl rfl enSorted (sorted_walk hml S) ?_
  rintro _ w3 ⟨A3, c3, rfl, hv3, S⟩
  refine ⟨_, rfl, hv3, fun a fr => ?_⟩
  refine wl_run orcO_ok 1 rfl fr fun a fr => ?_
  refine wpList_nil ?_; (repeat (with_reducible refine then_n ?_))
  skip; (repeat (with_reducible refine wp_seq ?_)); refine wp_region_lit ?_
  refine wl_mkmap .u32 (Value.int .i64) fr rfl rfl rfl rfl S ?_
  intro w4 gt S a fr
  refine wl_allocv fr rfl rfl rfl rfl zeroMI rfl rfl S ?_
  intro w5 bt S a fr
  refine wl_stv orcO_ok fr rfl rfl rfl rfl rfl rfl rfl rfl S ?_
  intro w6 S
  refine wpList_nil ?_; (repeat (with_reducible refine then_n ?_))
  skip; (repeat (with_reducible refine wp_seq ?_))
  refine wp_label ?_
  (repeat (with_reducible refine then_n ?_))
  skip; (repeat (with_reducible refine wp_seq ?_))
  refine wp_block ?_
  have S := S.nilRow .u32 86
  have S : Sat w _ (ownA .u32 86 A3 c3 (risen (keysM m)) :: ownA .u32 86 none 0 [] :: stA 167 bt [.map (some gt)] :: mapA .u32 (Value.int .i64) gt [] :: mapA .u32 rwV b m :: (rowsOf .u32 86 m ++ [])) := S.frontAt 3 rfl
  refine cw_loop (fun q a w => ∃ (left out : List Int) (tm : List (Int × Int)) (A : Option Addr) (c : Nat) (A2 : Option Addr) (c2 : Nat), left.length + 1 = q ∧ Ords es r left out tm ∧
      Fr 53 a [(4, .slice A2 out.length c2), (6, .map (some b)), (7, .slice A left.length c), (8, .pointer (some ⟨bt, 0, none⟩))] ∧
      Sat _ w (ownA .u32 86 A c left :: ownA .u32 86 A2 c2 out :: stA 167 bt [.map (some gt)] :: mapA .u32 (Value.int .i64) gt tm :: mapA .u32 rwV b m :: (rowsOf .u32 86 m ++ []))) ((risen (keysM m)).length + 1) ⟨_, [], [], A3, c3, none, 0, rfl, ?_, fr.sub ⟨rfl, rfl, rfl, rfl, trivial⟩, S⟩ ?_ ?_
  · refine ⟨?_, risen_nodup (by rw [hkm]; exact (lk_wtL es).2), fun x hx => (hnode x).1 (risen_mem.1 hx), fun y => by simp [lkM], fun x _ => by simp, ?_⟩
    · rw [hr, hkm, risen_len]; rfl
    · rw [risen_len]; simp only [keysM, List.length_map, List.length_nil]; omega
  · rintro a w ⟨left, out, tm, A, c, A2, c2, h, -⟩
    omega
  rintro q a w ⟨left, out, tm, A, c, A2, c2, hq, ho, fr, S⟩
  have hsz := ho.size
  skip; (repeat (with_reducible refine wp_seq ?_)); refine wp_region_lit ?_
  refine wl_run orcO_ok 3 rfl fr fun a fr => ?_
  refine wpList_nil ?_; (repeat (with_reducible refine then_n ?_))
  by_cases hnil : left = []
  · subst hnil
    have fr := fr.bool (d := 25) rfl (by rfl)
    skip; (repeat (with_reducible refine wp_seq ?_))
    refine cw_f fr rfl ?_
    refine wp_exit ?_
    skip; (repeat (first | (with_reducible refine then_e ?_) | (with_reducible refine ng_e ?_) | (with_reducible refine blk_e (by decide) ?_))); (with_reducible refine blk_y ?_); (repeat (with_reducible refine then_n ?_))
    skip; (repeat (with_reducible refine wp_seq ?_)); refine wp_region_lit ?_
    refine wl_run orcO_ok 3 rfl fr fun a fr => ?_
    refine wpList_nil ?_; (repeat (with_reducible refine then_n ?_))
    refine wp_ret ?_
    skip; (repeat (first | (with_reducible refine then_r ?_) | (with_reducible refine blk_r ?_) | (with_reducible refine ng_r ?_)))
    refine ret2 fr rfl rfl rfl ?_
    have hgo := ho.go
    have : r = some out := by rw [← hgo]; rfl
    subst this
    exact ⟨A2, c2, rfl, fr.vok (d := 4) rfl, S.mask [false, true, false, false, false] |>.firsts [_]⟩
  have hpos : 0 < left.length := List.length_pos_iff.2 hnil
  have fr := fr.bool (d := 25) rfl (decide_eq_true (show ((left.length : Nat) : Int) > 0 by omega))
  skip; (repeat (with_reducible refine wp_seq ?_))
  refine cw_t fr rfl ?_
  refine wp_skip ?_
  (repeat (with_reducible refine then_n ?_))
  refine wp_block ?_
  skip; (repeat (with_reducible refine wp_seq ?_)); refine wp_region_lit ?_
  refine wl_run orcO_ok 3 rfl fr fun a fr => ?_
  refine wpList_nil ?_; (repeat (with_reducible refine then_n ?_))
  skip; (repeat (with_reducible refine wp_seq ?_))
  refine wp_block ?_
  refine cw_loop (fun q2 a w => ∃ (i : Nat), i + q2 = left.length + 1 ∧ i ≤ left.length ∧ (∀ x ∈ left.take i, freeAt es out x = false) ∧
      Fr 53 a [(4, .slice A2 out.length c2), (6, .map (some b)), (7, .slice A left.length c), (8, .pointer (some ⟨bt, 0, none⟩)), (26, .slice A left.length c), (27, .int .i64 (left.length : Int)), (28, .int .i64 (i : Int))] ∧
      Sat _ w (ownA .u32 86 A c left :: ownA .u32 86 A2 c2 out :: stA 167 bt [.map (some gt)] :: mapA .u32 (Value.int .i64) gt tm :: mapA .u32 rwV b m :: (rowsOf .u32 86 m ++ []))) (left.length + 1) ⟨0, by omega, by omega, by simp, fr.sub ⟨rfl, rfl, rfl, rfl, rfl, rfl, rfl, trivial⟩, S⟩ ?_ ?_
  · rintro a w ⟨i, h, h', -⟩
    omega
  clear fr S
  rintro q2 a w7 ⟨i, hi, hi', hno, fr, S⟩
  skip; (repeat (with_reducible refine wp_seq ?_)); refine wp_region_lit ?_
  refine wl_run orcO_ok 1 rfl fr fun a fr => ?_
  refine wpList_nil ?_; (repeat (with_reducible refine then_n ?_))
  by_cases hlt : i < left.length
  rotate_left
  · obtain rfl : i = left.length := by omega
    have fr := fr.bool (d := 29) rfl (decide_eq_false (by omega))
    skip; (repeat (with_reducible refine wp_seq ?_))
    refine cw_f fr rfl ?_
    refine wp_exit ?_
    skip; (repeat (first | (with_reducible refine then_e ?_) | (with_reducible refine ng_e ?_) | (with_reducible refine blk_e (by decide) ?_))); (with_reducible refine blk_y ?_); (repeat (with_reducible refine then_n ?_))
    skip; (repeat (with_reducible refine wp_seq ?_)); refine wp_region_lit ?_
    refine wl_run orcO_ok 2 rfl fr fun a fr => ?_
    refine wpList_nil ?_; (repeat (with_reducible refine then_n ?_))
    refine wp_ret ?_
    skip; (repeat (first | (with_reducible refine then_r ?_) | (with_reducible refine blk_r ?_) | (with_reducible refine ng_r ?_)))
    refine ret2 fr rfl rfl rfl ?_
    rw [List.take_length] at hno
    have : r = none := by
      rw [← ho.go]
      obtain ⟨n, hn⟩ : ∃ n, left.length = n + 1 := ⟨left.length - 1, by omega⟩
      rw [hn]
      unfold ordGo
      rw [if_neg hnil, List.find?_eq_none.2 (fun x hx => by rw [hno x hx]; decide)]
    subst this
    exact ⟨none, 0, rfl, rfl, (S.nilRow .u32 86).firsts [_]⟩
  have fr := fr.bool (d := 29) rfl (decide_eq_true (show (i : Int) < (left.length : Int) by omega))
  skip; (repeat (with_reducible refine wp_seq ?_))
  refine cw_t fr rfl ?_
  refine wp_skip ?_
  (with_reducible refine then_n ?_)
  obtain ⟨x, hx⟩ : ∃ x, left.getD i 0 = x := ⟨_, rfl⟩
  have hge : left[i] = x := by rw [← hx, List.getD_eq_getElem?_getD, List.getElem?_eq_getElem hlt]; rfl
  have hxm : x ∈ left := by rw [← hge]; exact List.getElem_mem hlt
  have hye : left.take (i + 1) = left.take i ++ [x] := by rw [List.take_succ_eq_append_getElem hlt, hge]
  skip; (repeat (with_reducible refine wp_seq ?_))
  refine wp_block ?_
  skip; (repeat (with_reducible refine wp_seq ?_)); refine wp_region_lit ?_
  refine wl_run orcO_ok 1 rfl fr fun a fr => ?_
  refine wl_ld orcO_ok (Sat.ownAt S 0 rfl) fr rfl rfl rfl rfl rfl rfl rfl rfl rfl rfl rfl rfl rfl rfl rfl rfl ⟨by omega, by omega⟩ fun a fr => ?_
  rw [Int.toNat_natCast, hx] at fr
  refine wl_run orcO_ok 2 rfl fr fun a fr => ?_
  refine wpList_nil ?_; (repeat (with_reducible refine then_n ?_))
  have hrow := rowK_pl (m := m) (es := es) hm x
  have hrr := S.readAt [_, _, _, _, _] x
  skip; (repeat (with_reducible refine wp_seq ?_)); refine wp_region_lit ?_
  refine wl_run orcO_ok 2 rfl fr fun a fr => ?_
  refine wl_lk (f := rwV) orcO_ok rw0 zeroW rfl (Sat.mapAt S 4 rfl) fr rfl rfl rfl rfl rfl rfl rfl rfl fun a fr => ?_
  have fr := fr.spell (d := 35) rfl (show rwV ((lkM m x).getD rw0) = .slice (rowK m x).1 (rowK m x).2.2.length (rowK m x).2.1 from rfl)
  refine wl_makef (xs := [.pointer (some ⟨bt, 0, none⟩)]) fr rfl rfl rfl rfl rfl ?_
  intro a fr
  have htl : (rowK m x).2.2.length ≤ 1000000 := by rw [hrow]; have := tgt_len es x; omega
  refine wl_call fr rfl rfl rfl rfl enCont (containsf hrr.1 hrr.2 htl ⟨(Sat.varAt S 2 rfl).1, Sat.mapAt S 3 rfl⟩) ?_
  rintro _ w8 ⟨rfl, hw8⟩
  subst w8
  refine ⟨_, rfl, rfl, fun a fr => ?_⟩
  refine wpList_nil ?_; (repeat (with_reducible refine then_n ?_))
  have hfree : ((rowK m x).2.2.any fun y => (lkM tm y).getD 0 == 0) = !freeAt es out x := by
    rw [hrow]
    unfold freeAt
    rw [List.not_all_eq_any_not]
    congr 1
    funext y
    have := ho.told y
    by_cases hyo : y ∈ out
    · have h1 : ((lkM tm y).getD 0 == 0) = false := by
        cases h : ((lkM tm y).getD 0 == 0) with
        | false => rfl
        | true => exact absurd hyo (this.1 h)
      rw [h1]; simp [hyo]
    · rw [this.2 hyo]; simp [hyo]
  cases hfr : freeAt es out x with
  | false =>
    have fr := fr.bool (d := 37) rfl (by rw [hfree, hfr])
    skip; (repeat (with_reducible refine wp_seq ?_))
    refine cw_t fr rfl ?_
    refine wp_exit ?_
    skip; (repeat (first | (with_reducible refine then_e ?_) | (with_reducible refine ng_e ?_) | (with_reducible refine blk_e (by decide) ?_))); (with_reducible refine blk_y ?_); (repeat (with_reducible refine then_n ?_))
    skip; (repeat (with_reducible refine wp_seq ?_)); refine wp_region_lit ?_
    refine wl_run orcO_ok 2 rfl fr fun a fr => ?_
    refine wpList_nil ?_; (repeat (with_reducible refine then_n ?_))
    have fr := fr.spell (d := 28) rfl (congrArg (Value.int .i64) (Pl.w64s (n := i) (by omega)))
    refine ⟨i + 1, by omega, by omega, fun z hz => ?_, fr.sub ⟨rfl, rfl, rfl, rfl, rfl, rfl, rfl, trivial⟩, S⟩
    rw [hye] at hz
    rcases List.mem_append.1 hz with hz | hz
    · exact hno z hz
    · rw [List.mem_singleton] at hz; rw [hz]; exact hfr
  | true =>
    have fr := fr.bool (d := 37) rfl (by rw [hfree, hfr])
    skip; (repeat (with_reducible refine wp_seq ?_))
    refine cw_f fr rfl ?_
    refine wp_skip ?_
    (with_reducible refine then_n ?_)
    have hxo : x ∉ out := ho.fresh x hxm
    have hk0 : (lkM tm x).getD 0 = 0 := by simpa using (ho.told x).2 hxo
    skip; (repeat (with_reducible refine wp_seq ?_)); refine wp_region_lit ?_
    refine wl_ldf orcO_ok (Sat.varAt S 2 rfl) fr rfl rfl rfl rfl rfl rfl rfl fun a fr => ?_
    refine wl_run orcO_ok 1 rfl fr fun a fr => ?_
    refine wl_lk (f := Value.int .i64) orcO_ok (0 : Int) zeroI rfl (Sat.mapAt S 3 rfl) fr rfl rfl rfl rfl rfl rfl rfl rfl fun a fr => ?_
    rw [hk0] at fr
    refine wl_run orcO_ok 1 rfl fr fun a fr => ?_
    have fr := fr.spell (d := 41) rfl (show Value.int .i64 (IntKind.wrap .i64 (0 + 1)) = .int .i64 1 from rfl)
    have S : Sat _ _ (mapA .u32 (Value.int .i64) gt tm :: ownA .u32 86 A c left :: ownA .u32 86 A2 c2 out :: stA 167 bt [.map (some gt)] :: mapA .u32 rwV b m :: (rowsOf .u32 86 m ++ [])) := S.frontAt 3 rfl
    refine wl_up orcO_ok (1 : Int) fr rfl rfl (.inl rfl) rfl rfl rfl rfl rfl S ?_
    intro w9 S
    refine wpList_nil ?_; (repeat (with_reducible refine then_n ?_))
    skip; (repeat (with_reducible refine wp_seq ?_)); refine wp_region_lit ?_
    refine wl_run orcO_ok 2 rfl fr fun a fr => ?_
    refine wl_lit (xs := [x]) orcO_ok litW fr rfl rfl rfl rfl ⟨rfl, rfl, trivial⟩ rfl rfl S ?_
    intro w10 A10 c10 S a fr
    have hk10 := Sat.ownAt S 0 rfl
    have S : Sat _ _ (ownA .u32 86 A2 c2 out :: ownA .u32 86 A10 c10 [x] :: mapA .u32 (Value.int .i64) gt (upM tm x 1) :: ownA .u32 86 A c left :: stA 167 bt [.map (some gt)] :: mapA .u32 rwV b m :: (rowsOf .u32 86 m ++ [])) := S.frontAt 3 rfl
    refine wl_app litW fr rfl rfl rfl rfl rfl rfl rfl rfl hk10 (by simp only [List.length_cons, List.length_nil]; omega) S ?_
    intro w11 A11 c11 S a fr
    have S := S.mask [true, false]
    refine wl_run orcO_ok 1 rfl fr fun a fr => ?_
    refine wpList_nil ?_; (repeat (with_reducible refine then_n ?_))
    skip; (repeat (with_reducible refine wp_seq ?_)); refine wp_region_lit ?_
    refine wl_run orcO_ok 4 rfl fr fun a fr => ?_
    have fr := fr.spell (d := 49) rfl (congrArg (Value.int .i64) (Pl.w64s (n := i) (by omega)))
    have S : Sat _ _ (ownA .u32 86 A c left :: ownA .u32 86 A11 c11 (out ++ [x]) :: mapA .u32 (Value.int .i64) gt (upM tm x 1) :: stA 167 bt [.map (some gt)] :: mapA .u32 rwV b m :: (rowsOf .u32 86 m ++ [])) := S.frontAt 2 rfl
    refine wl_call fr rfl rfl rfl rfl enDel (delete_walk i hlt (by omega) S) ?_
    rintro _ w12 ⟨rfl, hv12, S⟩
    refine ⟨_, rfl, hv12, fun a fr => ?_⟩
    refine wl_run orcO_ok 1 rfl fr fun a fr => ?_
    refine wpList_nil ?_; (repeat (with_reducible refine then_n ?_))
    refine wp_exit ?_
    skip; (repeat (first | (with_reducible refine then_e ?_) | (with_reducible refine ng_e ?_) | (with_reducible refine blk_e (by decide) ?_))); (with_reducible refine blk_y ?_); (repeat (with_reducible refine then_n ?_))
    have hel : (left.eraseIdx i).length + 1 = left.length := by rw [List.length_eraseIdx_of_lt hlt]; omega
    have her : left.eraseIdx i = left.erase x := by rw [← hge, erase_nodup hlt ho.nodup]
    have S : Sat _ _ (ownA .u32 86 A c (left.eraseIdx i) :: ownA .u32 86 A11 c11 (out ++ [x]) :: stA 167 bt [.map (some gt)] :: mapA .u32 (Value.int .i64) gt (upM tm x 1) :: mapA .u32 rwV b m :: (rowsOf .u32 86 m ++ [])) := S.perm (List.Perm.cons _ (List.Perm.cons _ (List.Perm.swap _ _ _)))
    refine ⟨left.eraseIdx i, out ++ [x], upM tm x 1, A, c, A11, c11, by omega, ⟨?_, ?_, ?_, ?_, ?_, ?_⟩, fr.sub ⟨rfl, rfl, rfl, rfl, trivial⟩, S⟩
    · rw [← ho.go, her]
      obtain ⟨n, hn⟩ : ∃ n, left.length = n + 1 := ⟨left.length - 1, by omega⟩
      have hn2 : (left.erase x).length = n := by rw [← her]; omega
      rw [hn, hn2]
      conv => rhs; unfold ordGo
      rw [if_neg hnil, find_at_ hlt hno (by rw [hge]; exact hfr), hge]
    · exact ho.nodup.sublist (List.eraseIdx_sublist _ _)
    · exact fun z hz => ho.node z ((List.eraseIdx_sublist _ _).subset hz)
    · intro y
      rw [lk_up]
      by_cases hxy : x = y
      · rw [if_pos hxy]; simp [hxy]
      · rw [if_neg hxy, ho.told y, List.mem_append, List.mem_singleton]
        constructor
        · rintro h (h' | h')
          · exact h h'
          · exact hxy h'.symm
        · exact fun h h' => h (.inl h')
    · intro z hz
      rw [List.mem_append, List.mem_singleton]
      rintro (h | h)
      · exact ho.fresh z ((List.eraseIdx_sublist _ _).subset hz) h
      · subst h
        rw [her] at hz
        exact (List.Nodup.not_mem_erase ho.nodup) hz
    · rw [List.length_append]; simp only [List.length_cons, List.length_nil]; omega
end Go.Proofs.YticnjkdaccacaaaGreatDoor.Sx
end
section
/- The contract of rings.Order, among the things in memory. -/
namespace Go.Proofs.YticnjkdaccacaaaGreatDoor.Sx
open Go Go.RowKit Base Own

def ordR (l0 l1 : List Int) : Option (List Int) := if l0.length = l1.length then ordF (l0.zip l1) else none
theorem order_call {w0 w : World} {R : List Asn} {A A1 : Option Addr} {c c1 : Nat} {l l1 : List Int} (rk0 : Rk .u32 w A l) (rk1 : Rk .u32 w A1 l1) (m0 : l.length ≤ c ∧ c ≤ maxLen) (m1 : l1.length ≤ c1 ∧ c1 ≤ maxLen) (hb : l.length ≤ 500) (S : Sat w0 w R) :
    Calls Tryz.prog 50 #[.slice A l.length c, .slice A1 l1.length c1] w fun e w' => ∃ A2 c2, e = .returned (.tuple #[.slice A2 ((ordR l l1).getD []).length c2, .bool (ordR l l1).isSome]) ∧ vok (.tuple #[.slice A2 ((ordR l l1).getD []).length c2, .bool (ordR l l1).isSome]) = true ∧ Sat w0 w' (ownA .u32 86 A2 c2 ((ordR l l1).getD []) :: R) :=
  (order_key A A1 c c1 l l1 rk0 rk1 m0 m1 hb _ rfl).mono fun e w' ⟨A2, c2, h1, h2, h3⟩ => ⟨A2, c2, h1, by
    show [Value.slice A2 ((ordR l l1).getD []).length c2, Value.bool (ordR l l1).isSome].all vokC = true
    rw [List.all_cons, List.all_cons, List.all_nil]
    have h2' : vokC (.slice A2 ((ordR l l1).getD []).length c2) = true := h2
    rw [h2']; rfl, S.join h3 (fun A hA F => by simp only [List.mem_cons, List.not_mem_nil, or_false] at hA; subst hA; exact own_lower S.below.size F)⟩
end Go.Proofs.YticnjkdaccacaaaGreatDoor.Sx
end
section
/- A region that draws its order, some operations of which may come up in several orders: by what holds when so many of them have come up. -/
namespace Go.Proofs.YticnjkdaccacaaaGreatDoor.Sx
open Go Go.RowKit Base Own

/-- So many of them have come up: which, and which may come up next (each with what it leads to). -/
structure Pn where
  key : Nat
  fl : Array Bool
  js : List (Nat × Option Tmp × Nat)
def cntF (l : Array Bool) : Nat := l.toList.count false
def endI (I : Act → World → Prop) (e : Exit) (a : Act) (w : World) : Prop := e = .normal ∧ I a w
section
variable {P : Program} {ops : Array Oper} {Q : Exit → Act → World → Prop} {S : World → Prop}
def okNode (ops : Array Oper) (all : List Pn) (lf : Array Bool) (kf : Nat) (nd : Pn) : Bool :=
  (Region.ready .any ops nd.fl == nd.js.map (·.1)) && !nd.js.isEmpty && nd.js.all fun x =>
    (cntF nd.fl == cntF (nd.fl.setIfInBounds x.1 true) + 1) && ((x.2.2 == kf && nd.fl.setIfInBounds x.1 true == lf) || all.any fun m => m.key == x.2.2 && m.fl == nd.fl.setIfInBounds x.1 true)
def stripJ (ops : Array Oper) : List (Nat × Option Tmp × Nat) → Option (List (SOp × Nat))
  | [] => some []
  | (j, N, k) :: r => (strip ops (j, false, N)).bind fun s => if s.g.isNone && ((ops[j]?).map (·.dst) == some N) then (stripJ ops r).map ((s, k) :: ·) else none
def stripP (ops : Array Oper) : List Pn → Option (List (Nat × List (SOp × Nat)))
  | [] => some []
  | nd :: r => (stripJ ops nd.js).bind fun l => (stripP ops r).map ((nd.key, l) :: ·)
def PJ (P : Program) (S : World → Prop) (I : Nat → Act → World → Prop) (k : Nat) : List (SOp × Nat) → Prop
  | [] => True
  | (s, k') :: r => (∀ a w, S w → I k a w → SL P (endI (I k')) S [.one s] a w) ∧ PJ P S I k r
def PSteps (P : Program) (S : World → Prop) (I : Nat → Act → World → Prop) : List (Nat × List (SOp × Nat)) → Prop
  | [] => True
  | (k, l) :: r => PJ P S I k l ∧ PSteps P S I r
theorem pj_at {I : Nat → Act → World → Prop} {k : Nat} : ∀ {js : List (Nat × Option Tmp × Nat)} {l : List (SOp × Nat)}, stripJ ops js = some l → PJ P S I k l → ∀ x ∈ js, ∃ o, ops[x.1]? = some o ∧ (∀ t, Region.wanted o t = true) ∧
    ∀ a w, S w → I k a w → ∀ K : Act → World → Prop, (∀ a' w', S w' → I x.2.2 a' w' → K a' w') → Oper.wp P o a w K (fun _ _ _ => False) := by
  intro js
  induction js with
  | nil => intro l _ _ x hx; cases hx
  | cons y js ih =>
    obtain ⟨j, N, k'⟩ := y
    intro l hl hp x hx
    simp only [stripJ, Option.bind_eq_some_iff] at hl
    obtain ⟨s, hs, hl⟩ := hl
    split at hl
    case isFalse => cases hl
    rename_i hg
    rw [Option.map_eq_some_iff] at hl
    obtain ⟨l', hl', rfl⟩ := hl
    simp only [Bool.and_eq_true, Option.isNone_iff_eq_none, beq_iff_eq] at hg
    rcases List.mem_cons.1 hx with rfl | hx
    · cases ho : ops[j]? with
      | none => rw [ho] at hg; simp at hg
      | some o =>
        rw [ho] at hg
        have hd : o.dst = N := by simpa using hg.2
        have hgo : o.guard = none := by
          have hs' := hs
          unfold strip at hs'
          rw [ho] at hs'
          simp only [Option.bind_some] at hs'
          cases hgg : o.guard with
          | none => rfl
          | some g =>
            rw [hgg] at hs'
            simp only [Option.map_eq_some_iff] at hs'
            obtain ⟨t', _, rfl⟩ := hs'
            exact absurd hg.1 (by simp)
        refine ⟨o, rfl, fun t => by simp [Region.wanted, hgo], fun a w hS hI K hK => ?_⟩
        obtain ⟨_, hq, hsd, hop, hty⟩ := strip_wanted (x := (j, false, N)) ho hs a.tmps
        rcases hp.1 a w hS hI with ⟨h1, _, _⟩ | ⟨_, h2, _⟩ | ⟨_, _, h3⟩
        · have : s.wanted a.tmps = true := by simp [SOp.wanted, hg.1]
          rw [this] at h1; cases h1
        · have h2' : s.q = true := h2
          rw [hq] at h2'; cases h2'
        · exact oper_same hop hty (hsd.trans hd.symm) (h3 K fun a' w' hS' hh => hK a' w' hS' hh.2)
    · exact ih hl' hp.2 x hx
theorem psteps_at {I : Nat → Act → World → Prop} : ∀ {nodes : List Pn} {L : List (Nat × List (SOp × Nat))}, stripP ops nodes = some L → PSteps P S I L → ∀ nd ∈ nodes, ∃ l, stripJ ops nd.js = some l ∧ PJ P S I nd.key l := by
  intro nodes
  induction nodes with
  | nil => intro L _ _ nd h; cases h
  | cons n nodes ih =>
    intro L hL hp nd hnd
    simp only [stripP, Option.bind_eq_some_iff, Option.map_eq_some_iff] at hL
    obtain ⟨l, hl, L', hL', rfl⟩ := hL
    rcases List.mem_cons.1 hnd with rfl | hnd
    · exact ⟨l, hl, hp.1⟩
    · exact ih hL' hp.2 nd hnd
theorem pool_held {I : Nat → Act → World → Prop} {nodes : List Pn} {lf : Array Bool} {kf : Nat} {L : List (Nat × List (SOp × Nat))} (hall : nodes.all (okNode ops nodes lf kf) = true) (hL : stripP ops nodes = some L) (hs : PSteps P S I L)
    (hfin : ∀ a w, S w → I kf a w → wpAnyH P .any ops (np Q) S (cntF lf) lf a w) : ∀ (n : Nat) (nd : Pn), nd ∈ nodes → cntF nd.fl = n → ∀ a w, S w → I nd.key a w → wpAnyH P .any ops (np Q) S n nd.fl a w := by
  intro n
  induction n with
  | zero =>
    intro nd hnd hc a w hS hI
    have hok := List.all_eq_true.1 hall nd hnd
    unfold okNode at hok
    simp only [Bool.and_eq_true, List.all_eq_true, beq_iff_eq, Bool.not_eq_true', List.isEmpty_eq_false_iff] at hok
    obtain ⟨⟨h1, h2⟩, h3⟩ := hok
    obtain ⟨x, hx⟩ := List.exists_mem_of_ne_nil _ h2
    have := (h3 x hx).1
    omega
  | succ n ih =>
    intro nd hnd hc a w hS hI
    have hok := List.all_eq_true.1 hall nd hnd
    unfold okNode at hok
    simp only [Bool.and_eq_true, List.all_eq_true, beq_iff_eq, Bool.not_eq_true', List.isEmpty_eq_false_iff] at hok
    obtain ⟨⟨h1, h2⟩, h3⟩ := hok
    obtain ⟨l, hl, hj⟩ := psteps_at hL hs nd hnd
    refine wpAnyH_all h1 (by simpa using h2) fun i hi => ?_
    obtain ⟨x, hx, rfl⟩ := List.mem_map.1 hi
    obtain ⟨o, ho, hw, hstep⟩ := pj_at hl hj x hx
    have h4 := h3 x hx
    simp only [Bool.or_eq_true, Bool.and_eq_true, beq_iff_eq, List.any_eq_true] at h4
    obtain ⟨h5, h6⟩ := h4
    refine wpOp_of ho hw (hstep a w hS hI _ fun a' w' hS' hI' => ⟨hS', ?_⟩)
    rcases h6 with ⟨h7, h8⟩ | ⟨m, hm, h7, h8⟩
    · rw [h8]
      rw [h8] at h5
      have := hfin a' w' hS' (by rw [← h7]; exact hI')
      rwa [show cntF lf = n by omega] at this
    · rw [← h8]
      rw [← h8] at h5
      exact ih m hm (by omega) a' w' hS' (by rw [h7]; exact hI')
def flagsB : Array Bool → List Sg → Array Bool
  | l, [] => l
  | l, .one (i, _, _) :: r => flagsB (l.setIfInBounds i true) r
  | l, .two i j _ _ :: r => flagsB ((l.setIfInBounds i true).setIfInBounds j true) r
def okPre (ops : Array Oper) : Array Bool → List Sg → Bool
  | _, [] => true
  | l, .one (i, true, _) :: r => Region.free .any ops l i && (Region.ready .any ops l).contains i && okPre ops (l.setIfInBounds i true) r
  | _, _ => false
theorem pre_held (hsel : Region.noSelect ops = true) {Q0 : Exit → Act → World → Prop} {n : Nat} : ∀ (σ : List Sg) (l : Array Bool) (a : Act) (w : World), okPre ops l σ = true → S w → (∀ a w, S w → Q0 .normal a w → wpAnyH P .any ops (np Q) S n (flagsB l σ) a w) → Sched P ops Q0 S σ a w →
    wpAnyH P .any ops (np Q) S (n + cost σ) l a w := by
  intro σ
  induction σ with
  | nil => intro l a w _ hS hf h; exact hf a w hS h
  | cons x r ih =>
    intro l a w hok hS hf h
    cases x with
    | two i j N M => simp [okPre] at hok
    | one x =>
      obtain ⟨i, b, N⟩ := x
      cases b with
      | false => simp [okPre] at hok
      | true =>
        obtain ⟨o, v, ho, rfl, hy, h⟩ := h
        simp only [okPre, Bool.and_eq_true] at hok
        exact wpAnyH_take ho hsel hok.1.1 hok.1.2 (fun _ _ _ hp => hp) hy hS (ih _ _ _ hok.2 hS hf h)
/-- The beginning: what only yields; the pool; what stands behind it. -/
theorem wp_region_pool {id : Nat} {a : Act} {w : World} (I : Nat → Act → World → Prop) (σ0 : List Sg) (L0 : List Itm) (nodes : List Pn) (n0 : Pn) (L : List (Nat × List (SOp × Nat))) (lf : Array Bool) (kf : Nat) (σ1 : List Sg) (L1 : List Itm) (S : World → Prop) (hm : P.follows .mixedOrders = true)
    (hok : (Region.noSelect ops && okPre ops (Array.replicate ops.size false) σ0 && (flagsB (Array.replicate ops.size false) σ0 == n0.fl) && (ops.size == cntF n0.fl + cost σ0) && (cntF lf == cost σ1) && okS ops lf σ1 && dstsOk ops σ0 && dstsOk ops σ1) = true)
    (hn0 : n0 ∈ nodes) (hall : nodes.all (okNode ops nodes lf kf) = true) (hL0 : strips ops σ0 = some L0) (hL : stripP ops nodes = some L) (hL1 : strips ops σ1 = some L1) (hS : S w.drew)
    (h0 : SL P (endI (I n0.key)) S L0 a w.drew) (hs : PSteps P S I L) (h1 : ∀ a w, S w → I kf a w → SL P Q S L1 a w) : (Code.region id ops true).wp P Q a w := by
  simp only [Bool.and_eq_true, beq_iff_eq] at hok
  obtain ⟨⟨⟨⟨⟨⟨⟨q1, q2⟩, q3⟩, q4⟩, q5⟩, q6⟩, q7⟩, q8⟩ := hok
  refine np_mono (wp_region_held (S := S) hm ?_)
  rw [q4] at *
  have key := pre_held (P := P) (S := S) (Q := Q) (n := cntF n0.fl) q1 σ0 (Array.replicate (cntF n0.fl + cost σ0) false) a w.drew (by rw [← q4] at q2 ⊢; exact q2) hS (Q0 := endI (I n0.key)) (fun a' w' hS' hq => by
    have e : flagsB (Array.replicate (cntF n0.fl + cost σ0) false) σ0 = n0.fl := q3
    rw [e]
    refine pool_held hall hL hs (fun a'' w'' hS'' hI => ?_) _ n0 hn0 rfl a' w' hS' hq.2
    rw [q5]
    exact sched_held q1 σ1 lf a'' w'' q6 hS'' (sl_sched σ1 L1 a'' w'' hL1 q8 (h1 a'' w'' hS'' hI))) (sl_sched σ0 L0 a _ hL0 q7 h0)
  exact key
end
end Go.Proofs.YticnjkdaccacaaaGreatDoor.Sx
end
section
/- What a row's arguments read as. -/
namespace Go.Proofs.YticnjkdaccacaaaGreatDoor.Base
open Go Go.RowKit Go.ChangeShapes Go.WideShapes

def IsRow (k : IntKind) (w : World) (a : Option Addr) (len cap : Nat) (zs : List Int) : Prop :=
  (a = none ∧ len = 0 ∧ cap = 0 ∧ zs = []) ∨
  ∃ x, a = some x ∧ len ≤ cap ∧ cap ≤ maxLen ∧ zs.length = cap ∧ (∀ i, i < zs.length → w.cell? (x.add i) = some (.int k (zs.getD i 0))) ∧ ∀ n ∈ zs, (Lit.int k n).wf = true
theorem IsRow.reads {k : IntKind} {w : World} {a : Option Addr} {len cap : Nat} {zs : List Int} (h : IsRow k w a len cap zs) :
    ∃ l : List Int, l.length = len ∧ len ≤ cap ∧ cap ≤ maxLen ∧ (∀ n ∈ l, (Lit.int k n).wf = true) ∧ Rd k w a l := by
  rcases h with ⟨rfl, rfl, rfl, rfl⟩ | ⟨x, rfl, h1, h2, h3, h4, h5⟩
  · exact ⟨[], rfl, Nat.le_refl _, Nat.zero_le _, (fun n hn => by cases hn), Rd.nil⟩
  · refine ⟨zs.take len, by rw [List.length_take]; omega, h1, h2, fun n hn => h5 n (List.mem_of_mem_take hn), fun hne => ?_⟩
    have hpos : 0 < zs.length := by
      rcases Nat.eq_zero_or_pos zs.length with h | h
      · rw [List.length_eq_zero_iff.1 h] at hne; simp at hne
      · exact h
    have h0 := h4 0 hpos
    have hlt := World.block_lt_of_cell? w _ h0
    rw [add_block] at hlt
    refine ⟨x, rfl, hlt, fun j hj => ?_⟩
    rw [List.length_take] at hj
    rw [h4 j (by omega), List.getD_eq_getElem?_getD, List.getD_eq_getElem?_getD, List.getElem?_take, if_pos (by omega)]

/-- A slice's length, by its weight. -/
theorem sized_row {H : Type} {enc : TypeId × Value → H} {P : Program} {W : World} {base : Nat} {spare : Nat → Bool} {held : Bool} {t e : TypeId} {k : IntKind} {a : Option Addr} {len cap : Nat} {d : DataW H} {ps : List MemPlace} {ts : List TypeId} {ds : List (DataW H)} {j : Nat}
    (hsz : (DataW.weightsEach P ts ds).all (· ≤ reachBytes) = true) (ht : ts[j]? = some t) (hd : ds[j]? = some d) (hu : P.underlying t = some (.slice e)) (he : P.underlying e = some (.int k)) (hc : P.cellsOf e = 1) {B : Nat} (hB : P.bytesOf e = B) (hB0 : 0 < B)
    (h : DataW.Trod enc P W base spare held t (.slice a len cap) d ps) : len ≤ 140737488351232 := by
  obtain ⟨fuel, hf⟩ := h
  rcases open_ints hu he hc hf with ⟨hcs, _⟩ | ⟨x, l, c, zs, hcs, _, hl, _, hz, hx, _, _⟩
  · simp [Value.cells] at hcs
    obtain ⟨rfl, rfl, rfl⟩ := hcs
    omega
  · simp [Value.cells] at hcs
    obtain ⟨rfl, rfl, rfl⟩ := hcs
    obtain ⟨hx, _⟩ := Prod.mk.inj hx
    subst hx
    have z := sized_slice hsz ht hd hu
    rw [hB] at z
    have hl2 : len ≤ zs.length := by
      rw [hz]
      split
      · exact hl
      · exact Nat.le_refl _
    have h1 : (lits (H := H) k (zs.take len)).length + (lits (H := H) k (zs.drop len)).length = zs.length := by
      simp [lits]
      omega
    rw [h1] at z
    have z2 : zs.length * 1 ≤ zs.length * B := Nat.mul_le_mul_left _ hB0
    have z3 : reachBytes = 140737488351232 := by decide
    omega
end Go.Proofs.YticnjkdaccacaaaGreatDoor.Base
end
section
/- What arguments of any shape read as: numbers, bools, strings, arrays, structs, slices. -/
namespace Go.Proofs.YticnjkdaccacaaaGreatDoor.Base
open Go Go.RowKit Go.ChangeShapes Go.WideShapes

structure Rdr (α : Type) where
  sz : Nat
  R : World → List Value → α → Prop
  len : ∀ {w cs x}, R w cs x → cs.length = sz
  keep : ∀ {w w1 : World} {cs x}, Below w.heap.size w w1 → R w cs x → R w1 cs x
namespace Rdr
def int (k : IntKind) : Rdr Int where
  sz := 1
  R := fun _ cs x => cs = [.int k x] ∧ (Lit.int k x).wf = true
  len := by rintro w cs x ⟨rfl, _⟩; rfl
  keep := fun _ h => h
def bool : Rdr Bool where
  sz := 1
  R := fun _ cs x => cs = [.bool x]
  len := by rintro w cs x rfl; rfl
  keep := fun _ h => h
def str : Rdr ByteArray where
  sz := 1
  R := fun _ cs x => cs = [.string x] ∧ x.size ≤ maxLen
  len := by rintro w cs x ⟨rfl, _⟩; rfl
  keep := fun _ h => h
def unit : Rdr Unit where
  sz := 0
  R := fun _ cs _ => cs = []
  len := by rintro w cs x rfl; rfl
  keep := fun _ h => h
def pair {α β : Type} (r : Rdr α) (s : Rdr β) : Rdr (α × β) where
  sz := r.sz + s.sz
  R := fun w cs x => ∃ c d, cs = c ++ d ∧ r.R w c x.1 ∧ s.R w d x.2
  len := by
    rintro w cs x ⟨c, d, rfl, h1, h2⟩
    rw [List.length_append, r.len h1, s.len h2]
  keep := by
    rintro w w1 cs x hb ⟨c, d, rfl, h1, h2⟩
    exact ⟨c, d, rfl, r.keep hb h1, s.keep hb h2⟩
def arr {α : Type} (n : Nat) (r : Rdr α) : Rdr (List α) where
  sz := n * r.sz
  R := fun w cs x => cs.length = n * r.sz ∧ x.length = n ∧ ∀ i y, x[i]? = some y → r.R w ((cs.drop (i * r.sz)).take r.sz) y
  len := fun h => h.1
  keep := fun hb h => ⟨h.1, h.2.1, fun i y hy => r.keep hb (h.2.2 i y hy)⟩
/-- A row of elements in memory. -/
def Row {α : Type} (r : Rdr α) (w : World) (A : Option Addr) (l : List α) : Prop :=
  l ≠ [] → ∃ ad, A = some ad ∧ (0 < r.sz → ad.block < w.heap.size) ∧ ∀ i y, l[i]? = some y → ∃ c, r.R w c y ∧ ∀ j u, c[j]? = some u → w.cell? (ad.add (i * r.sz + j)) = some u
theorem Row.keep {α : Type} {r : Rdr α} {w w1 : World} {A : Option Addr} {l : List α} (h : Row r w A l) (hb : Below w.heap.size w w1) : Row r w1 A l := fun hne => by
  obtain ⟨ad, e, h1, h2⟩ := h hne
  refine ⟨ad, e, fun hp => Nat.lt_of_lt_of_le (h1 hp) hb.size, fun i y hy => ?_⟩
  obtain ⟨c, h3, h4⟩ := h2 i y hy
  refine ⟨c, r.keep hb h3, fun j u hu => ?_⟩
  have h5 := h4 j u hu
  have h6 := World.block_lt_of_cell? w _ h5
  rw [hb.cell h6]; exact h5
def sl {α : Type} (r : Rdr α) : Rdr (List α) where
  sz := 1
  R := fun w cs x => ∃ A cap, cs = [.slice A x.length cap] ∧ x.length ≤ cap ∧ cap ≤ maxLen ∧ Row r w A x
  len := by rintro w cs x ⟨A, cap, rfl, _⟩; rfl
  keep := by
    rintro w w1 cs x hb ⟨A, cap, rfl, h1, h2, h3⟩
    exact ⟨A, cap, rfl, h1, h2, h3.keep hb⟩
/-- A row of whole numbers. -/
theorem Row.rd {k : IntKind} {w : World} {A : Option Addr} {l : List Int} (h : Row (int k) w A l) : Rd k w A l ∧ ∀ x ∈ l, (Lit.int k x).wf = true := by
  refine ⟨fun hne => ?_, fun x hx => ?_⟩
  · obtain ⟨ad, e, h1, h2⟩ := h hne
    refine ⟨ad, e, h1 Nat.one_pos, fun j hj => ?_⟩
    obtain ⟨c, ⟨rfl, _⟩, h4⟩ := h2 j _ (List.getElem?_eq_getElem hj)
    have := h4 0 _ rfl
    rw [show j * (int k).sz + 0 = j from by show j * 1 + 0 = j; omega] at this
    rw [this, List.getD_eq_getElem?_getD, List.getElem?_eq_getElem hj]; rfl
  · obtain ⟨i, hi, rfl⟩ := List.getElem_of_mem hx
    obtain ⟨ad, e, h1, h2⟩ := h (by intro e; rw [e] at hi; exact absurd hi (Nat.not_lt_zero _))
    obtain ⟨c, ⟨rfl, h3⟩, _⟩ := h2 i _ (List.getElem?_eq_getElem hi)
    exact h3
/-- An array of whole numbers. -/
theorem arr_int {k : IntKind} {n : Nat} {w : World} {cs : List Value} {l : List Int} (h : (arr n (int k)).R w cs l) : l.length = n ∧ cs = l.map (Value.int k) ∧ ∀ x ∈ l, (Lit.int k x).wf = true := by
  obtain ⟨h1, h2, h3⟩ := h
  refine ⟨h2, ?_, fun x hx => ?_⟩
  · apply List.ext_getElem?
    intro i
    by_cases hi : i < n
    · have h4 := (h3 i _ (List.getElem?_eq_getElem (by omega))).1
      rw [List.getElem?_map, List.getElem?_eq_getElem (show i < l.length by omega)]
      have h5 := congrArg (fun l : List Value => l[0]?) h4
      simp only [int, Nat.mul_one, List.getElem?_take, List.getElem?_drop] at h5
      simpa using h5
    · rw [List.getElem?_eq_none (by show cs.length ≤ i; rw [h1]; show n * 1 ≤ i; omega), List.getElem?_eq_none (by simp; omega)]
  · obtain ⟨i, hi, rfl⟩ := List.getElem_of_mem hx
    exact (h3 i _ (List.getElem?_eq_getElem hi)).2
/-! ### What the form's reading gives -/
def Of (P : Program) (t : TypeId) {α : Type} (r : Rdr α) : Prop :=
  P.cellsOf t = r.sz ∧ ∀ (H : Type) (enc : TypeId × Value → H) (w : World) (base : Nat) (spare : Nat → Bool) (held : Bool) (fuel : Nat) (cs : List Value) (x : DataW H × List MemPlace),
    DataW.trod enc P w base spare held fuel t cs = some x → ∃ y, r.R w cs y
section
variable {P : Program} {t : TypeId}
theorem of_int {k : IntKind} (ht : P.underlying t = some (.int k)) (hc : P.cellsOf t = 1) : Of P t (int k) := by
  refine ⟨hc, fun H enc w base spare held fuel cs x h => ?_⟩
  cases fuel with
  | zero => simp [DataW.trod] at h
  | succ n =>
    unfold DataW.trod at h
    rw [ht] at h
    split at h <;> simp_all
    rename_i k' n' _
    exact ⟨n', by simp [int, h.1]⟩
theorem of_bool (ht : P.underlying t = some .bool) (hc : P.cellsOf t = 1) : Of P t bool := by
  refine ⟨hc, fun H enc w base spare held fuel cs x h => ?_⟩
  obtain ⟨b, hcs, _⟩ := DataW.trod_bool ht h
  exact ⟨b, hcs⟩
theorem of_str (ht : P.underlying t = some .string) (hc : P.cellsOf t = 1) : Of P t str := by
  refine ⟨hc, fun H enc w base spare held fuel cs x h => ?_⟩
  obtain ⟨s, hcs, _, hs⟩ := DataW.trod_string ht h
  exact ⟨s, hcs, hs⟩
theorem of_arr {α : Type} {r : Rdr α} {e : TypeId} {n : Nat} (ht : P.underlying t = some (.array n e)) (hc : P.cellsOf t = n * r.sz) (he : Of P e r) : Of P t (arr n r) := by
  refine ⟨hc, fun H enc w base spare held fuel cs x h => ?_⟩
  obtain ⟨xs, m, rfl, rfl, hl, hn, hx⟩ := DataW.trod_array ht h
  have hex : ∀ i, i < n → ∃ y, r.R w ((cs.drop (i * r.sz)).take r.sz) y := by
    intro i hi
    have h1 := hx i hi
    rw [he.1, List.getElem?_eq_getElem (by omega)] at h1
    exact he.2 H enc w base spare held m _ _ h1
  obtain ⟨f, hf⟩ : ∃ f : Fin n → α, ∀ i : Fin n, r.R w ((cs.drop (i.val * r.sz)).take r.sz) (f i) :=
    ⟨fun i => (hex i.val i.isLt).choose, fun i => (hex i.val i.isLt).choose_spec⟩
  refine ⟨List.ofFn f, by rw [hl, hc], by simp, fun i y hy => ?_⟩
  have hi : i < n := by
    have := (List.getElem?_eq_some_iff.1 hy).1; simpa using this
  have h2 := (List.getElem?_eq_some_iff.1 hy).2
  rw [List.getElem_ofFn] at h2
  rw [← h2]; exact hf ⟨i, hi⟩
theorem of_sl {α : Type} {r : Rdr α} {e : TypeId} (ht : P.underlying t = some (.slice e)) (hc : P.cellsOf t = 1) (he : Of P e r) : Of P t (sl r) := by
  refine ⟨hc, fun H enc w base spare held fuel cs x h => ?_⟩
  rcases Deep.open_slice ht h with ⟨rfl, _⟩ | ⟨a, len, cap, m, n, D, Pl, rfl, hb, hl, hm, hmm, _, hx⟩
  · exact ⟨[], none, 0, rfl, Nat.le_refl _, Nat.zero_le _, fun h => absurd rfl h⟩
  · rw [he.1] at hx
    have hlm : len ≤ m := by rw [hmm]; split <;> omega
    have hex : ∀ i, i < len → ∃ y c, w.cells? base (a.add (i * r.sz)) r.sz = some c ∧ r.R w c y := by
      intro i hi
      obtain ⟨c, h1, h2⟩ := hx i (by omega)
      obtain ⟨y, hy⟩ := he.2 H enc w base spare held n _ _ h2
      exact ⟨y, c, h1, hy⟩
    obtain ⟨f, hf⟩ : ∃ f : Fin len → α, ∀ i : Fin len, ∃ c, w.cells? base (a.add (i.val * r.sz)) r.sz = some c ∧ r.R w c (f i) :=
      ⟨fun i => (hex i.val i.isLt).choose, fun i => (hex i.val i.isLt).choose_spec⟩
    refine ⟨List.ofFn f, some a, cap, by simp, by simp; exact hl, hm, fun hne => ⟨a, rfl, fun hp => ?_, fun i y hy => ?_⟩⟩
    · have hpos : 0 < len := by
        rcases Nat.eq_zero_or_pos len with h0 | h0
        · subst h0; simp at hne
        · exact h0
      obtain ⟨c, h1, h2⟩ := hf ⟨0, hpos⟩
      obtain ⟨_, hlen, hcell⟩ := World.cells?_some h1
      have h3 := hcell 0 (by omega)
      rw [List.getElem?_eq_getElem (by omega)] at h3
      have h4 := World.block_lt_of_cell? w _ h3
      rw [add_block, add_block] at h4
      exact h4
    · have hi : i < len := by
        have := (List.getElem?_eq_some_iff.1 hy).1; simpa using this
      have h2 := (List.getElem?_eq_some_iff.1 hy).2
      rw [List.getElem_ofFn] at h2
      obtain ⟨c, h3, h4⟩ := hf ⟨i, hi⟩
      rw [h2] at h4
      refine ⟨c, h4, fun j u hu => ?_⟩
      obtain ⟨_, hlen, hcell⟩ := World.cells?_some h3
      have hj : j < r.sz := by have := (List.getElem?_eq_some_iff.1 hu).1; omega
      have h5 := hcell j hj
      rw [add_add] at h5
      rw [h5]; exact hu
/-- A struct's fields, one behind the other. -/
def OfF (P : Program) (fs : List Field) (off : Nat) {α : Type} (r : Rdr α) : Prop :=
  ∀ (H : Type) (enc : TypeId × Value → H) (w : World) (base : Nat) (spare : Nat → Bool) (held : Bool) (fuel : Nat) (cs : List Value) (xs : List (DataW H × List MemPlace)),
    cs.length = off + r.sz → (fs.mapM fun f => DataW.trod enc P w base spare held fuel f.type ((cs.drop f.offset).take (P.cellsOf f.type))) = some xs → ∃ y, r.R w (cs.drop off) y
theorem ofF_nil (off : Nat) : OfF P [] off unit := by
  intro H enc w base spare held fuel cs xs hl _
  exact ⟨(), List.drop_eq_nil_of_le (by rw [hl]; exact Nat.le_refl _)⟩
theorem ofF_cons {α β : Type} {r : Rdr α} {s : Rdr β} {f : Field} {fs : List Field} {off : Nat} (hf : f.offset = off) (hr : Of P f.type r) (hs : OfF P fs (off + r.sz) s) : OfF P (f :: fs) off (pair r s) := by
  intro H enc w base spare held fuel cs xs hl h
  have hl' : cs.length = off + (r.sz + s.sz) := hl
  simp only [List.mapM_cons, Option.bind_eq_bind, Option.bind_eq_some_iff] at h
  obtain ⟨x, h1, ys, h2, _⟩ := h
  rw [hf, hr.1] at h1
  obtain ⟨a, ha⟩ := hr.2 H enc w base spare held fuel _ _ h1
  obtain ⟨b, hb⟩ := hs H enc w base spare held fuel cs ys (by omega) h2
  refine ⟨(a, b), (cs.drop off).take r.sz, cs.drop (off + r.sz), ?_, ha, hb⟩
  rw [← List.drop_drop, List.take_append_drop]
theorem of_st {α : Type} {r : Rdr α} {fs : Array Field} (ht : P.underlying t = some (.struct fs)) (hc : P.cellsOf t = r.sz) (hF : OfF P fs.toList 0 r) : Of P t r := by
  refine ⟨hc, fun H enc w base spare held fuel cs x h => ?_⟩
  cases fuel with
  | zero => simp [DataW.trod] at h
  | succ n =>
    unfold DataW.trod at h
    rw [ht] at h
    simp only at h
    split at h
    · rename_i hl
      simp only [Option.map_eq_some_iff] at h
      obtain ⟨xs, hxs, _⟩ := h
      have := hF H enc w base spare held n cs xs (by rw [hl, hc]; omega) hxs
      simpa using this
    · cases h
theorem okWide_agg {w : World} {r : Reach} {base : Nat} {v : Value} (ht : (∃ fs, P.underlying t = some (.struct fs)) ∨ ∃ n e, P.underlying t = some (.array n e)) (hv : Value.okWide P w r base t v) : ∃ cs, v = .agg cs := by
  unfold Value.okWide at hv
  rcases ht with ⟨fs, ht⟩ | ⟨n, e, ht⟩ <;> rw [ht] at hv <;> obtain ⟨cs, h, _⟩ := hv <;> exact ⟨cs, h⟩
/-- A row's argument that is a slice. -/
theorem of_slice_arg {α : Type} {r : Rdr α} {H : Type} {enc : TypeId × Value → H} {w : World} {base : Nat} {spare : Nat → Bool} {held : Bool} {A : Option Addr} {len cap : Nat} {d : DataW H} {ps : List MemPlace} (h : Of P t (sl r)) (hd : DataW.Trod enc P w base spare held t (.slice A len cap) d ps) :
    ∃ l : List α, l.length = len ∧ len ≤ cap ∧ cap ≤ maxLen ∧ Row r w A l := by
  obtain ⟨fuel, hf⟩ := hd
  obtain ⟨l, A', cap', e, h1, h2, h3⟩ := h.2 H enc w base spare held fuel _ _ hf
  simp only [Value.cells, List.cons.injEq, and_true] at e
  injection e with e1 e2 e3
  subst e1 e2 e3
  exact ⟨l, rfl, h1, h2, h3⟩
/-- A row's argument that is an array or a struct. -/
theorem of_agg_arg {α : Type} {r : Rdr α} {H : Type} {enc : TypeId × Value → H} {w : World} {base : Nat} {spare : Nat → Bool} {held : Bool} {cs : Array Value} {d : DataW H} {ps : List MemPlace} (h : Of P t r) (hd : DataW.Trod enc P w base spare held t (.agg cs) d ps) :
    ∃ x : α, r.R w cs.toList x := by
  obtain ⟨fuel, hf⟩ := hd
  exact h.2 H enc w base spare held fuel _ _ hf
end
end Rdr
end Go.Proofs.YticnjkdaccacaaaGreatDoor.Base
end
section
/- Rows of rows: slices of slices of numbers, read in place; and those of the call's own, that grow. -/
namespace Go.Proofs.YticnjkdaccacaaaGreatDoor.Sx
open Go Go.RowKit Base Own OwnV

/-! ### What is read -/
theorem row_of_rk {k : IntKind} {w : World} {A : Option Addr} {l : List Int} (h : Rk k w A l) : Rdr.Row (Rdr.int k) w A l := fun hne => by
  obtain ⟨ad, e, h1, h2⟩ := h.rd hne
  refine ⟨ad, e, fun _ => h1, fun i y hy => ⟨[.int k y], ⟨rfl, h.wf y (List.mem_of_getElem? hy)⟩, fun j u hu => ?_⟩⟩
  cases j with
  | zero =>
    injection hu with hu
    obtain ⟨hi, hy⟩ := List.getElem?_eq_some_iff.1 hy
    have := h2 i hi
    rw [show i * (Rdr.int k).sz + 0 = i from by show i * 1 + 0 = i; omega, this, ← hu, List.getD_eq_getElem?_getD, List.getElem?_eq_getElem hi, ← hy]; rfl
  | succ j => cases hu
theorem rk_of_row {k : IntKind} {w : World} {A : Option Addr} {l : List Int} (h : Rdr.Row (Rdr.int k) w A l) : Rk k w A l := ⟨(Rdr.Row.rd h).1, (Rdr.Row.rd h).2⟩
/-- Rows of rows of numbers of a kind. -/
abbrev RR (k : IntKind) (w : World) (A : Option Addr) (ls : List (List Int)) : Prop := Rdr.Row (Rdr.sl (Rdr.int k)) w A ls
theorem RR.take {k : IntKind} {w : World} {A : Option Addr} {ls : List (List Int)} (h : RR k w A ls) (n : Nat) : RR k w A (ls.take n) := fun hne => by
  have hn : ls ≠ [] := fun e => hne (by rw [e, List.take_nil])
  obtain ⟨ad, e, h1, h2⟩ := h hn
  refine ⟨ad, e, h1, fun i y hy => ?_⟩
  rw [List.getElem?_take] at hy
  split at hy
  · exact h2 i y hy
  · cases hy
theorem RR.nil {k : IntKind} {w : World} {A : Option Addr} : RR k w A [] := fun h => absurd rfl h
/-- An element. -/
theorem RR.get {k : IntKind} {w : World} {A : Option Addr} {ls : List (List Int)} (h : RR k w A ls) {i : Int} (hi : 0 ≤ i ∧ i < (ls.length : Int)) :
    ∃ A' c', Rk k w A' (ls.getD i.toNat []) ∧ ((ls.getD i.toNat []).length ≤ c' ∧ c' ≤ maxLen) ∧ ∃ ad, A = some ad ∧ w.cell? (ad.add (i.toNat * 1)) = some (.slice A' (ls.getD i.toNat []).length c') := by
  obtain ⟨j, rfl⟩ : ∃ j : Nat, i = j := ⟨i.toNat, by omega⟩
  have hj : j < ls.length := by omega
  obtain ⟨ad, e, _, h2⟩ := h (by intro e; rw [e] at hj; exact absurd hj (Nat.not_lt_zero _))
  obtain ⟨c, ⟨A', c', rfl, h3, h4, h5⟩, h6⟩ := h2 j _ (List.getElem?_eq_getElem hj)
  have hg : ls.getD j [] = ls[j] := by rw [List.getD_eq_getElem?_getD, List.getElem?_eq_getElem hj]; rfl
  have h7 := h6 0 _ rfl
  have h8 : (Rdr.sl (Rdr.int k)).sz = 1 := rfl
  rw [h8, Nat.add_zero] at h7
  rw [Int.toNat_natCast, hg]
  exact ⟨A', c', rk_of_row h5, ⟨h3, h4⟩, ad, e, h7⟩
theorem RR.cellAt {w0 w : World} (hb : Below w0.heap.size w0 w) {ad : Addr} {v : Value} (h : w0.cell? ad = some v) : w.cell? ad = some v := by
  rw [hb.cell (World.block_lt_of_cell? w0 _ h)]; exact h
/-- All that is in it, and how long it may be. -/
theorem RR.facts {k : IntKind} {w : World} {A : Option Addr} {ls : List (List Int)} (h : RR k w A ls) : ∀ x ∈ ls, x.length ≤ maxLen ∧ ∀ z ∈ x, (Lit.int k z).wf = true := fun x hx => by
  obtain ⟨i, hi, rfl⟩ := List.getElem_of_mem hx
  obtain ⟨ad, e, _, h2⟩ := h (by intro e; rw [e] at hi; exact absurd hi (Nat.not_lt_zero _))
  obtain ⟨c, ⟨A', c', rfl, h3, h4, h5⟩, h6⟩ := h2 i _ (List.getElem?_eq_getElem hi)
  exact ⟨Nat.le_trans h3 h4, (rk_of_row h5).wf⟩
section
variable {P : Program} {T : Orc} {ops : Array Oper} {Q : Exit → Act → World → Prop} {S' : World → Prop} {Df : List Deferred} {N : Nat} {a : Act} {w w0 : World} {L : Env} {R : List Asn}
theorem FrD.skip2 {d1 d2 : Nat} {v1 v2 : Value} (fr : FrD Df N a ((d2, v2) :: (d1, v1) :: L)) (h1 : L.lookup d1 = none) : FrD Df N a ((d2, v2) :: L) :=
  ⟨fr.size, fr.defers, fun e u he => fr.get e u (by
    rw [lookup_cons] at he ⊢
    by_cases h3 : e = d2
    · rw [if_pos h3] at he ⊢; exact he
    · rw [if_neg h3] at he ⊢
      rw [lookup_cons]
      by_cases h4 : e = d1
      · subst h4; rw [h1] at he; cases he
      · rw [if_neg h4]; exact he)⟩
theorem want_skip {o : Oper} {d : Nat} {v : Value} {b : Bool} (h : wantL ops L o = some b) (hf : L.lookup d = none) : wantL ops ((d, v) :: L) o = some b := by
  unfold wantL at h ⊢
  split at h
  · exact h
  · rename_i j' want hg'
    split at h
    · rename_i t' ht'
      split at h
      · rename_i b hb'
        have hne : t' ≠ d := fun e => by subst e; rw [hf] at hb'; cases hb'
        rw [lookup_cons, if_neg hne, hb']; exact h
      · rename_i vs hb'
        have hne : t' ≠ d := fun e => by subst e; rw [hf] at hb'; cases hb'
        rw [lookup_cons, if_neg hne, hb']; exact h
      · cases h
    · cases h
/-- An element whose cell is known is loaded. -/
theorem wl_ldc (hT : T.Ok P) {o1 o2 : Oper} {rest : List Oper} {t te : TypeId} {x ix : Operand} {d1 d2 : Nat} {A : Option Addr} {v : Value} {n c e : Nat} {ki : IntKind} {i : Int} {de : TypeDesc}
    (hr : ∃ ad, A = some ad ∧ w.cell? (ad.add (i.toNat * 1)) = some v) (hv : vok v = true) (fr : FrD Df N a L) (hw : wantL ops L o1 = some true) (ho1 : o1.op = .indexAddr t x ix) (hd1 : o1.dst = some d1) (hw2 : wantL ops L o2 = some true) (ho2 : o2.op = .load te (.tmp d1)) (hd2 : o2.dst = some d2) (hl1 : Nat.blt d1 N = true) (hl2 : Nat.blt d2 N = true)
    (hx : ev L x = some (.slice A n c)) (hi : ev L ix = some (.int ki i)) (ht : T.ty.lookup t = some (.slice e)) (hs : T.sz.lookup e = some 1) (hte : T.ty.lookup te = some de) (hde : aggD de = false) (hf : L.lookup d1 = none) (hb : 0 ≤ i ∧ i < (n : Int))
    (h : ∀ a', FrD Df N a' ((d2, v) :: L) → wpList P ops Q rest a' w) : wpList P ops Q (o1 :: o2 :: rest) a w := by
  obtain ⟨ad, rfl, hc⟩ := hr
  refine wl_val fr hw hd1 hl1 (indexAddr_run hT fr ho1 hx hi ht hs hb.1 hb.2 w) rfl fun a1 fr1 => ?_
  exact wl_val fr1 (want_skip hw2 hf) hd2 hl2 (load_run hT fr1 ho2 (by show ((d1, _) :: L).lookup d1 = _; rw [lookup_cons, if_pos rfl]) hte hde hc) hv fun a2 fr2 => h a2 (fr2.skip2 hf)
/-! ### Rows of one's own -/
def rwsA (e : TypeId) (A : Option Addr) (c : Nat) (rs : List Rw) : Asn where
  holds := fun w B F => RowV w B e 1 (.slice A rs.length c) rs.length (rs.map rwV) ∧ (∀ r ∈ rs, vok (rwV r) = true) ∧ ∀ g, F g ↔ (Value.slice A rs.length c).ownBlock = some g
  keep := fun ⟨h1, h2, h3⟩ hc hF _ => ⟨h1.kept hc fun g hg => hF g ((h3 g).2 hg), h2, h3⟩
  dom := fun ⟨h1, _, h3⟩ g hg => h1.lt g ((h3 g).1 hg)
def empA : Asn where
  holds := fun _ _ F => ∀ g, ¬ F g
  keep := fun h _ _ _ => h
  dom := fun h g hg => absurd hg (h g)
def allA : List Asn → Asn
  | [] => empA
  | A :: L => sepA A (allA L)
theorem allA_mem {w : World} {B : Nat} : ∀ {L : List Asn} {F : Nat → Prop}, (allA L).holds w B F → ∀ A ∈ L, ∃ F', A.holds w B F' := by
  intro L
  induction L with
  | nil => intro F _ A hA; cases hA
  | cons C L ih =>
    rintro F ⟨F1, F2, h1, h2, _, _⟩ A hA
    rcases List.mem_cons.1 hA with rfl | hA
    · exact ⟨F1, h1⟩
    · exact ih h2 A hA
theorem Sat.empA (S : Sat w0 w R) : Sat w0 w (empA :: R) := S.add (F := fun _ => False) (Below.refl _ _) (fun _ h => h) fun _ h => h.elim
/-- Rows of one's own: the outer row, and each inner one. -/
def recsA (k : IntKind) (eo ei : TypeId) (A : Option Addr) (c : Nat) (ls : List (List Int)) : Asn :=
  exA fun rs : { rs : List Rw // rs.map (·.2.2) = ls } => sepA (rwsA eo A c rs.1) (allA (rs.1.reverse.map fun r => ownA k ei r.1 r.2.1 r.2.2))
theorem Sat.noRecs (k : IntKind) (eo ei : TypeId) (S : Sat w0 w R) : Sat w0 w (recsA k eo ei none 0 [] :: R) := by
  refine Sat.toEx (f := fun rs : { rs : List Rw // rs.map (·.2.2) = [] } => sepA (rwsA eo none 0 rs.1) (allA (rs.1.reverse.map fun r => ownA k ei r.1 r.2.1 r.2.2))) ⟨[], rfl⟩ (Sat.toSep ?_)
  exact S.empA.add (F := fun _ => False) (Below.refl _ _) ⟨RowV.nil w _ eo 1, fun r hr => (by cases hr), fun g => by simp [Value.ownBlock]⟩ fun _ h => h.elim
theorem rec_read {k : IntKind} {eo ei : TypeId} {A : Option Addr} {c : Nat} {ls : List (List Int)} {B : Nat} {F : Nat → Prop} (h : (recsA k eo ei A c ls).holds w B F) : RR k w A ls ∧ (ls.length ≤ c ∧ c ≤ maxLen) := by
  obtain ⟨⟨rs, rfl⟩, F1, F2, ⟨h1, h2, h3⟩, h4, _, _⟩ := h
  obtain ⟨A', c', e, h5, h6, h7, h8⟩ := h1.slice
  injection e with e1 e2 e3
  subst e1 e3
  rw [List.length_map]
  refine ⟨fun hne => ?_, h5, h6⟩
  have hpos : 0 < rs.length := by
    rcases Nat.eq_zero_or_pos rs.length with h0 | h0
    · rw [List.eq_nil_of_length_eq_zero h0] at hne; exact absurd rfl hne
    · exact h0
  cases A with
  | none =>
    have h0 : rs.length = 0 := h7 rfl
    omega
  | some ad =>
    obtain ⟨g, rfl, h9, h10, h11, _⟩ := h8 ad rfl
    refine ⟨⟨g, 0, none⟩, rfl, fun _ => h10, fun i y hy => ?_⟩
    rw [List.getElem?_map] at hy
    obtain ⟨r, hr, rfl⟩ := Option.map_eq_some_iff.1 hy
    have hm := List.mem_of_getElem? hr
    obtain ⟨F', g1, g2, _⟩ := allA_mem h4 (ownA k ei r.1 r.2.1 r.2.2) (List.mem_map.2 ⟨r, List.mem_reverse.2 hm, rfl⟩)
    obtain ⟨A2, c2, e', g3, g4, g5, _⟩ := g1.slice
    injection e' with e1 e2 e3
    refine ⟨[rwV r], ⟨r.1, r.2.1, rfl, by rw [e3]; exact g3, by rw [e3]; exact g4, row_of_rk ⟨by rw [e1]; exact g5, g2⟩⟩, fun j u hu => ?_⟩
    cases j with
    | zero =>
      injection hu with hu
      subst hu
      have := h11 i (rwV r) (by rw [List.getElem?_map, hr]; rfl)
      rw [show i * (Rdr.sl (Rdr.int k)).sz + 0 = i from by show i * 1 + 0 = i; omega, addr0]
      rw [Nat.zero_add] at this
      exact this
    | succ j => cases hu
theorem Sat.recAt {M : List Asn} {k : IntKind} {eo ei : TypeId} {A : Option Addr} {c : Nat} {ls : List (List Int)} (S : Sat w0 w M) (i : Nat) (hi : M[i]? = some (recsA k eo ei A c ls)) : RR k w A ls ∧ (ls.length ≤ c ∧ c ≤ maxLen) := by
  obtain ⟨F, h1⟩ := (S.frontAt i hi).hd
  exact rec_read h1
/-- A literal of one cell. -/
theorem one_cell_exec {t e : TypeId} (fr : FrD Df N a L) {o : Oper} {x : Operand} {v : Value} (ho : o.op = .buildSlice t 1 #[(0, x)]) (hx : ev L x = some v) (hv : v.cells = #[v]) (hu : P.underlying t = some (.slice e)) (hi : (P.info? e).map (fun i => (i.zero.isSome, i.size)) = some (true, 1)) :
    (execOp a.eval o).run P w = .ok (.value (.slice (some ⟨w.heap.size, 0, none⟩) 1 1)) (w.alloc (.cells #[v] e)) := by
  obtain ⟨ie, hie, hzz⟩ := Option.map_eq_some_iff.1 hi
  simp only [Prod.mk.injEq] at hzz
  obtain ⟨z, hz⟩ := Option.isSome_iff_exists.1 hzz.1
  have hf : Instr.fill (fun i => some (i * ie.size, ie.size)) ((Array.range (1 * ie.size)).map (z.cells[· % z.cells.size]!)) (#[(0, x)].map fun (i, x) => (i, a.eval x)).toList = some #[v] := by
    rw [hzz.2]
    simp only [List.map_toArray, List.map_cons, List.map_nil, (fr.ev hx).1]
    rw [fill_step _ _ 0 0 1 v [] (by simp) (by rw [hv]; rfl) (by simp), Instr.fill]
    congr 1
    rw [hv]
    apply Array.toList_inj.1
    unfold splice
    simp
  unfold execOp
  simp only [ho]
  rw [Sem.run_bind, run_buildSlice w t e 1 _ #[v] ie z hu hie hz (by rw [hzz.2]; omega) (by rw [hzz.2]; omega) hf, Result.andThen_ok]
  rfl
theorem rws_app_exec {t e : TypeId} {bytes : Nat} (ht : P.underlying t = some (.slice e)) (hinfo : (P.info? e).map (fun i => (i.zero.map (·.cells.size), i.size, i.bytes)) = some (some 1, 1, bytes)) (hby : bytes ≤ 64) (fr : FrD Df N a L) {o : Oper} {x y : Operand} {A : Option Addr} {ad : Addr} {n c cy : Nat} {rs : List Rw} {r : Rw}
    (ho : o.op = .call { callee := .builtin .append, args := #[x, y], argTypes := #[t, t] }) (hx : ev L x = some (.slice A n c)) (hn : n = rs.length) (hy : ev L y = some (.slice (some ad) 1 cy)) (hc : w.cell? ad = some (rwV r)) (hv : vok (rwV r) = true) (hb : rs.length ≤ 1000000000) (S : Sat w0 w (rwsA e A c rs :: R)) :
    ∃ A' c' w', (execOp a.eval o).run P w = .ok (.value (.slice A' (rs ++ [r]).length c')) w' ∧ vok (.slice A' (rs ++ [r]).length c') = true ∧ Sat w0 w' (rwsA e A' c' (rs ++ [r]) :: R) := by
  subst hn
  obtain ⟨F, ⟨h1, h2, h3⟩, hF, hk⟩ := S.opened
  obtain ⟨i, hi, hzz⟩ := Option.map_eq_some_iff.1 hinfo
  simp only [Prod.mk.injEq] at hzz
  obtain ⟨hz1, hsz, hbi⟩ := hzz
  obtain ⟨z0, hz, hzc⟩ := Option.map_eq_some_iff.1 hz1
  have hmul : (rs.length + 1) * bytes ≤ (rs.length + 1) * 64 := Nat.mul_le_mul_left _ hby
  obtain ⟨v', w', hr, g2, g3, _, g5⟩ := run_append_own_at (P := P) w w0.heap.size t o.type e i z0 1 bytes ht hi hz hsz hbi hzc Nat.one_pos (.slice A rs.length c) rs.length (rs.map rwV) h1 ad 1 cy [rwV r] rfl (fun j u hu => by
    cases j with
    | zero => injection hu with hu; subst hu; rw [show ad.add 0 = ad from by cases ad; rename_i b o s; unfold Addr.add; cases s <;> rfl]; exact hc
    | succ j => cases hu) (fun u hu => by rw [List.mem_singleton] at hu; subst hu; rfl) (by unfold maxLen; omega) (by omega) S.below.size
  have g2' : RowV w' w0.heap.size e 1 v' (rs.length + 1) (rs.map rwV ++ [rwV r]) := g2
  obtain ⟨A', c', rfl, h7, h8, _, _⟩ := g2'.slice
  have hl : (rs ++ [r]).length = rs.length + 1 := by simp
  rw [hl]
  refine ⟨A', c', w', ?_, vok_sl ⟨h7, h8⟩, ?_⟩
  · unfold execOp
    simp only [ho, resolve]
    rw [Sem.run_bind, Sem.run_pure, Result.andThen_ok]
    simp only [invoke, builtin, List.map_toArray, List.map_cons, List.map_nil, (fr.ev hx).1, (fr.ev hy).1]
    rw [Sem.run_bind, hr]; rfl
  · refine hk (A' := rwsA e A' c' (rs ++ [r])) (F' := fun g => (Value.slice A' (rs ++ [r]).length c').ownBlock = some g) ⟨by rw [hl, List.map_append]; exact g2', fun q hq => ?_, fun g => Iff.rfl⟩ (Chg.of_grown g3) (fun g _ hg => (h3 g).2 hg.symm) fun g hg => ?_
    · rcases List.mem_append.1 hq with hq | hq
      · exact h2 q hq
      · rw [List.mem_singleton] at hq; subst hq; exact hv
    · rw [hl] at hg
      rcases g5 with h | h
      · rw [h] at hg; exact .inl ((h3 g).2 hg)
      · rw [h] at hg; injection hg with hg; subst hg; exact .inr (Nat.le_refl _)
end
end Go.Proofs.YticnjkdaccacaaaGreatDoor.Sx
end
section
/- Rows of one's own of elements of any size, cell by cell; a row and the same with more behind it; rows that are held. -/
namespace Go.Proofs.YticnjkdaccacaaaGreatDoor.Sx
open Go Go.RowKit Base Own OwnV

/-! ### append: in the same row, or in a new one -/
theorem append_two {P : Program} (w : World) (base : Nat) (t ty e : TypeId) (i : TypeInfo) (z : Value) (size bytes : Nat) (ht : P.underlying t = some (.slice e)) (hi : P.info? e = some i) (hz : i.zero = some z)
    (hsize : i.size = size) (hby : i.bytes = bytes) (hzs : z.cells.size = size) (hsz : 0 < size) (v : Value) (n : Nat) (xs : List Value) (hown : w.ownsRow base e size v n xs)
    (a : Addr) (m c : Nat) (news : List Value) (hl : news.length = m * size) (hnews : ∀ j u, news[j]? = some u → w.cell? (a.add j) = some u) (h1 : ∀ u ∈ news, u.oneCell' = true)
    (h63 : n + m ≤ maxLen) (hbytes : (n + m) * bytes ≤ 140737488355328) (hbase : base ≤ w.heap.size) :
    ∃ v' w', (Builtin.append_ #[t, t] ty #[v, .slice (some a) m c]).run P w = .ok v' w' ∧ w'.ownsRow base e size v' (n + m) (xs ++ news) ∧
      ((w.grownBy w' v.ownBlock ∧ v'.ownBlock = v.ownBlock) ∨ (w.grownBy w' none ∧ v'.ownBlock = some w.heap.size)) := by
  obtain ⟨v', w', hr, h2, h3, _, h5⟩ := run_append_own_at (P := P) w base t ty e i z size bytes ht hi hz hsize hby hzs hsz v n xs hown a m c news hl hnews h1 h63 hbytes hbase
  refine ⟨v', w', hr, h2, ?_⟩
  have hsmall : n + m ≤ 9223372036854775807 := by simp only [maxLen] at h63; omega
  rcases hown.2 with ⟨rfl, rfl⟩ | ⟨g, cap, cur, rfl, hbg, hg, hnc, hcm, hcs, htake⟩
  · rcases h5 with h5 | h5
    · exact .inl ⟨h3, h5⟩
    · exact .inr ⟨h3, h5⟩
  · by_cases hroom : n + m ≤ cap
    · subst hsize
      have hfit : n * i.size + news.length ≤ cur.size := by rw [hl, hcs, ← Nat.add_mul]; exact Nat.mul_le_mul_right _ hroom
      have hr2 := run_append_room (P := P) w t ty e i ht hi g n cap cur hg a m c news hl hnews h1 hroom hfit
      rw [hr] at hr2
      injection hr2 with q1 q2
      exact .inl ⟨h3, by rw [q1]; rfl⟩
    · subst hsize
      have holds : ∀ j u, xs[j]? = some u → w.cell? ((⟨g, 0, none⟩ : Addr).add j) = some u := hown.cells (g := g) rfl
      have hr2 := run_append_grow (P := P) w t ty e i z ht hi hz ⟨g, 0, none⟩ n cap xs hown.1 holds a m c news hl hnews (by omega) (by omega) (growslice_fits (by omega) (by rw [hby]; exact hbytes))
      rw [hr] at hr2
      injection hr2 with q1 q2
      refine .inr ⟨?_, by rw [q1]; rfl⟩
      rw [q2]
      exact ⟨rfl, rfl, rfl, by simp, fun k hk _ => Below.heap_alloc w.drew _ k hk⟩
/-! ### Rows of elements of any size -/
def rvA (e z : Nat) (A : Option Addr) (c n : Nat) (xs : List Value) : Asn where
  holds := fun w B F => RowV w B e z (.slice A n c) n xs ∧ (∀ v ∈ xs, vok1 v = true) ∧ ∀ g, F g ↔ (Value.slice A n c).ownBlock = some g
  keep := fun ⟨h1, h2, h3⟩ hc hF _ => ⟨h1.kept hc fun g hg => hF g ((h3 g).2 hg), h2, h3⟩
  dom := fun ⟨h1, h2, h3⟩ g hg => h1.lt g ((h3 g).1 hg)
/-- A row, and a longer one that begins with it: in one block, or in two. -/
def gwA (e z : Nat) (A : Option Addr) (xs : List Value) (A' : Option Addr) (c' n' : Nat) (ys : List Value) : Asn where
  holds := fun w B F => (A = none → xs = []) ∧ (∀ ad, A = some ad → ad = ⟨ad.block, 0, none⟩ ∧ B ≤ ad.block ∧ ad.block < w.heap.size ∧ w.rangeAt ad.block 0 xs) ∧ RowV w B e z (.slice A' n' c') n' ys ∧ (∀ v ∈ ys, vok1 v = true) ∧ (∃ t, ys = xs ++ t) ∧
    ∀ g, F g ↔ (∃ ad, A = some ad ∧ ad.block = g) ∨ (Value.slice A' n' c').ownBlock = some g
  keep := fun ⟨h0, h1, h2, h3, h4, h5⟩ hc hF _ => ⟨h0, fun ad he => by
    obtain ⟨q1, q2, q3, q4⟩ := h1 ad he
    refine ⟨q1, q2, Nat.lt_of_lt_of_le q3 hc.size, fun j u hu => ?_⟩
    rw [World.cell?_of_block (a := ⟨ad.block, 0 + j, none⟩) (hc.block ad.block q3 (hF _ ((h5 _).2 (.inl ⟨ad, he, rfl⟩))))]
    exact q4 j u hu, h2.kept hc fun g hg => hF g ((h5 g).2 (.inr hg)), h3, h4, h5⟩
  dom := fun ⟨h0, h1, h2, h3, h4, h5⟩ g hg => by
    rcases (h5 g).1 hg with ⟨ad, he, rfl⟩ | hg
    · exact ⟨(h1 ad he).2.1, (h1 ad he).2.2.1⟩
    · exact h2.lt g hg
section
variable {P : Program} {T : Orc} {ops : Array Oper} {Q : Exit → Act → World → Prop} {S' : World → Prop} {Df : List Deferred} {N : Nat} {a : Act} {w w0 : World} {L : Env} {R : List Asn} {e z : Nat} {A A' : Option Addr} {c c' n n' : Nat} {xs ys : List Value}
/-- A thing, said otherwise. -/
theorem Sat.imp {X Y : Asn} (S : Sat w0 w (X :: R)) (h : ∀ F, X.holds w w0.heap.size F → Y.holds w w0.heap.size F) : Sat w0 w (Y :: R) := by
  obtain ⟨F, h1, h2, h3⟩ := S.parts
  exact ⟨S.below, F, h F h1, h2, h3⟩
theorem rv_of_own {k : IntKind} {l : List Int} (S : Sat w0 w (ownA k e A c l :: R)) : Sat w0 w (rvA e 1 A c l.length (l.map (Value.int k)) :: R) :=
  S.imp fun F ⟨h1, h2, h3⟩ => ⟨h1, fun v hv => by obtain ⟨x, hx, rfl⟩ := List.mem_map.1 hv; exact h2 x hx, h3⟩
theorem own_of_rv {k : IntKind} {l : List Int} (S : Sat w0 w (rvA e 1 A c l.length (l.map (Value.int k)) :: R)) : Sat w0 w (ownA k e A c l :: R) :=
  S.imp fun F ⟨h1, h2, h3⟩ => ⟨h1, fun x hx => h2 _ (List.mem_map.2 ⟨x, hx, rfl⟩), h3⟩
theorem rv_nil (e z : Nat) (S : Sat w0 w R) : Sat w0 w (rvA e z none 0 0 [] :: R) :=
  S.add (F := fun _ => False) (Below.refl _ _) ⟨RowV.nil w _ e z, fun v hv => (by cases hv), fun g => by simp [Value.ownBlock]⟩ fun _ h => h.elim
theorem rv_facts (S : Sat w0 w (rvA e z A c n xs :: R)) : xs.length = n * z ∧ (n ≤ c ∧ c ≤ maxLen) ∧ (A = none → n = 0) ∧ (∀ v ∈ xs, vok1 v = true) ∧ ∀ ad, A = some ad → ∃ g, ad = ⟨g, 0, none⟩ ∧ w.rangeAt g 0 xs := by
  obtain ⟨F, ⟨h1, h2, h3⟩, _⟩ := S.hd.imp fun _ h => And.intro h trivial
  obtain ⟨A2, c2, he, q1, q2, q3, q4⟩ := h1.slice
  injection he with e1 e2 e3
  subst e1 e3
  exact ⟨h1.len, ⟨q1, q2⟩, q3, h2, fun ad he => by
    obtain ⟨g, r1, r2, r3, r4, r5⟩ := q4 ad he
    exact ⟨g, r1, r4⟩⟩
theorem Sat.rvAt {M : List Asn} (S : Sat w0 w M) (i : Nat) (hi : M[i]? = some (rvA e z A c n xs)) : xs.length = n * z ∧ (n ≤ c ∧ c ≤ maxLen) ∧ (A = none → n = 0) ∧ (∀ v ∈ xs, vok1 v = true) ∧ ∀ ad, A = some ad → ∃ g, ad = ⟨g, 0, none⟩ ∧ w.rangeAt g 0 xs := rv_facts (S.frontAt i hi)
theorem gw_start (S : Sat w0 w (rvA e z A c n xs :: R)) : Sat w0 w (gwA e z A xs A c n xs :: R) := by
  refine S.imp fun F ⟨h1, h2, h3⟩ => ?_
  obtain ⟨A2, c2, he, q1, q2, q3, q4⟩ := h1.slice
  injection he with e1 e2 e3
  subst e1 e3
  refine ⟨fun h => ?_, fun ad he => ?_, h1, h2, ⟨[], (List.append_nil _).symm⟩, fun g => ?_⟩
  · have := h1.len
    rw [q3 h] at this
    exact List.eq_nil_of_length_eq_zero (by omega)
  · obtain ⟨g, r1, r2, r3, r4, r5⟩ := q4 ad he
    subst r1
    exact ⟨rfl, r2, r3, r4⟩
  · rw [h3 g]
    constructor
    · exact .inr
    · rintro (⟨ad, he, rfl⟩ | h)
      · obtain ⟨g, r1, _⟩ := q4 ad he
        subst r1
        rw [he]; rfl
      · exact h
/-- Some cells of a row are written over. -/
theorem rv_set (S : Sat w0 w (rvA e z A c n xs :: R)) {g : Nat} (hA : A = some ⟨g, 0, none⟩) (o : Nat) (vs : List Value) (ho : o + vs.length ≤ n * z) (hv : ∀ v ∈ vs, vok1 v = true) : Sat w0 (w.setCells g o vs) (rvA e z A c n (splice xs o vs) :: R) := by
  subst hA
  obtain ⟨F, ⟨h1, h2, h3⟩, hF, hk⟩ := S.opened
  refine hk (A' := rvA e z _ c n (splice xs o vs)) (F' := F) (G := fun k => k = g) ⟨h1.set o vs ho, fun v hm => ?_, h3⟩ (chg_setCells g vs o w) (fun k _ hk => (h3 k).2 (by subst hk; rfl)) fun k hk => .inl hk
  unfold splice at hm
  rw [List.mem_append, List.mem_append] at hm
  rcases hm with hm | hm | hm
  · exact h2 v (List.mem_of_mem_take hm)
  · exact hv v hm
  · exact h2 v (List.mem_of_mem_drop hm)
/-- What an append does, for elements of any size. -/
theorem gw_app {t ty bytes : Nat} (ht : P.underlying t = some (.slice e)) (hinfo : (P.info? e).map (fun i => (i.zero.map (·.cells.size), i.size, i.bytes)) = some (some z, z, bytes)) (hz0 : 0 < z) (hby : bytes ≤ 128) (S : Sat w0 w (gwA e z A xs A' c' n' ys :: R))
    {ad : Addr} {cy : Nat} {news : List Value} (hl : news.length = z) (hc : ∀ j u, news[j]? = some u → w.cell? (ad.add j) = some u) (h1 : ∀ u ∈ news, u.oneCell' = true ∧ vok1 u = true) (hb : n' ≤ 1000000000000) :
    ∃ A2 c2 w', (Builtin.append_ #[t, t] ty #[.slice A' n' c', .slice (some ad) 1 cy]).run P w = .ok (.slice A2 (n' + 1) c2) w' ∧ (n' + 1 ≤ c2 ∧ c2 ≤ maxLen) ∧ Sat w0 w' (gwA e z A xs A2 c2 (n' + 1) (ys ++ news) :: R) := by
  obtain ⟨F, ⟨g0, g1, g2, g3, ⟨tt, g4⟩, g5⟩, hF, hk⟩ := S.opened
  obtain ⟨i, hi, hzz⟩ := Option.map_eq_some_iff.1 hinfo
  simp only [Prod.mk.injEq] at hzz
  obtain ⟨hz1, hsz, hbi⟩ := hzz
  obtain ⟨z0, hz, hzc⟩ := Option.map_eq_some_iff.1 hz1
  have hmul : (n' + 1) * bytes ≤ (n' + 1) * 128 := Nat.mul_le_mul_left _ hby
  obtain ⟨v', w', hr, k1, k2⟩ := append_two (P := P) w w0.heap.size t ty e i z0 z bytes ht hi hz hsz hbi hzc hz0 (.slice A' n' c') n' ys g2 ad 1 cy news (by omega) hc (fun u hu => (h1 u hu).1) (by unfold maxLen; omega) (by omega) S.below.size
  have k1' : RowV w' w0.heap.size e z v' (n' + 1) (ys ++ news) := k1
  obtain ⟨A2, c2, rfl, q1, q2, q3, q4⟩ := k1'.slice
  refine ⟨A2, c2, w', hr, ⟨q1, q2⟩, ?_⟩
  have hv : ∀ v ∈ ys ++ news, vok1 v = true := fun v hv => by
    rcases List.mem_append.1 hv with hv | hv
    · exact g3 v hv
    · exact (h1 v hv).2
  have hpre : ∃ t, ys ++ news = xs ++ t := ⟨tt ++ news, by rw [g4, List.append_assoc]⟩
  rcases k2 with ⟨k2, k3⟩ | ⟨k2, k3⟩
  · have hc2 := Chg.of_grown k2
    refine hk (A' := gwA e z A xs A2 c2 (n' + 1) (ys ++ news)) (F' := F) ⟨g0, fun ad' he => ?_, k1', hv, hpre, fun g => ?_⟩ hc2 (fun g _ hg => (g5 g).2 (.inr hg.symm)) fun g hg => .inl hg
    · obtain ⟨r1, r2, r3, r4⟩ := g1 ad' he
      refine ⟨r1, r2, Nat.lt_of_lt_of_le r3 hc2.size, fun j u hu => ?_⟩
      by_cases hs : (Value.slice A' n' c').ownBlock = some ad'.block
      · rw [← k3] at hs
        cases A2 with
        | none => simp [Value.ownBlock] at hs
        | some a2 =>
          obtain ⟨g, s1, s2, s3, s4, s5⟩ := q4 a2 rfl
          have : g = ad'.block := by subst s1; simpa [Value.ownBlock] using hs
          subst this
          refine s4 j u ?_
          rw [g4, List.append_assoc, List.getElem?_append_left (List.getElem?_eq_some_iff.1 hu).1]
          exact hu
      · rw [World.cell?_of_block (a := ⟨ad'.block, 0 + j, none⟩) (hc2.block ad'.block r3 fun h => hs h.symm)]
        exact r4 j u hu
    · rw [g5 g, k3]
  · have hc2 : Chg (fun _ => False) w w' := (Chg.of_grown k2).mono fun g _ h => by cases h
    refine hk (A' := gwA e z A xs A2 c2 (n' + 1) (ys ++ news)) (F' := fun g => (∃ ad, A = some ad ∧ ad.block = g) ∨ (Value.slice A2 (n' + 1) c2).ownBlock = some g) ⟨g0, fun ad' he => ?_, k1', hv, hpre, fun g => Iff.rfl⟩ hc2 (fun g _ hg => hg.elim) fun g hg => ?_
    · obtain ⟨r1, r2, r3, r4⟩ := g1 ad' he
      refine ⟨r1, r2, Nat.lt_of_lt_of_le r3 hc2.size, fun j u hu => ?_⟩
      rw [World.cell?_of_block (a := ⟨ad'.block, 0 + j, none⟩) (hc2.block ad'.block r3 fun h => h)]
      exact r4 j u hu
    · rcases hg with hg | hg
      · exact .inl ((g5 g).2 (.inl hg))
      · rw [k3] at hg
        injection hg with hg
        exact .inr (Nat.le_of_eq hg)
/-- .. to a row of one's own. -/
theorem rv_app {t ty bytes : Nat} (ht : P.underlying t = some (.slice e)) (hinfo : (P.info? e).map (fun i => (i.zero.map (·.cells.size), i.size, i.bytes)) = some (some z, z, bytes)) (hz0 : 0 < z) (hby : bytes ≤ 128) (S : Sat w0 w (rvA e z A c n xs :: R))
    {ad : Addr} {cy : Nat} {news : List Value} (hl : news.length = z) (hc : ∀ j u, news[j]? = some u → w.cell? (ad.add j) = some u) (h1 : ∀ u ∈ news, u.oneCell' = true ∧ vok1 u = true) (hb : n ≤ 1000000000000) :
    ∃ A2 c2 w', (Builtin.append_ #[t, t] ty #[.slice A n c, .slice (some ad) 1 cy]).run P w = .ok (.slice A2 (n + 1) c2) w' ∧ (n + 1 ≤ c2 ∧ c2 ≤ maxLen) ∧ Sat w0 w' (rvA e z A2 c2 (n + 1) (xs ++ news) :: R) := by
  obtain ⟨F, ⟨g2, g3, g5⟩, hF, hk⟩ := S.opened
  obtain ⟨i, hi, hzz⟩ := Option.map_eq_some_iff.1 hinfo
  simp only [Prod.mk.injEq] at hzz
  obtain ⟨hz1, hsz, hbi⟩ := hzz
  obtain ⟨z0, hz, hzc⟩ := Option.map_eq_some_iff.1 hz1
  have hmul : (n + 1) * bytes ≤ (n + 1) * 128 := Nat.mul_le_mul_left _ hby
  obtain ⟨v', w', hr, k1, k2⟩ := append_two (P := P) w w0.heap.size t ty e i z0 z bytes ht hi hz hsz hbi hzc hz0 (.slice A n c) n xs g2 ad 1 cy news (by omega) hc (fun u hu => (h1 u hu).1) (by unfold maxLen; omega) (by omega) S.below.size
  have k1' : RowV w' w0.heap.size e z v' (n + 1) (xs ++ news) := k1
  obtain ⟨A2, c2, rfl, q1, q2, q3, q4⟩ := k1'.slice
  refine ⟨A2, c2, w', hr, ⟨q1, q2⟩, ?_⟩
  have hv : ∀ v ∈ xs ++ news, vok1 v = true := fun v hv => by
    rcases List.mem_append.1 hv with hv | hv
    · exact g3 v hv
    · exact (h1 v hv).2
  rcases k2 with ⟨k2, k3⟩ | ⟨k2, k3⟩
  · exact hk (A' := rvA e z A2 c2 (n + 1) (xs ++ news)) (F' := F) ⟨k1', hv, fun g => by rw [g5 g, k3]⟩ (Chg.of_grown k2) (fun g _ hg => (g5 g).2 hg.symm) fun g hg => .inl hg
  · refine hk (A' := rvA e z A2 c2 (n + 1) (xs ++ news)) (F' := fun g => (Value.slice A2 (n + 1) c2).ownBlock = some g) ⟨k1', hv, fun g => Iff.rfl⟩ (G := fun _ => False) ((Chg.of_grown k2).mono fun g _ h => by cases h) (fun g _ hg => hg.elim) fun g hg => ?_
    rw [k3] at hg
    injection hg with hg
    exact .inr (Nat.le_of_eq hg)
/-- append as an operation. -/
theorem app_op {t : TypeId} (fr : FrD Df N a L) {o : Oper} {x y : Operand} {v u v' : Value} {w' : World} (ho : o.op = .call { callee := .builtin .append, args := #[x, y], argTypes := #[t, t] }) (hx : ev L x = some v) (hy : ev L y = some u)
    (hr : (Builtin.append_ #[t, t] o.type #[v, u]).run P w = .ok v' w') : (execOp a.eval o).run P w = .ok (.value v') w' := by
  unfold execOp
  simp only [ho, resolve]
  rw [Sem.run_bind, Sem.run_pure, Result.andThen_ok]
  simp only [invoke, builtin, List.map_toArray, List.map_cons, List.map_nil, (fr.ev hx).1, (fr.ev hy).1]
  rw [Sem.run_bind, hr]; rfl
/-- An element of several cells, loaded whole. -/
theorem ldagg_run (hT : T.Ok P) (fr : FrD Df N a L) {o : Oper} {t : TypeId} {x : Operand} (ho : o.op = .load t x) {g j : Nat} {cs : List Value} {d : TypeDesc} (hx : ev L x = some (.pointer (some ⟨g, j, none⟩))) (ht : T.ty.lookup t = some d) (hd : d.isRow = true) (hs : T.sz.lookup t = some cs.length)
    (hc : w.rangeAt g j cs) : (execOp a.eval o).run P w = .ok (.value (.agg cs.toArray)) w := by
  have h := exec_load_mid (P := P) (a := a) (w := w) (N := o.dst) (tt := o.type) t x g j (fr.ev hx).1 cs d hc (hT.und ht) hd (hT.size hs)
  unfold execOp at h ⊢
  simp only [ho] at h ⊢
  exact h
theorem vok_agg {cs : List Value} (h : ∀ v ∈ cs, vok1 v = true) : vok (.agg cs.toArray) = true := by
  simp only [vok, vokC, List.all_eq_true]
  exact h
/-- An element of a row of elements of several cells. -/
theorem wl_ldv (hT : T.Ok P) {o1 o2 : Oper} {rest : List Oper} {t te : TypeId} {x ix : Operand} {d1 d2 : Nat} {n c : Nat} {ki : IntKind} {i : Int} {de : TypeDesc} {cs : List Value}
    (hr : ∀ ad, A = some ad → ∃ g, ad = ⟨g, 0, none⟩ ∧ w.rangeAt g (i.toNat * z) cs) (hA : A ≠ none) (hv : ∀ v ∈ cs, vok1 v = true) (fr : FrD Df N a L) (hw : wantL ops L o1 = some true) (ho1 : o1.op = .indexAddr t x ix) (hd1 : o1.dst = some d1) (hw2 : wantL ops L o2 = some true) (ho2 : o2.op = .load te (.tmp d1)) (hd2 : o2.dst = some d2) (hl1 : Nat.blt d1 N = true) (hl2 : Nat.blt d2 N = true)
    (hx : ev L x = some (.slice A n c)) (hi : ev L ix = some (.int ki i)) (ht : T.ty.lookup t = some (.slice e)) (hs : T.sz.lookup e = some z) (hte : T.ty.lookup te = some de) (hde : de.isRow = true) (hse : T.sz.lookup te = some cs.length) (hf : L.lookup d1 = none) (hb : 0 ≤ i ∧ i < (n : Int))
    (h : ∀ a', FrD Df N a' ((d2, .agg cs.toArray) :: L) → wpList P ops Q rest a' w) : wpList P ops Q (o1 :: o2 :: rest) a w := by
  cases A with
  | none => exact absurd rfl hA
  | some ad =>
    obtain ⟨g, rfl, hc⟩ := hr ad rfl
    refine wl_val fr hw hd1 hl1 (indexAddr_run hT fr ho1 hx hi ht hs hb.1 hb.2 w) rfl fun a1 fr1 => ?_
    have e1 : (⟨g, 0, none⟩ : Addr).add (i.toNat * z) = ⟨g, i.toNat * z, none⟩ := addr0 g _
    rw [e1] at fr1
    exact wl_val fr1 (want_skip hw2 hf) hd2 hl2 (ldagg_run hT fr1 ho2 (by show ((d1, _) :: L).lookup d1 = _; rw [lookup_cons, if_pos rfl]) hte hde hse hc) (vok_agg hv) fun a2 fr2 => h a2 (fr2.skip2 hf)
end
end Go.Proofs.YticnjkdaccacaaaGreatDoor.Sx
end
section
/- Lists of numbers that are held, each with what grew out of it and its number. -/
namespace Go.Proofs.YticnjkdaccacaaaGreatDoor.Sx
open Go Go.RowKit Base Own OwnV

section
variable {P : Program} {T : Orc} {ops : Array Oper} {Q : Exit → Act → World → Prop} {S' : World → Prop} {Df : List Deferred} {N : Nat} {a : Act} {w w0 : World} {L : Env} {R M : List Asn} {k : IntKind} {e : Nat}
theorem gw_reads {A A' : Option Addr} {c' : Nat} {l ys : List Int} (S : Sat w0 w M) (i : Nat) (hi : M[i]? = some (gwA e 1 A (l.map (Value.int k)) A' c' ys.length (ys.map (Value.int k)))) : Rk k w A l ∧ Rk k w A' ys ∧ (ys.length ≤ c' ∧ c' ≤ maxLen) := by
  obtain ⟨F, h0, h1, h2, h3, ⟨t, h4⟩, h5⟩ := (S.frontAt i hi).hd
  have hw : ∀ z ∈ ys, (Lit.int k z).wf = true := fun z hz => h3 (.int k z) (List.mem_map.2 ⟨z, hz, rfl⟩)
  have hwl : ∀ z ∈ l, (Lit.int k z).wf = true := fun z hz => h3 (.int k z) (by rw [h4]; exact List.mem_append_left _ (List.mem_map.2 ⟨z, hz, rfl⟩))
  have hown : OwnI k w w0.heap.size e (.slice A' ys.length c') ys := h2
  obtain ⟨A2, c2, he, q1, q2, q3, q4⟩ := hown.slice
  injection he with e1 e2 e3
  subst e1 e3
  refine ⟨⟨fun hne => ?_, hwl⟩, ⟨q3, hw⟩, q1, q2⟩
  cases A with
  | none => exact absurd (List.map_eq_nil_iff.1 (h0 rfl)) hne
  | some ad =>
    obtain ⟨r1, r2, r3, r4⟩ := h1 ad rfl
    refine ⟨ad, rfl, r3, fun j hj => ?_⟩
    have := r4 j (.int k (l.getD j 0)) (by simp [List.getElem?_eq_getElem hj, List.getD_eq_getElem?_getD])
    rw [r1, addr0]
    rwa [Nat.zero_add] at this
/-- One number more behind a row. -/
theorem wl_gwnum {t : TypeId} (RT : RowTy P t e k) {o : Oper} {rest : List Oper} {d : Nat} {x y : Operand} {A A' Y : Option Addr} {n' c' cy : Nat} {ys : List Int} {xs : List Value} {q : Int} (fr : FrD Df N a L) (hw : wantL ops L o = some true) (hd : o.dst = some d) (hlt : Nat.blt d N = true) (ho : o.op = .call { callee := .builtin .append, args := #[x, y], argTypes := #[t, t] })
    (hx : ev L x = some (.slice A' n' c')) (hy : ev L y = some (.slice Y 1 cy)) (hn : n' = ys.length) (hb : n' ≤ 1000000000000) (S : Sat w0 w (ownA k e Y cy [q] :: gwA e 1 A xs A' c' n' (ys.map (Value.int k)) :: R))
    (h : ∀ w' A2 c2, Sat w0 w' (gwA e 1 A xs A2 c2 (n' + 1) ((ys ++ [q]).map (Value.int k)) :: R) → ∀ a', FrD Df N a' ((d, .slice A2 (n' + 1) c2) :: L) → wpList P ops Q rest a' w') : wpList P ops Q (o :: rest) a w := by
  obtain ⟨⟨hr, hwf⟩, -, -⟩ := S.own
  obtain ⟨ad, rfl, hc⟩ := hr.cell (j := 0) (by simp)
  obtain ⟨bytes, hle, hinfo⟩ := RT.hi
  obtain ⟨A2, c2, w', h1, h2, h3⟩ := gw_app (P := P) (ty := o.type) (bytes := bytes) (cy := cy) RT.ht (by
    obtain ⟨i, hi, hzz⟩ := Option.map_eq_some_iff.1 hinfo
    simp only [Prod.mk.injEq] at hzz
    obtain ⟨q1, q2, q3⟩ := hzz
    rw [hi]
    simp [q1, q2, q3, Value.cells]) Nat.one_pos (by omega) S.tl (news := [.int k q]) rfl (fun j u hu => by
      cases j with
      | zero => injection hu with hu; subst hu; exact hc.2
      | succ j => cases hu) (fun u hu => by rw [List.mem_singleton] at hu; subst hu; exact ⟨rfl, hwf q (by simp)⟩) hb
  refine wl_val fr hw hd hlt (app_op fr ho hx hy h1) (vok_sl h2) (h w' A2 c2 ?_)
  rw [List.map_append]
  exact h3
/-- A struct's variable. -/
theorem wl_allocg {o : Oper} {rest : List Oper} {t : TypeId} {d : Nat} {zs : List Value} (fr : FrD Df N a L) (hw : wantL ops L o = some true) (hd : o.dst = some d) (hlt : Nat.blt d N = true) (ho : o.op = .alloc t) (hz : ∀ W, (zeroValue t).run P W = .ok (.agg zs.toArray) W) (hok : zs.all vok = true) (S : Sat w0 w R)
    (h : ∀ w' b, Sat w0 w' (stA t b zs :: R) → ∀ a', FrD Df N a' ((d, .pointer (some ⟨b, 0, none⟩)) :: L) → wpList P ops Q rest a' w') : wpList P ops Q (o :: rest) a w := by
  refine wl_val (v := .pointer (some ⟨w.heap.size, 0, none⟩)) (w' := w.alloc (.cells zs.toArray t)) fr hw hd hlt ?_ rfl (h _ _ ?_)
  · unfold execOp
    simp only [ho, Instr.alloc]
    rw [Sem.run_bind, Sem.run_bind, hz, Result.andThen_ok]
    rfl
  · exact S.add (F := fun g => g = w.heap.size) ((Below.refl _ _).alloc (Nat.le_refl _) _) ⟨heap_alloc_new _ _, hok, S.below.size, fun g => Iff.rfl⟩ fun g hg => Nat.le_of_eq hg.symm
/-- .. written over whole. -/
theorem wl_stg (hT : T.Ok P) {o : Oper} {rest : List Oper} {te : TypeId} {p v : Operand} {b e' : Nat} {cs vs : List Value} (fr : FrD Df N a L) (hw : wantL ops L o = some true) (hd : o.dst = none) (ho : o.op = .store te p v) (hp : ev L p = some (.pointer (some ⟨b, 0, none⟩))) (hv : ev L v = some (.agg vs.toArray)) (hs : T.sz.lookup te = some vs.length)
    (hl : cs.length = vs.length) (h1 : vs.all (fun v => v.oneCell' && vok v) = true) (S : Sat w0 w (stA e' b cs :: R)) (h : ∀ w', Sat w0 w' (stA e' b vs :: R) → wpList P ops Q rest a w') : wpList P ops Q (o :: rest) a w := by
  obtain ⟨F, ⟨g1, g2, g4, g5⟩, hF, hk⟩ := S.opened
  rw [List.all_eq_true] at h1
  have hst := run_storeCells_cells (P := P) b 0 vs 0 w (fun j hj => by
    rw [cell_of_row _ _ _ _ _ _ g1]
    simp
    omega) (fun j hj => frozen_of_row w b _ _ _ g1) (fun u hu => by have := h1 u hu; simp at this; exact this.1)
  have hheap := heap_setCells b vs 0 w cs.toArray e' g1 (by simp; omega)
  refine wl_skip (w' := w.setCells b 0 vs) fr hw hd ?_ (h _ ?_)
  · unfold execOp
    simp only [ho, (fr.ev hp).1, (fr.ev hv).1, Instr.storeAt, Instr.sureAddr, storeVar, Value.cells]
    simp [size_run hT hs]
    have hst' : (storeCells (⟨b, 0, none⟩ : Addr) vs).run P w = .ok () (w.setCells b 0 vs) := by simpa using hst
    rw [hst']
    rfl
  · refine hk (A' := stA e' b vs) (F' := F) (G := fun g => g = b) ⟨?_, ?_, g4, g5⟩ (chg_setCells b vs 0 w) (fun g _ hg => (g5 g).2 hg) fun g hg => .inl hg
    · rw [hheap]
      congr 2
      apply Array.toList_inj.1
      simp [splice, hl]
    · rw [List.all_eq_true]
      intro u hu
      have := h1 u hu
      simp at this
      exact this.2
/-- A cell of an element of a row is written. -/
theorem wl_strv (hT : T.Ok P) {o : Oper} {rest : List Oper} {te : TypeId} {p v : Operand} {g j c n e' z : Nat} {xs : List Value} {u : Value} (fr : FrD Df N a L) (hw : wantL ops L o = some true) (hd : o.dst = none) (ho : o.op = .store te p v) (hp : ev L p = some (.pointer (some ⟨g, j, none⟩))) (hv : ev L v = some u) (hs : T.sz.lookup te = some 1)
    (hc : u.cells = #[u]) (h1 : u.oneCell' = true) (h2 : vok1 u = true) (S : Sat w0 w (rvA e' z (some ⟨g, 0, none⟩) c n xs :: R)) (hj : j < n * z) (h : ∀ w', Sat w0 w' (rvA e' z (some ⟨g, 0, none⟩) c n (splice xs j [u]) :: R) → wpList P ops Q rest a w') : wpList P ops Q (o :: rest) a w := by
  have hset := rv_set S rfl j [u] (by simp; omega) (fun v hv => by rw [List.mem_singleton] at hv; subst hv; exact h2)
  refine wl_skip (w' := w.setCells g j [u]) fr hw hd ?_ (h _ hset)
  obtain ⟨F, q1, q2, q3⟩ := S.hd
  obtain ⟨A2, c2, he, r1, r2, r3, r4⟩ := q1.slice
  injection he with e1 e2 e3
  subst e1
  obtain ⟨g', s1, s2, s3, s4, s5⟩ := r4 _ rfl
  injection s1 with s1
  subst s1
  have hst := run_storeCells_cells (P := P) g j [u] 0 w (fun i hi => by
    have hi : i = 0 := by simpa using hi
    subst hi
    have := (s5 j hj).1
    simpa using this) (fun i hi => by
    have hi : i = 0 := by simpa using hi
    subst hi
    have := (s5 j hj).2
    simpa using this) (fun v hv => by rw [List.mem_singleton] at hv; subst hv; exact h1)
  have hst' : (storeCells (⟨g, j, none⟩ : Addr) [u]).run P w = .ok () (w.setCells g j [u]) := by simpa using hst
  unfold execOp
  simp only [ho, (fr.ev hp).1, (fr.ev hv).1, Instr.storeAt, Instr.sureAddr, storeVar, hc]
  simp [size_run hT hs, hst']
/-- A struct that is built, in a drawn region. -/
theorem sl_build {s : SOp} {rest : List Itm} {t : TypeId} {ps : Array (Nat × Operand)} {d : Nat} {L2 : List (Nat × Value)} {cs : List Value} (fr : FrD Df N a L) (hw : wantS L s = some true) (hq : s.q = true) (hd : s.dst = some d) (hlt : Nat.blt d N = true) (ho : s.op = .build t ps) (hp : (ps.map fun (i, x) => (i, a.eval x)).toList = L2) (hb : P.built t L2 = some cs.toArray) (hv : vok (.agg cs.toArray) = true)
    (h : ∀ a', FrD Df N a' ((d, .agg cs.toArray) :: L) → SL P Q S' rest a' w) : SL P Q S' (.one s :: rest) a w := by
  refine sl_q (v := .agg cs.toArray) fr hw hq hd hlt (fun w' _ => ?_) hv h
  unfold execOp
  simp only [SOp.oper, ho]
  rw [Sem.run_bind, run_build w' t _ cs.toArray (by rw [hp]; exact hb)]; rfl
theorem lit1_exec {t z : Nat} (hu : P.underlying t = some (.slice e)) (hi : (P.info? e).map (fun i => (i.zero.isSome, i.size)) = some (true, z)) (h0 : (Nat.blt 0 z && Nat.ble z 1000) = true) (fr : FrD Df N a L) {o : Oper} {x : Operand} {cs : List Value} (ho : o.op = .buildSlice t 1 #[(0, x)]) (hx : ev L x = some (.agg cs.toArray)) (hl : cs.length = z) (hv : cs.all vok1 = true) (S : Sat w0 w R) :
    ∃ A c w', (execOp a.eval o).run P w = .ok (.value (.slice A 1 c)) w' ∧ vok (.slice A 1 c) = true ∧ Sat w0 w' (rvA e z A c 1 cs :: R) := by
  simp only [Bool.and_eq_true, Nat.ble_eq] at h0
  have h0' := blt_lt h0.1
  refine ⟨some ⟨w.heap.size, 0, none⟩, 1, w.alloc (.cells cs.toArray e), ?_, vok_sl ⟨Nat.le_refl _, by unfold maxLen; omega⟩, ?_⟩
  · have h := exec_one_slice (P := P) (a := a) (w := w) (N := o.dst) (tt := o.type) t e x cs.toArray z (fr.ev hx).1 (by simpa using hl) hu hi h0' (by omega)
    unfold execOp at h ⊢
    simp only [ho] at h ⊢
    exact h
  · have hm := RowV.made w e z 1 cs.toArray S.below.size (by simp [hl]) (by unfold maxLen; omega)
    rw [List.all_eq_true] at hv
    exact S.add (F := fun g => (Value.slice (some ⟨w.heap.size, 0, none⟩) 1 1).ownBlock = some g) ((Below.refl _ _).alloc (Nat.le_refl _) _) ⟨hm, hv, fun g => Iff.rfl⟩ fun g hg => by
      have : w.heap.size = g := by simpa [Value.ownBlock] using hg
      omega
theorem sl_lit1 {t z : Nat} (hu : P.underlying t = some (.slice e)) (hi : (P.info? e).map (fun i => (i.zero.isSome, i.size)) = some (true, z)) (h0 : (Nat.blt 0 z && Nat.ble z 1000) = true) {s : SOp} {rest : List Itm} {d : Nat} {x : Operand} {cs : List Value} (fr : FrD Df N a L) (hw : wantS L s = some true) (hq : s.q = false) (hd : s.dst = some d) (hlt : Nat.blt d N = true)
    (ho : s.op = .buildSlice t 1 #[(0, x)]) (hx : ev L x = some (.agg cs.toArray)) (hl : cs.length = z) (hv : cs.all vok1 = true) (S : Sat w0 w R) (h : ∀ w' A c, Sat w0 w' (rvA e z A c 1 cs :: R) → S' w' ∧ ∀ a', FrD Df N a' ((d, .slice A 1 c) :: L) → SL P Q S' rest a' w') : SL P Q S' (.one s :: rest) a w := by
  obtain ⟨A, c, w', h1, h2, h3⟩ := lit1_exec (P := P) hu hi h0 fr (o := s.oper) ho hx hl hv S
  exact sl_val fr hw hq hd hlt h1 (h w' A c h3).1 h2 (h w' A c h3).2
theorem wl_lit1 {t z : Nat} (hu : P.underlying t = some (.slice e)) (hi : (P.info? e).map (fun i => (i.zero.isSome, i.size)) = some (true, z)) (h0 : (Nat.blt 0 z && Nat.ble z 1000) = true) {o : Oper} {rest : List Oper} {d : Nat} {x : Operand} {cs : List Value} (fr : FrD Df N a L) (hw : wantL ops L o = some true) (hd : o.dst = some d) (hlt : Nat.blt d N = true)
    (ho : o.op = .buildSlice t 1 #[(0, x)]) (hx : ev L x = some (.agg cs.toArray)) (hl : cs.length = z) (hv : cs.all vok1 = true) (S : Sat w0 w R) (h : ∀ w' A c, Sat w0 w' (rvA e z A c 1 cs :: R) → ∀ a', FrD Df N a' ((d, .slice A 1 c) :: L) → wpList P ops Q rest a' w') : wpList P ops Q (o :: rest) a w := by
  obtain ⟨A, c, w', h1, h2, h3⟩ := lit1_exec (P := P) hu hi h0 fr ho hx hl hv S
  exact wl_val fr hw hd hlt h1 h2 (h w' A c h3)
/-- One element of several cells more behind a row of one's own. -/
theorem rvapp_exec {t z bytes : Nat} (ht : P.underlying t = some (.slice e)) (hinfo : (P.info? e).map (fun i => (i.zero.map (·.cells.size), i.size, i.bytes)) = some (some z, z, bytes)) (hz0 : Nat.blt 0 z = true) (hby : Nat.ble bytes 128 = true) (fr : FrD Df N a L) {o : Oper} {x y : Operand} {A Y : Option Addr} {n c cy : Nat} {xs news : List Value}
    (ho : o.op = .call { callee := .builtin .append, args := #[x, y], argTypes := #[t, t] }) (hx : ev L x = some (.slice A n c)) (hy : ev L y = some (.slice Y 1 cy)) (h1 : news.all (fun u => u.oneCell') = true) (hb : n ≤ 1000000000000) (S : Sat w0 w (rvA e z Y cy 1 news :: rvA e z A c n xs :: R)) :
    ∃ A2 c2 w', (execOp a.eval o).run P w = .ok (.value (.slice A2 (n + 1) c2)) w' ∧ vok (.slice A2 (n + 1) c2) = true ∧ Sat w0 w' (rvA e z A2 c2 (n + 1) (xs ++ news) :: R) := by
  obtain ⟨q1, q2, q3, q4, q5⟩ := rv_facts S
  cases Y with
  | none => have := q3 rfl; omega
  | some ad =>
    obtain ⟨g, rfl, hr⟩ := q5 ad rfl
    rw [List.all_eq_true] at h1
    obtain ⟨A2, c2, w', r1, r2, r3⟩ := rv_app (P := P) (ty := o.type) (ad := ⟨g, 0, none⟩) (cy := cy) ht hinfo (blt_lt hz0) (Nat.le_of_ble_eq_true hby) S.tl (by omega) (fun j u hu => by rw [addr0]; have := hr j u hu; rwa [Nat.zero_add] at this) (fun u hu => ⟨h1 u hu, q4 u hu⟩) hb
    exact ⟨A2, c2, w', app_op fr ho hx hy r1, vok_sl r2, r3⟩
theorem sl_rvapp {t z bytes : Nat} (ht : P.underlying t = some (.slice e)) (hinfo : (P.info? e).map (fun i => (i.zero.map (·.cells.size), i.size, i.bytes)) = some (some z, z, bytes)) (hz0 : Nat.blt 0 z = true) (hby : Nat.ble bytes 128 = true) {s : SOp} {rest : List Itm} {d : Nat} {x y : Operand} {A Y : Option Addr} {n c cy : Nat} {xs news : List Value} (fr : FrD Df N a L) (hw : wantS L s = some true) (hq : s.q = false) (hd : s.dst = some d) (hlt : Nat.blt d N = true)
    (ho : s.op = .call { callee := .builtin .append, args := #[x, y], argTypes := #[t, t] }) (hx : ev L x = some (.slice A n c)) (hy : ev L y = some (.slice Y 1 cy)) (h1 : news.all (fun u => u.oneCell') = true) (hb : n ≤ 1000000000000) (S : Sat w0 w (rvA e z Y cy 1 news :: rvA e z A c n xs :: R))
    (h : ∀ w' A2 c2, Sat w0 w' (rvA e z A2 c2 (n + 1) (xs ++ news) :: R) → S' w' ∧ ∀ a', FrD Df N a' ((d, .slice A2 (n + 1) c2) :: L) → SL P Q S' rest a' w') : SL P Q S' (.one s :: rest) a w := by
  obtain ⟨A2, c2, w', r1, r2, r3⟩ := rvapp_exec (P := P) ht hinfo hz0 hby fr (o := s.oper) ho hx hy h1 hb S
  exact sl_val fr hw hq hd hlt r1 (h w' A2 c2 r3).1 r2 (h w' A2 c2 r3).2
theorem wl_rvapp {t z bytes : Nat} (ht : P.underlying t = some (.slice e)) (hinfo : (P.info? e).map (fun i => (i.zero.map (·.cells.size), i.size, i.bytes)) = some (some z, z, bytes)) (hz0 : Nat.blt 0 z = true) (hby : Nat.ble bytes 128 = true) {o : Oper} {rest : List Oper} {d : Nat} {x y : Operand} {A Y : Option Addr} {n c cy : Nat} {xs news : List Value} (fr : FrD Df N a L) (hw : wantL ops L o = some true) (hd : o.dst = some d) (hlt : Nat.blt d N = true)
    (ho : o.op = .call { callee := .builtin .append, args := #[x, y], argTypes := #[t, t] }) (hx : ev L x = some (.slice A n c)) (hy : ev L y = some (.slice Y 1 cy)) (h1 : news.all (fun u => u.oneCell') = true) (hb : n ≤ 1000000000000) (S : Sat w0 w (rvA e z Y cy 1 news :: rvA e z A c n xs :: R))
    (h : ∀ w' A2 c2, Sat w0 w' (rvA e z A2 c2 (n + 1) (xs ++ news) :: R) → ∀ a', FrD Df N a' ((d, .slice A2 (n + 1) c2) :: L) → wpList P ops Q rest a' w') : wpList P ops Q (o :: rest) a w := by
  obtain ⟨A2, c2, w', r1, r2, r3⟩ := rvapp_exec (P := P) ht hinfo hz0 hby fr ho hx hy h1 hb S
  exact wl_val fr hw hd hlt r1 r2 (h w' A2 c2 r3)
end
/-! ### What is held -/
structure Hd where
  A : Option Addr
  c : Nat
  l : List Int
  g : Option (Option Addr × Nat × List Int)
  k : Int
def Hd.lv (h : Hd) : Value := match h.g with
  | none => .slice none 0 0
  | some p => .slice p.1 p.2.2.length p.2.1
def hdV (h : Hd) : List Value := [.slice h.A h.l.length h.c, h.lv, .int .i64 h.k]
def hdsV (hs : List Hd) : List Value := hs.flatMap hdV
def hdA (k : IntKind) (e : Nat) (h : Hd) : Asn := match h.g with
  | none => ownA k e h.A h.c h.l
  | some p => gwA e 1 h.A (h.l.map (Value.int k)) p.1 p.2.1 p.2.2.length (p.2.2.map (Value.int k))
theorem hdsV_len (hs : List Hd) : (hdsV hs).length = hs.length * 3 := by
  induction hs with
  | nil => rfl
  | cons h r ih =>
    have : hdsV (h :: r) = hdV h ++ hdsV r := by simp [hdsV]
    rw [this, List.length_append, ih, List.length_cons]
    show 3 + _ = _
    omega
theorem hdsV_at : ∀ (hs : List Hd) (i j : Nat) (u : Value) (hi : i < hs.length), (hdV hs[i])[j]? = some u → (hdsV hs)[i * 3 + j]? = some u := by
  intro hs
  induction hs with
  | nil => intro i j u hi; exact absurd hi (Nat.not_lt_zero _)
  | cons h r ih =>
    intro i j u hi hu
    have e : hdsV (h :: r) = hdV h ++ hdsV r := by simp [hdsV]
    have hl : (hdV h).length = 3 := rfl
    rw [e]
    cases i with
    | zero =>
      have hj : j < 3 := (List.getElem?_eq_some_iff.1 hu).1
      rw [List.getElem?_append_left (by omega), Nat.zero_mul, Nat.zero_add]
      exact hu
    | succ i =>
      rw [List.getElem?_append_right (by omega), show (i + 1) * 3 + j - (hdV h).length = i * 3 + j by omega]
      exact ih i j u (by simpa using hi) hu
theorem hdsV_set : ∀ (hs : List Hd) (i : Nat) (h' : Hd) (v : Value) (hi : i < hs.length), hdV h' = (hdV hs[i]).set 1 v → splice (hdsV hs) (i * 3 + 1) [v] = hdsV (hs.set i h') := by
  intro hs
  induction hs with
  | nil => intro i h' v hi; exact absurd hi (Nat.not_lt_zero _)
  | cons h r ih =>
    intro i h' v hi hv
    have e : hdsV (h :: r) = hdV h ++ hdsV r := by simp [hdsV]
    have hl : (hdV h).length = 3 := rfl
    cases i with
    | zero =>
      have e2 : hdsV ((h :: r).set 0 h') = hdV h' ++ hdsV r := by simp [hdsV]
      rw [e, e2, hv]
      simp [splice, hdV]
    | succ i =>
      have e2 : hdsV ((h :: r).set (i + 1) h') = hdV h ++ hdsV (r.set i h') := by simp [hdsV]
      rw [e, e2, ← ih i h' v (by simpa using hi) hv]
      unfold splice
      rw [show (i + 1) * 3 + 1 = (hdV h).length + (i * 3 + 1) by omega, List.take_length_add_append, List.append_assoc]
      congr 1
      rw [show (hdV h).length + (i * 3 + 1) + [v].length = (hdV h).length + (i * 3 + 1 + [v].length) by omega, List.drop_length_add_append]
theorem hdsV_same (hs : List Hd) (f : Hd → Hd) (h : ∀ x ∈ hs, hdV (f x) = hdV x) : hdsV (hs.map f) = hdsV hs := by
  induction hs with
  | nil => rfl
  | cons x r ih =>
    have e : ∀ (x : Hd) r, hdsV (x :: r) = hdV x ++ hdsV r := fun x r => by simp [hdsV]
    rw [List.map_cons, e, e, h x List.mem_cons_self, ih fun y hy => h y (List.mem_cons_of_mem _ hy)]
section
variable {w w0 : World} {R M X : List Asn} {k : IntKind} {e eo c : Nat} {A : Option Addr} {hs : List Hd} {i : Nat}
theorem held_at (S : Sat w0 w M) (j : Nat) (hj : M[j]? = some (rvA eo 3 A c hs.length (hdsV hs))) (hi : i < hs.length) : (∃ g, A = some ⟨g, 0, none⟩) ∧ (∀ ad, A = some ad → ∃ g, ad = ⟨g, 0, none⟩ ∧ w.rangeAt g (i * 3) (hdV hs[i])) ∧ ∀ v ∈ hdV hs[i], vok1 v = true := by
  obtain ⟨h1, h2, h3, h4, h5⟩ := S.rvAt j hj
  refine ⟨?_, fun ad he => ?_, fun v hv => ?_⟩
  · cases A with
    | none => have := h3 rfl; omega
    | some ad =>
      obtain ⟨g, rfl, _⟩ := h5 ad rfl
      exact ⟨g, rfl⟩
  · obtain ⟨g, rfl, hr⟩ := h5 ad he
    refine ⟨g, rfl, fun q u hu => ?_⟩
    have := hr (i * 3 + q) u (hdsV_at hs i q u hi hu)
    rwa [Nat.zero_add] at this
  · obtain ⟨q, hq⟩ := List.getElem?_of_mem hv
    exact h4 v (List.mem_of_getElem? (hdsV_at hs i q v hi hq))
theorem erase_parts {α : Type} (hs : List α) (hi : i < hs.length) (x : α) : hs = hs.take i ++ hs[i] :: hs.drop (i + 1) ∧ hs.eraseIdx i = hs.take i ++ hs.drop (i + 1) ∧ hs.set i x = hs.take i ++ x :: hs.drop (i + 1) :=
  ⟨by rw [List.getElem_cons_drop]; exact (List.take_append_drop i hs).symm, List.eraseIdx_eq_take_drop_succ hs i, List.set_eq_take_append_cons_drop.trans (by rw [if_pos hi])⟩
theorem mid_perm {a : Asn} {X Y Z W : List Asn} : (X ++ ((Y ++ a :: Z) ++ W)).Perm (a :: (X ++ ((Y ++ Z) ++ W))) := by
  have h1 : (X ++ ((Y ++ a :: Z) ++ W)) = (X ++ Y) ++ a :: (Z ++ W) := by simp
  have h2 : (a :: (X ++ ((Y ++ Z) ++ W))) = a :: ((X ++ Y) ++ (Z ++ W)) := by simp
  rw [h1, h2]
  exact List.perm_middle
theorem hds_out (X : List Asn) (S : Sat w0 w (X ++ (hs.map (hdA k e) ++ R))) (hi : i < hs.length) : Sat w0 w (hdA k e hs[i] :: (X ++ ((hs.eraseIdx i).map (hdA k e) ++ R))) := by
  obtain ⟨e1, e2, -⟩ := erase_parts hs hi hs[i]
  have e1' : hs.map (hdA k e) = (hs.take i).map (hdA k e) ++ hdA k e hs[i] :: (hs.drop (i + 1)).map (hdA k e) := by
    conv => lhs; rw [e1]
    rw [List.map_append, List.map_cons]
  rw [e2, List.map_append]
  rw [e1'] at S
  exact S.perm mid_perm
theorem hds_in (X : List Asn) {h' : Hd} (S : Sat w0 w (hdA k e h' :: (X ++ ((hs.eraseIdx i).map (hdA k e) ++ R)))) (hi : i < hs.length) : Sat w0 w (X ++ ((hs.set i h').map (hdA k e) ++ R)) := by
  obtain ⟨e1, e2, e3⟩ := erase_parts hs hi h'
  rw [e3, List.map_append, List.map_cons]
  rw [e2, List.map_append] at S
  exact S.perm mid_perm.symm
end
theorem i64_next {i n : Nat} (h : i < n) (hn : n ≤ 9223372036854775807) : IntKind.wrap .i64 ((i : Int) + 1) = ((i + 1 : Nat) : Int) := by rw [show IntKind.wrap .i64 ((i : Int) + 1) = (i : Int) + 1 from IntWalk.i64_in _ ⟨by omega, by omega⟩]; omega
/-- The first ones are turned. -/
def partL {α : Type} (f : α → α) (i : Nat) (l : List α) : List α := (l.take i).map f ++ l.drop i
section
variable {α : Type} {f : α → α} {l : List α} {i : Nat}
theorem partL_0 : partL f 0 l = l := by simp [partL]
theorem partL_all : partL f l.length l = l.map f := by simp [partL]
theorem partL_len : (partL f i l).length = l.length := by simp [partL]; omega
theorem partL_get (hi : i < l.length) : (partL f i l)[i]? = some l[i] := by
  unfold partL
  rw [List.getElem?_append_right (by simp; omega), List.length_map, List.length_take, Nat.min_eq_left (by omega), Nat.sub_self, List.getElem?_drop, Nat.add_zero, List.getElem?_eq_getElem hi]
theorem partL_get' (hi : i < l.length) (h : i < (partL f i l).length) : (partL f i l)[i] = l[i] := by
  have := partL_get (f := f) hi
  rw [List.getElem?_eq_getElem h] at this
  injection this
theorem partL_set (hi : i < l.length) : (partL f i l).set i (f l[i]) = partL f (i + 1) l := by
  unfold partL
  rw [List.set_append_right _ _ (by simp; omega), List.length_map, List.length_take, Nat.min_eq_left (by omega), Nat.sub_self, List.take_succ_eq_append_getElem hi, List.map_append, List.append_assoc]
  congr 1
  have e : l.drop i = l[i] :: l.drop (i + 1) := List.drop_eq_getElem_cons hi
  rw [e, List.set_cons_zero]
  rfl
end
end Go.Proofs.YticnjkdaccacaaaGreatDoor.Sx
end
