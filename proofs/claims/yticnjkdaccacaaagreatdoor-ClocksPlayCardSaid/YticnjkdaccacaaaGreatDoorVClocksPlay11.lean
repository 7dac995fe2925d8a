/- Texts of this work, one behind the other. -/
import Derived.Test.YticnjkdaccacaaaGreatDoorVClocksPlay10
import Derived.IntWalk
import Derived.Test.YticnjkdaccacaaaGreatDoorRows
import Derived.Test.YticnjkdaccacaaaGreatDoorCards
import Derived.Test.YticnjkdaccacaaaGreatDoorTie
import Derived.WalkKit
import Derived.ProofKit
import Derived.OpenShut
import Derived.ShutString
import Derived.ChangeOld
import Derived.Below
import Derived.SizedLaws
import Derived.KernelRfl
import Derived.LaidMore
import Derived.Stop.Joined
import Derived.SevenTiedAt
section
/- The plain law of ClocksPlay: the map of ticks and the document's row of those that are set. -/
namespace Go.Proofs.YticnjkdaccacaaaGreatDoor.Pl
open Go Go.RowKit Sx Base Own

theorem set_is {now n : Int} (m : List (Int × Int)) (x : Int) (h0 : 0 ≤ now ∧ now ≤ 10000000000) (h1 : 1 ≤ n ∧ n ≤ 1073741824) : Set.f now m x n = some (0, now, upM m x (now + n)) := by
  unfold Set.f there.f
  rw [Option.bind_some]
  rw [iff_ (by rfl), iff_ (df (by omega)), iff_ (df (by omega)), lt_is rfl, w64 (by simp only; omega) (by simp only; omega)]
theorem set_bad {now n : Int} (m : List (Int × Int)) (x : Int) (h1 : n < 1 ∨ n > 1073741824) : Set.f now m x n = some (1, now, m) := by
  unfold Set.f there.f
  rw [Option.bind_some, iff_ (by rfl)]
  by_cases h : n < 1
  · rw [ift (dt h)]
  · rw [iff_ (df h), ift (dt (by omega))]
theorem left_no {now : Int} {m : List (Int × Int)} {x : Int} (h : lkM m x = none) : Left.f now m x = some (0, false, now, m) := by
  unfold Left.f there.f
  rw [Option.bind_some, iff_ (by rfl), lt_is rfl, lt_is rfl]
  simp only [h]
  rfl
theorem left_yes {now : Int} {m : List (Int × Int)} {x v : Int} (h : lkM m x = some v) (h0 : 0 ≤ now ∧ now ≤ 100000000000) (h1 : 0 ≤ v ∧ v ≤ 100000000000) : Left.f now m x = some (v - now, true, now, m) := by
  unfold Left.f there.f
  rw [Option.bind_some, iff_ (by rfl), lt_is rfl, lt_is rfl]
  simp only [h]
  rw [iff_ (by rfl), lt_is rfl]
  simp only [Option.getD_some]
  rw [w64 (by omega) (by omega)]
theorem clear_no {now : Int} {m : List (Int × Int)} {x : Int} (h : lkM m x = none) : Clear.f now m x = some (6, now, m) := by
  unfold Clear.f there.f
  rw [Option.bind_some, iff_ (by rfl), lt_is rfl]
  simp only [h]
  rfl
theorem clear_yes {now : Int} {m : List (Int × Int)} {x v : Int} (h : lkM m x = some v) : Clear.f now m x = some (0, now, delM m x) := by
  unfold Clear.f there.f
  rw [Option.bind_some, iff_ (by rfl), lt_is rfl]
  simp only [h]
  rw [iff_ (by rfl), lt_is rfl]
theorem tick_l1 (now : Int) (l : List Int) (hl : l.length ≤ 1000) : ∀ (d k i : Nat) (m : List (Int × Int)), i + d = l.length → d < k → Tick.l1 k l now m (i : Int) = some (l, now, (l.drop i).foldl delM m) := by
  intro d
  induction d with
  | zero =>
    intro k i m hi hk
    obtain ⟨k, rfl⟩ : ∃ q, k = q + 1 := ⟨k - 1, by omega⟩
    rw [Tick.l1, iff_ (df (by omega)), List.drop_of_length_le (by omega)]
    rfl
  | succ d ih =>
    intro k i m hi hk
    obtain ⟨k, rfl⟩ : ∃ q, k = q + 1 := ⟨k - 1, by omega⟩
    rw [Tick.l1, ift (dt (by omega)), if_pos (by omega), lt_is rfl, lt_is rfl, w64s (by omega), ih k (i + 1) _ (by omega) (by omega), Int.toNat_natCast]
    rw [List.drop_eq_getElem_cons (by omega : i < l.length), List.foldl_cons, List.getD_eq_getElem?_getD, List.getElem?_eq_getElem (by omega)]
    rfl
theorem tick_is {L : Nat} {m : List (Int × Int)} {f : Int → Option Int} (h : Is L m f) (hL : L ≤ 1000) {now : Int} (h0 : 0 ≤ now ∧ now ≤ 10000000000) {k : Nat} (hk : L < k) :
    ∃ l m', Tick.f k now m = some (l, now + 1, m') ∧ Is L m' (fun y => if f y = some (now + 1) then none else f y) ∧ (∀ x, x ∈ l ↔ f x = some (now + 1)) ∧ l.Pairwise (· < ·) ∧ l.length ≤ L ∧ m'.length + l.length = m.length := by
  have hlen := h.len
  obtain ⟨d1, d2, d3⟩ := h.dues (now := now + 1) ⟨by omega, by omega⟩
  refine ⟨Clk.due (now + 1) m, (Clk.due (now + 1) m).foldl delM m, ?_, (h.dels _).ext (fun x => ?_), d1, d2, d3, dels_len _ h (d2.imp (fun hab e => by omega)) (fun x hx e => ?_)⟩
  · unfold Tick.f there.f
    rw [Option.bind_some, iff_ (by rfl), lt_is rfl]
    simp only
    rw [if_pos (by omega), lt_is rfl, w64 (by omega) (by omega)]
    exact tick_l1 _ _ (by omega) (Clk.due (now + 1) m).length k 0 m (by omega) (by omega)
  · by_cases hx : f x = some (now + 1)
    · rw [if_pos hx, if_pos ((d1 x).2 hx)]
    · rw [if_neg hx, if_neg (fun q => hx ((d1 x).1 q))]
  · rw [(d1 x).1 hx] at e; cases e
/-- The same, of those who are due when it is known who they are. -/
theorem tick_eq {L : Nat} {m : List (Int × Int)} {f : Int → Option Int} (h : Is L m f) (hL : L ≤ 1000) {now : Int} (h0 : 0 ≤ now ∧ now ≤ 10000000000) {k : Nat} (hk : L < k) {l : List Int} (hs : l.Pairwise (· < ·)) (hl : ∀ x, x ∈ l ↔ f x = some (now + 1)) :
    ∃ m', Tick.f k now m = some (l, now + 1, m') ∧ Is L m' (fun y => if f y = some (now + 1) then none else f y) ∧ l.length ≤ L := by
  obtain ⟨l', m', h1, h2, h3, h4, h5, -⟩ := tick_is h hL h0 hk
  have : l' = l := sorted_unique h4 hs (fun x => by rw [h3, hl])
  subst this
  exact ⟨m', h1, h2, h5⟩
theorem tick_none {L : Nat} {m : List (Int × Int)} {f : Int → Option Int} (h : Is L m f) (hL : L ≤ 1000) {now : Int} (h0 : 0 ≤ now ∧ now ≤ 10000000000) {k : Nat} (hk : L < k) (hf : ∀ x, f x ≠ some (now + 1)) :
    ∃ m', Tick.f k now m = some ([], now + 1, m') ∧ Is L m' f := by
  obtain ⟨m', h1, h2, -⟩ := tick_eq h hL h0 hk (l := []) List.Pairwise.nil (fun x => by simp [hf x])
  exact ⟨m', h1, h2.ext (fun x => by rw [if_neg (hf x)])⟩

theorem same_l1 (l : List Int) (hl : l.length ≤ 100000) : ∀ (d k i : Nat), i + d = l.length → d < k → SameIds.l1 k l l (i : Int) = some true := by
  intro d
  induction d with
  | zero =>
    intro k i hi hk
    obtain ⟨k, rfl⟩ : ∃ q, k = q + 1 := ⟨k - 1, by omega⟩
    rw [SameIds.l1, iff_ (df (by omega))]
  | succ d ih =>
    intro k i hi hk
    obtain ⟨k, rfl⟩ : ∃ q, k = q + 1 := ⟨k - 1, by omega⟩
    rw [SameIds.l1, ift (dt (by omega)), if_pos (by omega), if_pos (by omega), iff_ (bne_no rfl), w64s (by omega)]
    exact ih k (i + 1) (by omega) (by omega)
theorem same_is (l : List Int) (hl : l.length ≤ 100000) {k : Nat} (hk : l.length < k) : SameIds.f k l l = some true := by
  unfold SameIds.f
  rw [iff_ (bne_no rfl)]
  exact same_l1 l hl l.length k 0 (by omega) hk

/-! ### The document's row -/
theorem atM_cons (p : Int × Int) (D : QM) (x : Int) : atM (p :: D) x = if p.1 = x then some 0 else (atM D x).map (· + 1) := by
  unfold atM
  rw [List.findIdx?_cons]
  by_cases h : p.1 = x
  · rw [if_pos h, if_pos (by simpa using h)]
  · rw [if_neg h, if_neg (by simpa using h)]
theorem at_none : ∀ (D : QM) (x : Int), atM D x = none ↔ lkM D x = none := by
  intro D x
  induction D with
  | nil => exact ⟨fun _ => rfl, fun _ => rfl⟩
  | cons p D ih =>
    rw [atM_cons, lkM_cons]
    by_cases h : p.1 = x
    · simp [h]
    · simp [h, ih]
theorem at_some : ∀ (D : QM) (x : Int) (i : Nat), atM D x = some i → lkM D x = some (D.getD i (0, 0)).2 := by
  intro D x
  induction D with
  | nil => intro i h; cases h
  | cons p D ih =>
    intro i h
    rw [atM_cons] at h
    rw [lkM_cons]
    by_cases hp : p.1 = x
    · rw [if_pos hp] at h ⊢
      injection h with h
      subst h
      rfl
    · rw [if_neg hp] at h ⊢
      rw [Option.map_eq_some_iff] at h
      obtain ⟨j, hj, rfl⟩ := h
      rw [ih j hj]
      rfl
theorem leftI_is (D : QM) (x : Int) : leftI D x = (lkM D x).getD 0 := by
  unfold leftI
  cases h : atM D x with
  | none => rw [(at_none D x).1 h]; rfl
  | some i => rw [at_some D x i h]; rfl
theorem leftB_is (D : QM) (x : Int) : leftB D x = (lkM D x).isSome := by
  unfold leftB
  cases h : atM D x with
  | none => rw [(at_none D x).1 h]; rfl
  | some i => rw [at_some D x i h]; rfl
theorem clearE_is (D : QM) (x : Int) : clearE D x = if (lkM D x).isSome then 0 else 6 := by
  unfold clearE
  cases h : atM D x with
  | none => rw [(at_none D x).1 h]; rfl
  | some i => rw [at_some D x i h]; rfl
theorem clearM_is : ∀ (D : QM) (x : Int), clearM D x = delM D x := by
  intro D x
  induction D with
  | nil => rfl
  | cons p D ih =>
    unfold clearM at ih ⊢
    rw [atM_cons]
    unfold delM
    by_cases h : p.1 = x
    · rw [if_pos h, if_pos h]; simp
    · rw [if_neg h, if_neg h, ← ih]
      cases atM D x <;> simp
theorem del_none {D : QM} {x : Int} (h : lkM D x = none) : delM D x = D := by
  induction D with
  | nil => rfl
  | cons p D ih =>
    rw [lkM_cons] at h
    unfold delM
    by_cases hp : p.1 = x
    · rw [if_pos hp] at h; cases h
    · rw [if_neg hp] at h ⊢
      rw [ih h]
def insM (id t : Int) : QM → QM
  | [] => [(id, t)]
  | p :: D => if p.1 < id then p :: insM id t D else (id, t) :: p :: D
theorem insM_is (id t : Int) : ∀ D : QM, D.take (leadM D id) ++ [(id, t)] ++ D.drop (leadM D id) = insM id t D := by
  intro D
  induction D with
  | nil => rfl
  | cons p D ih =>
    unfold leadM at *
    show _ = if p.1 < id then p :: insM id t D else (id, t) :: p :: D
    by_cases h : p.1 < id
    · rw [if_pos h, ← ih, List.takeWhile_cons_of_pos (by simpa using h)]
      simp
    · rw [if_neg h, List.takeWhile_cons_of_neg (by simpa using h)]
      simp
theorem ins_lk (id t y : Int) : ∀ D : QM, lkM (insM id t D) y = if id = y then some t else lkM D y := by
  intro D
  induction D with
  | nil => exact lkM_cons [] (id, t) y
  | cons p D ih =>
    unfold insM
    by_cases h : p.1 < id
    · rw [if_pos h, lkM_cons, lkM_cons, ih]
      by_cases h1 : p.1 = y
      · rw [if_pos h1, if_pos h1, if_neg (by omega)]
      · rw [if_neg h1, if_neg h1]
    · rw [if_neg h, lkM_cons]
theorem ins_mem2 (id t : Int) (x : Int × Int) : ∀ D : QM, x ∈ insM id t D → x = (id, t) ∨ x ∈ D := by
  intro D
  induction D with
  | nil => intro h; rw [insM, List.mem_singleton] at h; exact .inl h
  | cons p D ih =>
    intro h
    unfold insM at h
    by_cases hp : p.1 < id
    · rw [if_pos hp] at h
      rcases List.mem_cons.1 h with h | h
      · exact .inr (by rw [h]; exact List.mem_cons_self)
      · exact (ih h).imp (fun e => e) (List.mem_cons_of_mem _)
    · rw [if_neg hp] at h
      exact List.mem_cons.1 h
theorem ins_len2 (id t : Int) : ∀ D : QM, (insM id t D).length = D.length + 1 := by
  intro D
  induction D with
  | nil => rfl
  | cons p D ih =>
    unfold insM
    split
    · rw [List.length_cons, ih, List.length_cons]
    · rfl
abbrev Up (D : QM) : Prop := D.Pairwise fun a b => a.1 < b.1
theorem Up.nodup {D : QM} (h : Up D) : (keysM D).Nodup := by
  unfold keysM
  exact List.Pairwise.map _ (fun a b hab e => by omega) h
theorem ins_up (id t : Int) : ∀ D : QM, Up D → lkM D id = none → Up (insM id t D) := by
  intro D
  induction D with
  | nil => intro _ _; exact List.pairwise_singleton _ _
  | cons p D ih =>
    intro hu hn
    rw [lkM_cons] at hn
    have hp : p.1 ≠ id := fun e => by rw [if_pos e] at hn; cases hn
    rw [if_neg hp] at hn
    obtain ⟨h1, h2⟩ := List.pairwise_cons.1 hu
    unfold insM
    by_cases h : p.1 < id
    · rw [if_pos h]
      refine List.pairwise_cons.2 ⟨fun x hx => ?_, ih h2 hn⟩
      rcases ins_mem2 id t x D hx with rfl | hx
      · exact h
      · exact h1 x hx
    · rw [if_neg h]
      refine List.pairwise_cons.2 ⟨fun x hx => ?_, hu⟩
      rcases List.mem_cons.1 hx with rfl | hx
      · show id < _; omega
      · have := h1 x hx; show id < x.1; omega
abbrev Fit (D : QM) : Prop := ∀ p ∈ D, 1 ≤ p.2 ∧ p.2 ≤ 1073741824
theorem tick_cons (p : Int × Int) (D : QM) (hf : 1 ≤ p.2 ∧ p.2 ≤ 1073741824) : toldM (p :: D) = (if p.2 = 1 then [p.1] else []) ++ toldM D ∧ restM (p :: D) = (if p.2 = 1 then [] else [(p.1, p.2 - 1)]) ++ restM D := by
  unfold toldM restM lessM
  rw [List.map_cons, w64 (x := p.2 - 1) (by omega) (by omega)]
  by_cases h : p.2 = 1
  · have : (p.2 - 1 == 0) = true := by simp; omega
    simp [h]
  · have : (p.2 - 1 == 0) = false := by simp; omega
    simp [h, this]
theorem rest_lk (y : Int) : ∀ D : QM, Up D → Fit D → lkM (restM D) y = (lkM D y).bind fun t => if t = 1 then none else some (t - 1) := by
  intro D
  induction D with
  | nil => intro _ _; rfl
  | cons p D ih =>
    intro hu hf
    obtain ⟨h1, h2⟩ := List.pairwise_cons.1 hu
    have ih := ih h2 fun q hq => hf q (List.mem_cons_of_mem _ hq)
    have hn := hu.nodup
    rw [(tick_cons p D (hf p List.mem_cons_self)).2, lkM_cons]
    have hno : p.1 = y → lkM D y = none := fun e => by
      rw [lk_none]
      intro hm
      have := (List.nodup_cons.1 (show (p.1 :: keysM D).Nodup from hn)).1
      rw [e] at this
      exact this hm
    by_cases h : p.2 = 1
    · rw [if_pos h, List.nil_append, ih]
      by_cases hp : p.1 = y
      · rw [if_pos hp, hno hp, h]; rfl
      · rw [if_neg hp]
    · rw [if_neg h, List.singleton_append, lkM_cons]
      by_cases hp : p.1 = y
      · rw [if_pos hp, if_pos hp, Option.bind_some, if_neg h]
      · rw [if_neg hp, if_neg hp, ih]
theorem told_mem (y : Int) : ∀ D : QM, Up D → Fit D → (y ∈ toldM D ↔ lkM D y = some 1) := by
  intro D
  induction D with
  | nil => intro _ _; exact ⟨fun h => (by cases h), fun h => (by cases h)⟩
  | cons p D ih =>
    intro hu hf
    obtain ⟨h1, h2⟩ := List.pairwise_cons.1 hu
    have ih := ih h2 fun q hq => hf q (List.mem_cons_of_mem _ hq)
    have hn := hu.nodup
    rw [(tick_cons p D (hf p List.mem_cons_self)).1, lkM_cons]
    have hno : p.1 = y → lkM D y = none := fun e => by
      rw [lk_none]
      intro hm
      have := (List.nodup_cons.1 (show (p.1 :: keysM D).Nodup from hn)).1
      rw [e] at this
      exact this hm
    by_cases h : p.2 = 1
    · rw [if_pos h, List.singleton_append, List.mem_cons, ih]
      by_cases hp : p.1 = y
      · rw [if_pos hp, h]; exact ⟨fun _ => rfl, fun _ => .inl hp.symm⟩
      · rw [if_neg hp]; exact ⟨fun e => e.elim (fun e => absurd e.symm hp) fun e => e, .inr⟩
    · rw [if_neg h, List.nil_append, ih]
      by_cases hp : p.1 = y
      · rw [if_pos hp, hno hp]
        constructor
        · intro e; cases e
        · intro e; injection e with e; exact absurd e h
      · rw [if_neg hp]
theorem tick_sub : ∀ D : QM, Fit D → (toldM D).Sublist (keysM D) ∧ (keysM (restM D)).Sublist (keysM D) ∧ ∀ p ∈ restM D, 1 ≤ p.2 ∧ p.2 ≤ 1073741824 := by
  intro D
  induction D with
  | nil => intro _; exact ⟨List.Sublist.refl _, List.Sublist.refl _, fun p hp => by cases hp⟩
  | cons p D ih =>
    intro hf
    obtain ⟨h1, h2, h3⟩ := ih fun q hq => hf q (List.mem_cons_of_mem _ hq)
    have hp := hf p List.mem_cons_self
    obtain ⟨e1, e2⟩ := tick_cons p D hp
    rw [e1, e2]
    by_cases h : p.2 = 1
    · rw [if_pos h, if_pos h, List.singleton_append, List.nil_append]
      exact ⟨h1.cons_cons _, h2.cons _, h3⟩
    · rw [if_neg h, if_neg h, List.singleton_append, List.nil_append]
      refine ⟨h1.cons _, h2.cons_cons _, fun q hq => ?_⟩
      rcases List.mem_cons.1 hq with rfl | hq
      · exact ⟨by simp only; omega, by simp only; omega⟩
      · exact h3 q hq
theorem keys_up2 {D : QM} (h : Up D) : (keysM D).Pairwise (· < ·) := List.Pairwise.map _ (fun _ _ hab => hab) h
theorem up_keys {D : QM} (h : (keysM D).Pairwise (· < ·)) : Up D := List.pairwise_map.1 h
/-! ### Both together -/
def fOf (now : Int) (D : QM) (x : Int) : Option Int := (lkM D x).map fun t => now + t
structure Both (L : Nat) (now : Int) (m : List (Int × Int)) (D : QM) : Prop where
  up : Up D
  fit : Fit D
  is : Is L m (fOf now D)
  len : D.length ≤ L
theorem Both.bd {L : Nat} {now : Int} {m : List (Int × Int)} {D : QM} (B : Both L now m D) {x v : Int} (h : lkM D x = some v) : 1 ≤ v ∧ v ≤ 1073741824 := B.fit (x, v) (lk_some h)
theorem Both.more {L L' : Nat} {now : Int} {m : List (Int × Int)} {D : QM} (B : Both L now m D) (h : L ≤ L') : Both L' now m D := ⟨B.up, B.fit, B.is.more h, Nat.le_trans B.len h⟩
theorem both_set {L : Nat} {now : Int} {m : List (Int × Int)} {D : QM} (B : Both L now m D) (hn : 0 ≤ now ∧ now ≤ 1000) (x t : Int) :
    ∃ m', Set.f now m x t = some (setE t, now, m') ∧ Both (L + 1) now m' (setM D x t) := by
  unfold setE setM
  by_cases h : t < 1 ∨ t > 1073741824
  · rw [if_pos h, if_pos h]
    exact ⟨m, set_bad m x h, B.more (Nat.le_succ _)⟩
  · rw [if_neg h, if_neg h]
    refine ⟨_, set_is m x ⟨by omega, by omega⟩ ⟨by omega, by omega⟩, ?_⟩
    have hnd := B.up.nodup
    rw [insM_is, clearM_is]
    have hno : lkM (delM D x) x = none := by rw [lk_del hnd, if_pos rfl]
    have hup : Up (delM D x) := B.up.sublist (del_sub D x)
    refine ⟨ins_up x t _ hup hno, fun p hp => ?_, (B.is.up x (now + t) ⟨by omega, by omega⟩).ext fun y => ?_, ?_⟩
    · rcases ins_mem2 x t p _ hp with rfl | hp
      · exact ⟨by simp only; omega, by simp only; omega⟩
      · exact B.fit p (mem_del hp)
    · unfold fOf
      rw [ins_lk, lk_del hnd]
      by_cases e : y = x
      · rw [if_pos e, if_pos e.symm]; rfl
      · rw [if_neg e, if_neg (fun q => e q.symm), if_neg (fun q => e q.symm)]
    · rw [ins_len2]
      have := (del_sub D x).length_le
      have := B.len
      omega
theorem both_clear {L : Nat} {now : Int} {m : List (Int × Int)} {D : QM} (B : Both L now m D) (x : Int) :
    ∃ m', Clear.f now m x = some (clearE D x, now, m') ∧ Both L now m' (clearM D x) := by
  rw [clearE_is, clearM_is]
  cases h : lkM D x with
  | none =>
    refine ⟨m, ?_, ?_⟩
    · rw [clear_no (by rw [B.is.lk]; unfold fOf; rw [h]; rfl)]; rfl
    · rw [del_none h]; exact B
  | some v =>
    refine ⟨delM m x, ?_, B.up.sublist (del_sub D x), fun p hp => B.fit p (mem_del hp), (B.is.del x).ext fun y => ?_, Nat.le_trans (del_sub D x).length_le B.len⟩
    · rw [clear_yes (v := now + v) (by rw [B.is.lk]; unfold fOf; rw [h]; rfl)]; rfl
    · unfold fOf
      rw [lk_del B.up.nodup]
      by_cases e : y = x
      · rw [if_pos e, if_pos e.symm]; rfl
      · rw [if_neg e, if_neg (fun q => e q.symm)]
theorem both_tick {L : Nat} {now : Int} {m : List (Int × Int)} {D : QM} (B : Both L now m D) (hn : 0 ≤ now ∧ now ≤ 1000) (hL : L ≤ 1000) {k : Nat} (hk : L < k) :
    ∃ m', Tick.f k now m = some (toldM D, now + 1, m') ∧ Both L (now + 1) m' (restM D) ∧ (toldM D).length ≤ L := by
  obtain ⟨s1, s2, s3⟩ := tick_sub D B.fit
  obtain ⟨m', h1, h2, h3⟩ := tick_eq B.is hL (now := now) ⟨by omega, by omega⟩ hk (l := toldM D) ((keys_up2 B.up).sublist s1) fun x => by
    rw [told_mem x D B.up B.fit]
    unfold fOf
    cases lkM D x with
    | none => simp
    | some v => simp only [Option.map_some, Option.some.injEq]; omega
  refine ⟨m', h1, ⟨up_keys ((keys_up2 B.up).sublist s2), s3, h2.ext fun y => ?_, Nat.le_trans (restM_len D) B.len⟩, h3⟩
  unfold fOf
  rw [rest_lk y D B.up B.fit]
  cases lkM D y with
  | none => rfl
  | some v =>
    simp only [Option.map_some, Option.bind_some, Option.some.injEq]
    by_cases e : v = 1
    · rw [if_pos e, if_pos (by omega)]; rfl
    · rw [if_neg e, if_neg (by omega), Option.map_some]
      congr 1
      omega
theorem both_left {L : Nat} {now : Int} {m : List (Int × Int)} {D : QM} (B : Both L now m D) (hn : 0 ≤ now ∧ now ≤ 1000) (x : Int) :
    Left.f now m x = some (leftI D x, leftB D x, now, m) := by
  rw [leftI_is, leftB_is]
  cases h : lkM D x with
  | none => rw [left_no (by rw [B.is.lk]; unfold fOf; rw [h]; rfl)]; rfl
  | some v =>
    have := B.bd h
    rw [left_yes (v := now + v) (by rw [B.is.lk]; unfold fOf; rw [h]; rfl) ⟨by omega, by omega⟩ ⟨by omega, by omega⟩]
    rw [show now + v - now = v by omega]
    rfl
theorem play_j1 {kl1 : Int → List (Int × Int) → Int → List (Int × Int) → Int → Option Bool} {y : Int × Int × Int × Unit} {i : Nat} {D : QM} {now : Int} {m : List (Int × Int)} {b : Int} {L : Nat} (B : Both L now m D) (hn : 0 ≤ now ∧ now ≤ 1000) (hL : L ≤ 1000) (hi : i ≤ 1000) :
    ClocksPlay.j1 kl1 y i D now m b = kl1 b D now m ((i + 1 : Nat) : Int) := by
  unfold ClocksPlay.j1
  have := B.len
  rw [both_left B hn, Option.bind_some, if_pos (by omega), lt_is rfl, lt_is rfl, iff_ (bne_no rfl), iff_ (by simp), w64s (by omega)]
theorem play_l1 (l0 : List (Int × Int × Int × Unit)) (hl : l0.length ≤ 300) : ∀ (d k i : Nat) (b : Int) (D : QM) (now : Int) (m : List (Int × Int)), i + d = l0.length → d + 1000 < k → 0 ≤ b ∧ b ≤ i → 0 ≤ now ∧ now ≤ i → Both i now m D → ClocksPlay.l1 k l0 b D now m i = some true := by
  intro d
  induction d with
  | zero =>
    intro k i b D now m hi hk _ _ _
    obtain ⟨k, rfl⟩ : ∃ q, k = q + 1 := ⟨k - 1, by omega⟩
    rw [ClocksPlay.l1, iff_ (df (by omega))]
  | succ d ih =>
    intro k i b D now m hi hk hb hn B
    obtain ⟨k, rfl⟩ : ∃ q, k = q + 1 := ⟨k - 1, by omega⟩
    have hlen := B.len
    have hn' : 0 ≤ now ∧ now ≤ 1000 := by omega
    rw [ClocksPlay.l1, ift (dt (by omega)), if_pos (by omega)]
    generalize l0.getD (Int.toNat (i : Int)) default = y
    rw [lt_is rfl]
    obtain ⟨ms, s1, s2⟩ := both_set B hn' y.2.1 y.2.2.1
    obtain ⟨mc, c1, c2⟩ := both_clear B y.2.1
    obtain ⟨mt, t1, t2, t3⟩ := both_tick B hn' (by omega) (k := k) (by omega)
    have gs : (Option.bind (Set.f now m y.2.1 y.2.2.1) fun r25 => (if List.length D ≤ 1000000 then (lt (setE y.2.2.1) fun y26 => (lt (setM D y.2.1 y.2.2.1) fun D27 => (if (r25.1 != y26) = true then none else (ClocksPlay.j1 (ClocksPlay.l1 k l0) y i D27 r25.2.1 r25.2.2 b)))) else none)) = some true := by
      rw [s1, Option.bind_some, if_pos (by omega), lt_is rfl, lt_is rfl, iff_ (bne_no rfl), play_j1 s2 hn' (by omega) (by omega)]
      exact ih k (i + 1) b _ _ _ (by omega) (by omega) (by omega) (by omega) s2
    have gc : (Option.bind (Clear.f now m y.2.1) fun r28 => (if List.length D ≤ 1000000 then (lt (clearE D y.2.1) fun y29 => (lt (clearM D y.2.1) fun D30 => (if (r28.1 != y29) = true then none else (ClocksPlay.j1 (ClocksPlay.l1 k l0) y i D30 r28.2.1 r28.2.2 b)))) else none)) = some true := by
      rw [c1, Option.bind_some, if_pos (by omega), lt_is rfl, lt_is rfl, iff_ (bne_no rfl), play_j1 c2 hn' (by omega) (by omega)]
      exact ih k (i + 1) b _ _ _ (by omega) (by omega) (by omega) (by omega) (c2.more (Nat.le_succ _))
    have ga : ClocksPlay.j1 (ClocksPlay.l1 k l0) y i D now m b = some true := by
      rw [play_j1 B hn' (by omega) (by omega)]
      exact ih k (i + 1) b _ _ _ (by omega) (by omega) (by omega) (by omega) (B.more (Nat.le_succ _))
    have gt : (Option.bind (Tick.f k now m) fun r31 => (if List.length D ≤ 1000000 then (lt (toldM D) fun l34 => (lt (restM D) fun D35 => (Option.bind (SameIds.f k r31.1 l34) fun r38 => (if (!r38) = true then none else (if List.length r31.1 ≤ 100000000000 ∧ b < (1000000000 : Int) then (ClocksPlay.j1 (ClocksPlay.l1 k l0) y i D35 r31.2.1 r31.2.2 (b + 1)) else none))))) else none)) = some true := by
      rw [t1, Option.bind_some, if_pos (by omega), lt_is rfl, lt_is rfl]
      simp only
      rw [same_is (toldM D) (by omega) (by omega), Option.bind_some, iff_ (by rfl), if_pos ⟨by omega, by omega⟩, play_j1 t2 (by omega) (by omega) (by omega)]
      exact ih k (i + 1) _ _ _ _ (by omega) (by omega) (by omega) (by omega) (t2.more (Nat.le_succ _))
    rw [gs, gc, ga, gt]
    simp only [ite_self]
theorem ClocksPlay_pure (l0 : List (Int × Int × Int × Unit)) (_z0 : (Rdr.smL (Rdr.smP Rdr.smT (Rdr.smP Rdr.smT (Rdr.smP Rdr.smT Rdr.smT)))) l0) (_v0 : ∀ x ∈ l0, ∃ w cs, (Rdr.pair (Rdr.int .u8) (Rdr.pair (Rdr.int .u32) (Rdr.pair (Rdr.int .i64) Rdr.unit))).R w cs x) : ∃ k, ClocksPlay.f k l0 = some true := by
  refine ⟨2000, ?_⟩
  unfold ClocksPlay.f
  by_cases hl : l0.length ≤ 300
  · rw [iff_ (df (by omega))]
    exact play_l1 l0 hl l0.length 2000 0 0 [] 0 [] (by omega) (by omega) (by omega) (by omega) ⟨List.Pairwise.nil, (fun p hp => by cases hp), Is.nil.ext fun x => rfl, Nat.le_refl _⟩
  · rw [ift (dt (by omega))]
end Go.Proofs.YticnjkdaccacaaaGreatDoor.Pl
end
section
/- ClocksPlay walked: over its walk and its plain law. -/
namespace Go.Proofs.YticnjkdaccacaaaGreatDoor.Pl
open Go Go.RowKit Sx Base Own

theorem ClocksPlay_law (A0 : Option Addr) (c0 : Nat) (l0 : List (Int × Int × Int × Unit)) (W : World) (hc0 : l0.length ≤ c0) (hm0 : c0 ≤ maxLen) (hr0 : Rdr.Row (Rdr.pair (Rdr.int .u8) (Rdr.pair (Rdr.int .u32) (Rdr.pair (Rdr.int .i64) Rdr.unit))) W A0 l0) (z0 : (Rdr.smL (Rdr.smP Rdr.smT (Rdr.smP Rdr.smT (Rdr.smP Rdr.smT Rdr.smT)))) l0) : Calls Tryz.prog 5 #[(.slice A0 l0.length c0)] W fun e w' => e = .returned (.bool true) ∧ Below W.heap.size W w' := by
  obtain ⟨k, hk⟩ := ClocksPlay_pure l0 z0 (fun x hx => ⟨W, rs_facts hr0 x hx⟩)
  exact (ClocksPlay.walk k A0 c0 l0 hr0 ⟨hc0, hm0⟩ (Sat.start W) hk).mono fun e w' ⟨h1, _, h3⟩ => ⟨h1, h3.below⟩
end Go.Proofs.YticnjkdaccacaaaGreatDoor.Pl
end
section
/- The row of ClocksPlay, over its walk. -/
namespace Go.Proofs.YticnjkdaccacaaaGreatDoor.clocksPlay
open Go.ChangeShapes Go.WideShapes Go.ChangeAt Go.RowKit Base
open Go.ChangeMaps (open_string shut_string)
theorem own : ownKnob Tryz.prog.godebug = none := by kernel_rfl
theorem laidOut : laidOutB Tryz.prog = true := by kernel_rfl
def laidL : List (String × DataW Unit) := [("math/bits.deBruijn32tab", Rows.laid_math_bits_deBruijn32tab), ("math/bits.deBruijn64tab", Rows.laid_math_bits_deBruijn64tab), ("internal/strconv.uint64pow10", Rows.laid_internal_strconv_uint64pow10)]
set_option maxRecDepth 100000 in
theorem door_met (os : Os) (args : Array Value) : laidMetH Tryz.prog laidL ((World.doorLaid Tryz.prog 400 os).forCall (fun _ _ => 0) ⟨#[], args, []⟩).memory :=
  laidMetH_of_parts3 (fuel := 8) (laidMet_of_run' 8 (by kernel_rfl) (by kernel_rfl)) (by kernel_rfl) (by kernel_rfl)
set_option maxRecDepth 100000 in
theorem lifted (os : Os) (started : os.Started) (H : Type) (enc : TypeId × Value → H) :
    ReturnsInHanded {} Tryz.checked os 5 .any (fun w args => (Rows.clocksPlaySpec.pre enc Tryz.prog Tryz.f5 [] false w args ∧ laidMetH Tryz.prog laidL w) ∧ sizedMet enc Tryz.prog Tryz.f5 (OpenSpec.ofChange Rows.clocksPlaySpec) false w args) (Rows.clocksPlaySpec.post enc Tryz.prog Tryz.f5 false true false false) := by
  refine returnsInHanded_of_change_and (C := Tryz.checked) (X := fun w _ => laidMetH Tryz.prog laidL w) (fun _ _ _ hh h => h.of_heap hh) own started (by kernel_rfl) Tryz.func5
    (ChangeSpec.witness_shaped (enc := enc) (C := Tryz.checked) (os := os) (X := fun w _ => laidMetH Tryz.prog laidL w) false (World.doorLaid Tryz.prog 400 os) #[.slice none 0 0] 8 rfl (World.shaped_of_RefB (by kernel_rfl) (by kernel_rfl)) (by kernel_rfl) (by kernel_rfl) (by kernel_rfl) (door_met os _)) ?_
  intro W base args ds gs before hval0 hW hcnd hsz0 _ _
  have hsz : (DataW.weightsEach Tryz.prog (Tryz.f5.params.toList ++ Rows.clocksPlaySpec.plain.varTypes Tryz.prog) (ds ++ gs)).all (· ≤ reachBytes) = true := hsz0
  have hval : ∀ (j : Nat) t v, Tryz.f5.params[j]? = some t → args[j]? = some v → Value.okWide Tryz.prog W .any base t v := hval0
  have hW' := hW
  obtain ⟨p, q, hA0, hV, rfl, hfz, hnd⟩ := hW
  have hA : DataW.TrodAll enc Tryz.prog W 0 (fun _ => true) true Tryz.f5.params.toList args.toList ds p := hA0
  rw [Tryz.params5] at hA hval hsz
  obtain ⟨v0, vs0, d0, ds0, p0, q0, hargs, rfl, rfl, h0, r0⟩ := trodAll_cons hA
  obtain ⟨rfl, rfl, rfl⟩ := trodAll_nil r0
  obtain rfl : args = #[v0] := by cases args; simp_all
  obtain ⟨rfl, rfl⟩ := trodVars_none hV
  obtain ⟨a0, len0, cap0, rfl⟩ := okWide_slice Tryz.underlying79 (hval 0 79 v0 rfl rfl)
  have k0 := h0
  have lt0 : ∀ x ∈ p0, x.block < W.heap.size := by obtain ⟨m, hm⟩ := k0; exact DataW.trod_lt m _ _ _ hm
  obtain ⟨l0, rfl, c0, m0, g0, z0⟩ := Rdr.ofS_slice_arg (r := (Rdr.pair (Rdr.int .u8) (Rdr.pair (Rdr.int .u32) (Rdr.pair (Rdr.int .i64) Rdr.unit)))) hsz (j := 0) (t := 79) rfl rfl (Rdr.ofS_sl Tryz.underlying79 (by kernel_rfl) (Rdr.ofS_st Tryz.underlying88 (by kernel_rfl) (Rdr.ofFS_cons rfl (Rdr.ofS (Rdr.of_int Tryz.underlying5 (by kernel_rfl))) (Rdr.ofFS_cons rfl (Rdr.ofS (Rdr.of_int Tryz.underlying86 (by kernel_rfl))) (Rdr.ofFS_cons rfl (Rdr.ofS (Rdr.of_int Tryz.underlying3 (by kernel_rfl))) (Rdr.ofFS_nil _))))) (B := 16) (by kernel_rfl) (by decide)) h0
  clear hA0 hval0 hsz0 hsz
  refine (Pl.ClocksPlay_law a0 cap0 l0 W c0 m0 g0 z0).mono fun e W' ⟨he, bel⟩ => ?_
  subst he
  exact ⟨_, rfl, _, _, _, [], _, [], hW', trodAll_mk1 (shut_bool Tryz.underlying4 _), (trodAll_cons_mk (Below.trod laidOut (by kernel_rfl) (of_decide_eq_true (by kernel_rfl)) k0 bel lt0) trodAll_mk0), rfl, bel.frame _, fun h => by cases h⟩
theorem over : Rows.clocksPlayRow.holds Tryz.pinned (OpenSpec.ofChange Rows.clocksPlaySpec) :=
  OpenClaim.holds_of_wide 5 Tryz.f5 rfl rfl rfl rfl rfl rfl rfl ⟨rfl, rfl, rfl, rfl, rfl⟩ rfl rfl rfl rfl rfl (by kernel_rfl) Tryz.func5 (by kernel_rfl)
    (of_decide_eq_true (by kernel_rfl)) (by unfold Func.isWrapper; first | (rw [if_pos (by decide +kernel)]; kernel_rfl) | (rw [if_neg (by decide +kernel)]; exact ⟨rfl, rfl⟩))
    (fun os started H enc _ => lifted os started H enc)
theorem proved : Rows.ClocksPlaySaid := over
set_option maxRecDepth 100000 in
theorem card : Rows.ClocksPlayCardSaid :=
  Claim7.holds_tied_plain_at .later [] [.data, .data, .data] true (true, "8e1b67c097ab7e9fdbceefeba192b3f8650cecfb9c5951a071061954cdfc76dd") false
    over (fun _ h => by cases h) (by kernel_rfl) (fun _ h => by cases h) clocksPlay_row_tie rfl ⟨rfl, rfl⟩ (by kernel_rfl) rfl
    (fun f fn hf hfn => by
      obtain rfl : f = 5 := Option.some.inj ((show Tryz.prog.funcNamed "concordat/concordatlaw09.ClocksPlay" = some 5 by kernel_rfl).symm.trans hf) |>.symm
      obtain rfl : fn = Tryz.f5 := (Option.some.inj (Tryz.func5.symm.trans hfn)).symm
      exact ⟨by kernel_rfl, fun j t ht => by
        rw [Tryz.params5] at ht
        have hm : t ∈ [79] := by simpa using Array.mem_of_getElem? ht
        have hall : ([79].all fun u => !Tryz.prog.wantsStandIn u) = true := by kernel_rfl
        exact (show Tryz.prog.wantsStandIn t = false by simpa using List.all_eq_true.1 hall t hm)⟩)
    (by kernel_rfl)
end Go.Proofs.YticnjkdaccacaaaGreatDoor.clocksPlay
namespace Go.Proofs.YticnjkdaccacaaaGreatDoor
/-- The tied card, under a short name, for the claim. -/
theorem clocksPlay_holds : Rows.ClocksPlayCardSaid := clocksPlay.card
#print axioms clocksPlay_holds
end Go.Proofs.YticnjkdaccacaaaGreatDoor
end
