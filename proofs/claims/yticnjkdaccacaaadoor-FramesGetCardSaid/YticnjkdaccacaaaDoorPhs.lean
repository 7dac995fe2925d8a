/- Regions of two phases: what reads and reckons, and then what writes. -/
import Derived.Test.YticnjkdaccacaaaDoorBase
namespace Go.Proofs.YticnjkdaccacaaaDoor.Base
open Go Go.RowKit

section
variable {P : Program} {ops : Array Oper} {Q : Exit → Act → World → Prop} {S1 S2 : World → Prop} {Y : Nat → Nat} {l : Array Bool}
/-- What holds behind an operation: of those that but reckon (0) all is as it was; of those of the first phase (1) S1 holds, of those of the second one (2) S2. -/
def cnd (S1 S2 : World → Prop) (y : Nat) (w w' : World) : Prop := if y = 0 then w' = w else if y = 1 then S1 w' else S2 w'
/-- Whatever order is picked. -/
def wpAnyP (P : Program) (ops : Array Oper) (Q : Exit → Act → World → Prop) (S1 S2 : World → Prop) (Y : Nat → Nat) : Nat → Array Bool → Act → World → Prop
  | 0, l, a, w => Region.ready .any ops l = [] ∧ Q .normal a w
  | n + 1, l, a, w => (Region.ready .any ops l = [] → Q .normal a w) ∧ ∀ i ∈ Region.ready .any ops l, wpOp P ops Q i (fun a' w' => cnd S1 S2 (Y i) w w' ∧ wpAnyP P ops Q S1 S2 Y n (l.setIfInBounds i true) a' w') a w
theorem wpAny_of_P : ∀ (n : Nat) (l : Array Bool) (a : Act) (w : World), wpAnyP P ops Q S1 S2 Y n l a w → wpAny P .any ops Q n l a w
  | 0, _, _, _, h => h
  | n + 1, _, _, _, h => ⟨h.1, fun i hi => wpOp_mono (fun a' w' h' => wpAny_of_P n _ a' w' h'.2) (h.2 i hi)⟩
theorem unset {i j : Nat} (h : (l.setIfInBounds i true).getD j true = false) : l.getD j true = false ∧ i ≠ j := by
  by_cases hij : i = j
  · subst hij
    rw [Array.getD_eq_getD_getElem?] at h
    by_cases hl : i < l.size
    · simp [hl] at h
    · simp [hl] at h
  · rw [getD_set_ne true hij] at h; exact ⟨h, hij⟩
theorem P_of_H : ∀ (n : Nat) (l : Array Bool) (a : Act) (w : World), (∀ i, l.getD i true = false → Y i = 2) → wpAnyH P .any ops Q S2 n l a w → wpAnyP P ops Q S1 S2 Y n l a w
  | 0, _, _, _, _, h => h
  | n + 1, l, a, w, hy, h => ⟨h.1, fun i hi => wpOp_mono (fun a' w' h' => ⟨by rw [hy i (mem_ready.1 hi).1]; exact h'.1, P_of_H n _ a' w' (fun j hj => hy j (unset hj).1) h'.2⟩) (h.2 i hi)⟩
def Clo (ops : Array Oper) (l : Array Bool) : Prop := ∀ j o, l.getD j false = true → ops[j]? = some o → ∀ e ∈ o.after, Region.binds .any e = true → l.getD e.on false = true
theorem Clo.set {i : Nat} (h : Clo ops l) (hi : i ∈ Region.ready .any ops l) : Clo ops (l.setIfInBounds i true) := by
  intro j o hj ho e he hb
  by_cases hij : i = j
  · subst hij
    obtain ⟨_, o', ho', hall⟩ := mem_ready.1 hi
    rw [ho] at ho'; injection ho' with ho'; subst ho'
    exact getD_set_true (hall e he hb)
  · rw [getD_set_ne false hij] at hj
    exact getD_set_true (h j o hj ho e he hb)
def deps (ops : Array Oper) : Nat → Nat → Nat → Bool
  | 0, _, _ => false
  | n + 1, k, i => match ops[k]? with
    | none => false
    | some o => o.after.toList.any (fun e => Region.binds .any e && e.on == i) || o.after.toList.any (fun e => Region.binds .any e && deps ops n e.on i)
theorem deps_spec : ∀ (n k i : Nat) (o : Oper), Clo ops l → ops[k]? = some o → (∀ e ∈ o.after, Region.binds .any e = true → l.getD e.on false = true) → deps ops n k i = true → l.getD i false = true := by
  intro n
  induction n with
  | zero => intro k i o _ _ _ h; cases h
  | succ n ih =>
    intro k i o hc ho hall h
    unfold deps at h
    rw [ho] at h
    simp only [Bool.or_eq_true, List.any_eq_true, Array.mem_toList_iff] at h
    rcases h with ⟨e, he, h⟩ | ⟨e, he, h⟩
    · simp only [Bool.and_eq_true, beq_iff_eq] at h
      rw [← h.2]; exact hall e he h.1
    · simp only [Bool.and_eq_true] at h
      have h1 := hall e he h.1
      cases ho' : ops[e.on]? with
      | none =>
        have h2 := h.2
        cases n with
        | zero => cases h2
        | succ n => unfold deps at h2; rw [ho'] at h2; cases h2
      | some o' => exact ih e.on i o' hc ho' (hc e.on o' h1 ho') h.2
theorem P_first {i : Nat} {oi : Oper} {v : Value} (hi : ops[i]? = some oi) (hsel : Region.noSelect ops = true) (hQ : ∀ c a w, Q (.panic c) (a.put oi.dst v) w → Q (.panic c) a w) (hcl : ∀ k, Y k ≠ 0 → Y k ≠ 1 → Y k = 2) (hYi : Y i = 1) (hY : ∀ k, k < ops.size → Y k = 2 → deps ops 8 k i = true) :
    ∀ (n : Nat) (l : Array Bool) (a : Act) (w : World), Clo ops l → (∀ j oj, ops[j]? = some oj → j ≠ i → l.getD j true = false → (∀ e ∈ oj.after, Region.binds .any e = true → e.on ≠ i) → oi.apart ops oj = true) →
      i ∈ Region.ready .any ops l → YieldsIf P ops S1 oi v a → S1 w → wpAnyP P ops Q S1 S2 Y n (l.setIfInBounds i true) (a.put oi.dst v) w → wpAnyP P ops Q S1 S2 Y (n + 1) l a w := by
  have hno : ∀ {l : Array Bool} {j : Nat}, Clo ops l → i ∈ Region.ready .any ops l → j ∈ Region.ready .any ops l → Y j ≠ 2 := by
    intro l j hc hr hj hyj
    · obtain ⟨_, o, ho, hall⟩ := mem_ready.1 hj
      have h1 := deps_spec 8 j i o hc ho hall (hY j (Array.getElem?_eq_some_iff.1 ho).1 hyj)
      have h2 := (mem_ready.1 hr).1
      rw [Array.getD_eq_getD_getElem?] at h1 h2
      cases hl : l[i]? with
      | none => rw [hl] at h1; cases h1
      | some b => rw [hl] at h1 h2; simp only [Option.getD_some] at h1 h2; rw [h1] at h2; cases h2
  intro n
  induction n with
  | zero =>
    intro l a w hc _ hr hy hS H
    refine ⟨fun h => (by rw [h] at hr; cases hr), fun j hj => ?_⟩
    by_cases hji : j = i
    · subst hji; exact hy.wpOp hi hS ⟨by rw [hYi]; exact hS, H⟩
    · have h1 := ready_mono hj hji
      rw [H.1] at h1
      cases h1
  | succ n ih =>
    intro l a w hc hfree hr hy hS H
    refine ⟨fun h => (by rw [h] at hr; cases hr), fun j hj => ?_⟩
    by_cases hji : j = i
    · subst hji; exact hy.wpOp hi hS ⟨by rw [hYi]; exact hS, H⟩
    · have hYj := hno hc hr hj
      have h1 := H.2 j (ready_mono hj hji)
      obtain ⟨hjun, oj, hoj, hall⟩ := mem_ready.1 hj
      have hnot : ∀ e ∈ oj.after, Region.binds .any e = true → e.on ≠ i := fun e he hb heq => by
        have g1 := hall e he hb
        have g0 := (mem_ready.1 hr).1
        rw [heq, Array.getD_eq_getD_getElem?] at g1
        rw [Array.getD_eq_getD_getElem?] at g0
        cases hl : l[i]? with
        | none => rw [hl] at g1; cases g1
        | some b => rw [hl] at g1 g0; simp only [Option.getD_some] at g1 g0; rw [g1] at g0; cases g0
      have h2 := wpOp_putIf hoj (hfree j oj hoj hji hjun hnot) (fun cs b => Region.noSelect_spec hsel i oi cs b hi) (fun cs b => Region.noSelect_spec hsel j oj cs b hoj) hQ hy h1
      refine wpOp_mono (fun a' w' h3 => ?_) h2
      obtain ⟨h3, h4, h5⟩ := h3
      have h6 : S1 w' := by
        unfold cnd at h4
        split at h4
        · rw [h4]; exact hS
        · split at h4
          · exact h4
          · rename_i q1 q2; exact (hYj (hcl _ q1 q2)).elim
      refine ⟨h4, ih _ a' w' (hc.set hj) (fun k ok hk hki hun hno' => hfree k ok hk hki (unset hun).1 hno') (ready_mono hr (Ne.symm hji)) h3 h6 ?_⟩
      rw [Array.setIfInBounds_comm _ _ hji]
      exact h5
theorem P_zero {i : Nat} {oi : Oper} {v : Value} (hi : ops[i]? = some oi) (hsel : Region.noSelect ops = true) (hQ : ∀ c a w, Q (.panic c) (a.put oi.dst v) w → Q (.panic c) a w) (hYi : Y i = 0) (h12 : ∀ w, S1 w → S2 w) :
    ∀ (n : Nat) (l : Array Bool) (a : Act) (w : World), Clo ops l → (∀ j oj, ops[j]? = some oj → j ≠ i → l.getD j true = false → (∀ e ∈ oj.after, Region.binds .any e = true → e.on ≠ i) → oi.apart ops oj = true) →
      i ∈ Region.ready .any ops l → YieldsIf P ops S2 oi v a → S2 w → wpAnyP P ops Q S1 S2 Y n (l.setIfInBounds i true) (a.put oi.dst v) w → wpAnyP P ops Q S1 S2 Y (n + 1) l a w := by
  intro n
  induction n with
  | zero =>
    intro l a w hc _ hr hy hS H
    refine ⟨fun h => (by rw [h] at hr; cases hr), fun j hj => ?_⟩
    by_cases hji : j = i
    · subst hji; exact hy.wpOp hi hS ⟨by rw [hYi]; rfl, H⟩
    · have h1 := ready_mono hj hji
      rw [H.1] at h1
      cases h1
  | succ n ih =>
    intro l a w hc hfree hr hy hS H
    refine ⟨fun h => (by rw [h] at hr; cases hr), fun j hj => ?_⟩
    by_cases hji : j = i
    · subst hji; exact hy.wpOp hi hS ⟨by rw [hYi]; rfl, H⟩
    · have h1 := H.2 j (ready_mono hj hji)
      obtain ⟨hjun, oj, hoj, hall⟩ := mem_ready.1 hj
      have hnot : ∀ e ∈ oj.after, Region.binds .any e = true → e.on ≠ i := fun e he hb heq => by
        have g1 := hall e he hb
        have g0 := (mem_ready.1 hr).1
        rw [heq, Array.getD_eq_getD_getElem?] at g1
        rw [Array.getD_eq_getD_getElem?] at g0
        cases hl : l[i]? with
        | none => rw [hl] at g1; cases g1
        | some b => rw [hl] at g1 g0; simp only [Option.getD_some] at g1 g0; rw [g1] at g0; cases g0
      have h2 := wpOp_putIf hoj (hfree j oj hoj hji hjun hnot) (fun cs b => Region.noSelect_spec hsel i oi cs b hi) (fun cs b => Region.noSelect_spec hsel j oj cs b hoj) hQ hy h1
      refine wpOp_mono (fun a' w' h3 => ?_) h2
      obtain ⟨h3, h4, h5⟩ := h3
      have h6 : S2 w' := by
        unfold cnd at h4
        split at h4
        · rw [h4]; exact hS
        · split at h4
          · exact h12 _ h4
          · exact h4
      refine ⟨h4, ih _ a' w' (hc.set hj) (fun k ok hk hki hun hno' => hfree k ok hk hki (unset hun).1 hno') (ready_mono hr (Ne.symm hji)) h3 h6 ?_⟩
      rw [Array.setIfInBounds_comm _ _ hji]
      exact h5
def okP (ops : Array Oper) (Y : Nat → Nat) (σ2 : List Sg) : Array Bool → List Sg → Bool
  | l, [] => okS ops l σ2 && (List.range ops.size).all (fun i => l.getD i true || Y i == 2)
  | l, .one (i, true, _) :: r => Y i == 1 && (List.range ops.size).all (fun k => !(Y k == 2) || deps ops 8 k i) && Region.free .any ops l i && (Region.ready .any ops l).contains i && okP ops Y σ2 (l.setIfInBounds i true) r
  | l, .one (i, false, _) :: r => Y i == 1 && (Region.ready .any ops l == [i]) && okP ops Y σ2 (l.setIfInBounds i true) r
  | _, .two _ _ _ _ :: _ => false
def okZ (ops : Array Oper) (Y : Nat → Nat) (σ1 σ2 : List Sg) : Array Bool → List Sg → Bool
  | l, [] => okP ops Y σ2 l σ1
  | l, .one (i, true, _) :: r => Y i == 0 && Region.free .any ops l i && (Region.ready .any ops l).contains i && okZ ops Y σ1 σ2 (l.setIfInBounds i true) r
  | _, _ => false
theorem phase_held {Q1 : Exit → Act → World → Prop} {σ2 : List Sg} (hsel : Region.noSelect ops = true) (hcl : ∀ k, Y k ≠ 0 → Y k ≠ 1 → Y k = 2) (h12 : ∀ w, S1 w → S2 w) (hQ1 : ∀ a w, Q1 .normal a w → Sched P ops Q S2 σ2 a w) :
    ∀ (σ1 : List Sg) (l : Array Bool) (a : Act) (w : World), l.size = ops.size → Clo ops l → okP ops Y σ2 l σ1 = true → S1 w → Sched P ops Q1 S1 σ1 a w → wpAnyP P ops (np Q) S1 S2 Y (cost σ1 + cost σ2) l a w := by
  intro σ1
  induction σ1 with
  | nil =>
    intro l a w hl _ hok hS h
    simp only [okP, Bool.and_eq_true, List.all_eq_true, List.mem_range, Bool.or_eq_true, beq_iff_eq] at hok
    rw [show cost [] + cost σ2 = cost σ2 from Nat.zero_add _]
    refine P_of_H _ _ _ _ (fun i hi => ?_) (sched_held hsel σ2 l a w hok.1 (h12 w hS) (hQ1 a w h))
    by_cases hlt : i < ops.size
    · rcases hok.2 i hlt with h1 | h1
      · rw [hi] at h1; cases h1
      · exact h1
    · rw [Array.getD_eq_getD_getElem?, Array.getElem?_eq_none (by omega)] at hi; cases hi
  | cons x r ih =>
    cases x with
    | two i j N M => intro l a w _ _ hok _ _; simp [okP] at hok
    | one x =>
      obtain ⟨i, b, N⟩ := x
      intro l a w hl hc hok hS h
      rw [show cost (.one (i, b, N) :: r) + cost σ2 = (cost r + cost σ2) + 1 from by simp only [cost]; omega]
      cases b with
      | true =>
        obtain ⟨o, v, ho, rfl, hy, h⟩ := h
        simp only [okP, Bool.and_eq_true, Bool.not_eq_true', List.all_eq_true, List.mem_range, Bool.or_eq_true, List.contains_iff_mem, beq_iff_eq, beq_eq_false_iff_ne] at hok
        obtain ⟨⟨⟨⟨h1, h2⟩, h3⟩, h4⟩, h5⟩ := hok
        exact P_first ho hsel (fun _ _ _ hp => hp) hcl h1 (fun k hk hy => (h2 k hk).resolve_left (fun hn => hn hy)) _ l a w hc (Region.free_spec ho h3) h4 hy hS (ih _ _ _ (by simpa using hl) (hc.set h4) h5 hS h)
      | false =>
        obtain ⟨o, ho, rfl, h⟩ := h
        simp only [okP, Bool.and_eq_true, beq_iff_eq] at hok
        obtain ⟨⟨h1, h2⟩, h3⟩ := hok
        refine ⟨fun h0 => (by rw [h2] at h0; cases h0), fun j hj => ?_⟩
        have hr : i ∈ Region.ready .any ops l := by rw [h2]; simp
        rw [h2] at hj
        simp only [List.mem_singleton] at hj
        subst hj
        have h' := h (fun a' w' => cnd S1 S2 (Y j) w w' ∧ wpAnyP P ops (np Q) S1 S2 Y (cost r + cost σ2) (l.setIfInBounds j true) a' w') (fun a' w' hS' hh => ⟨by rw [h1]; exact hS', ih _ _ _ (by simpa using hl) (hc.set hr) h3 hS' hh⟩)
        unfold wpOp
        simp only [ho]
        split
        · rename_i hw; rw [if_pos hw] at h'; exact .inl (upon_weaken _ h')
        · rename_i hw; rw [if_neg hw] at h'; exact h'
theorem zero_held {Q0 Q1 : Exit → Act → World → Prop} {σ1 σ2 : List Sg} (hsel : Region.noSelect ops = true) (hcl : ∀ k, Y k ≠ 0 → Y k ≠ 1 → Y k = 2) (h12 : ∀ w, S1 w → S2 w) (hQ1 : ∀ a w, Q1 .normal a w → Sched P ops Q S2 σ2 a w) (hQ0 : ∀ a w, Q0 .normal a w → Sched P ops Q1 S1 σ1 a w) :
    ∀ (σ0 : List Sg) (l : Array Bool) (a : Act) (w : World), l.size = ops.size → Clo ops l → okZ ops Y σ1 σ2 l σ0 = true → S1 w → Sched P ops Q0 S2 σ0 a w → wpAnyP P ops (np Q) S1 S2 Y (cost σ0 + (cost σ1 + cost σ2)) l a w := by
  intro σ0
  induction σ0 with
  | nil =>
    intro l a w hl hc hok hS h
    rw [show cost [] + (cost σ1 + cost σ2) = cost σ1 + cost σ2 from Nat.zero_add _]
    exact phase_held hsel hcl h12 hQ1 σ1 l a w hl hc hok hS (hQ0 a w h)
  | cons x r ih =>
    cases x with
    | two i j N M => intro l a w _ _ hok _ _; simp [okZ] at hok
    | one x =>
      obtain ⟨i, b, N⟩ := x
      intro l a w hl hc hok hS h
      rw [show cost (.one (i, b, N) :: r) + (cost σ1 + cost σ2) = (cost r + (cost σ1 + cost σ2)) + 1 from by simp only [cost]; omega]
      cases b with
      | true =>
        obtain ⟨o, v, ho, rfl, hy, h⟩ := h
        simp only [okZ, Bool.and_eq_true, List.contains_iff_mem, beq_iff_eq] at hok
        obtain ⟨⟨⟨h1, h3⟩, h4⟩, h5⟩ := hok
        exact P_zero ho hsel (fun _ _ _ hp => hp) h1 h12 _ l a w hc (Region.free_spec ho h3) h4 hy (h12 w hS) (ih _ _ _ (by simpa using hl) (hc.set h4) h5 hS h)
      | false => simp [okZ] at hok
/-- Behind the first phase. -/
def phL (P : Program) (Q : Exit → Act → World → Prop) (S2 : World → Prop) (L2 : List Itm) : Exit → Act → World → Prop
  | .normal, a, w => SL P Q S2 L2 a w
  | _, _, _ => False
theorem sl_next {L2 : List Itm} {a : Act} {w : World} (h : SL P Q S2 L2 a w) : SL P (phL P Q S2 L2) S1 [] a w := h
def cls (xs ys : List Nat) (i : Nat) : Nat := if ys.contains i then 2 else if xs.contains i then 0 else 1
/-- The beginning: what but reckons ahead of all, the first phase, the second one. -/
theorem wp_region_ph {id : Nat} {a : Act} {w : World} (xs ys : List Nat) (σ0 : List Sg) (L0 : List Itm) (σ1 : List Sg) (L1 : List Itm) (σ2 : List Sg) (L2 : List Itm) (S1 S2 : World → Prop) (hm : P.follows .mixedOrders = true)
    (hok : (Region.noSelect ops && (ops.size == cost σ0 + (cost σ1 + cost σ2)) && okZ ops (cls xs ys) σ1 σ2 (Array.replicate ops.size false) σ0 && dstsOk ops σ0 && dstsOk ops σ1 && dstsOk ops σ2) = true) (hL0 : strips ops σ0 = some L0) (hL1 : strips ops σ1 = some L1) (hL2 : strips ops σ2 = some L2) (hS : S1 w.drew) (h12 : ∀ w, S1 w → S2 w)
    (h : SL P (phL P (phL P Q S2 L2) S1 L1) S2 L0 a w.drew) : (Code.region id ops true).wp P Q a w := by
  simp only [Bool.and_eq_true, beq_iff_eq] at hok
  obtain ⟨⟨⟨⟨⟨h1, h2⟩, h3⟩, h4⟩, h5⟩, h6⟩ := hok
  refine np_mono (wp_region_any hm (wpAny_of_P (S1 := S1) (S2 := S2) (Y := cls xs ys) _ _ _ _ ?_))
  rw [h2]
  exact zero_held h1 (fun k q1 q2 => by unfold cls at q1 q2 ⊢; split; rfl; rename_i q3; rw [if_neg q3] at q1 q2; split at q1 <;> simp_all) h12 (fun a w hh => sl_sched σ2 L2 a w hL2 h6 hh) (fun a w hh => sl_sched σ1 L1 a w hL1 h5 hh) σ0 _ a _ (by simp [h2]) (fun j o hj => by
    rw [Array.getD_eq_getD_getElem?] at hj
    simp [Array.getElem?_replicate] at hj
    split at hj <;> cases hj) (by rw [h2] at h3; exact h3) hS (sl_sched σ0 L0 a _ hL0 h4 h)
end
end Go.Proofs.YticnjkdaccacaaaDoor.Base
