/- Regions that draw their order, by one order that is checked; worlds of which some blocks may have changed; what slices read as. -/
import Derived.WalkKit
import Derived.OrdersHeld
import Derived.Below
import Derived.Deep.OwnRows
namespace Go.Proofs.YticnjkdaccacaaaDoor.Base
open Go Go.RowKit

theorem below_weak {B : Nat} {w1 w2 : World} (h : B ≤ w1.heap.size) (hb : Below w1.heap.size w1 w2) : Below B w1 w2 := ⟨hb.os, hb.tape, hb.output, hb.size, fun i hi => hb.block i (by omega)⟩
/-! ### 1. A region that draws its order: one order of its operations, of which each that only yields may be taken first, and of the others one alone may come up -/
section
variable {P : Program} {ops : Array Oper} {Q : Exit → Act → World → Prop} {S : World → Prop}
/-- All but a panic. -/
def np (Q : Exit → Act → World → Prop) : Exit → Act → World → Prop
  | .panic _, _, _ => False
  | e, a, w => Q e a w
/-- A step of an order: one operation; or two that may come up either way about. -/
inductive Sg where
  | one (x : Nat × Bool × Option Tmp)
  | two (i j : Nat) (N M : Option Tmp)
def cost : List Sg → Nat
  | [] => 0
  | .one _ :: r => cost r + 1
  | .two _ _ _ _ :: r => cost r + 2
def Sched (P : Program) (ops : Array Oper) (Q : Exit → Act → World → Prop) (S : World → Prop) : List Sg → Act → World → Prop
  | [], a, w => Q .normal a w
  | .one (i, true, N) :: r, a, w => ∃ o v, ops[i]? = some o ∧ o.dst = N ∧ YieldsIf P ops S o v a ∧ Sched P ops Q S r (a.put N v) w
  | .one (i, false, N) :: r, a, w => ∃ o, ops[i]? = some o ∧ o.dst = N ∧ ∀ K : Act → World → Prop, (∀ a' w', S w' → Sched P ops Q S r a' w' → K a' w') →
      if Region.wanted o (yielded ops a.tmps) = true then Oper.wp P o a w K (fun _ _ _ => False) else K (a.put N undef) w
  | .two i j N M :: r, a, w => ∃ o p, ops[i]? = some o ∧ ops[j]? = some p ∧ o.dst = N ∧ p.dst = M ∧ (∀ t, Region.wanted o t = true) ∧ (∀ t, Region.wanted p t = true) ∧
      ∀ K : Act → World → Prop, (∀ a' w', S w' → Sched P ops Q S r a' w' → K a' w') →
        Oper.wp P o a w (fun a' w' => S w' ∧ Oper.wp P p a' w' K (fun _ _ _ => False)) (fun _ _ _ => False) ∧ Oper.wp P p a w (fun a' w' => S w' ∧ Oper.wp P o a' w' K (fun _ _ _ => False)) (fun _ _ _ => False)
def okS (ops : Array Oper) : Array Bool → List Sg → Bool
  | l, [] => Region.ready .any ops l == []
  | l, .one (i, true, _) :: r => Region.free .any ops l i && (Region.ready .any ops l).contains i && okS ops (l.setIfInBounds i true) r
  | l, .one (i, false, _) :: r => (Region.ready .any ops l == [i]) && okS ops (l.setIfInBounds i true) r
  | l, .two i j _ _ :: r => i != j && (Region.ready .any ops l == [i, j]) && (Region.ready .any ops (l.setIfInBounds i true) == [j]) && (Region.ready .any ops (l.setIfInBounds j true) == [i]) && okS ops ((l.setIfInBounds i true).setIfInBounds j true) r
theorem upon_weaken {o : Oper} {a : Act} {w : World} {K : Act → World → Prop} (Q : Exit → Act → World → Prop) (h : Oper.wp P o a w K (fun _ _ _ => False)) : Oper.wp P o a w K Q := by
  unfold Oper.wp at *
  generalize (execOp a.eval o).run P w = r at *
  cases r with
  | ok n w' =>
    cases n <;> simp only [Oper.upon] at h ⊢ <;> try exact h
    case enter f args =>
      refine h.mono fun e w'' hh => ?_
      cases e with
      | returned v => exact hh
      | panicked c => exact hh.elim
      | outgrown => obtain ⟨_, _, x⟩ := hh; exact x.elim
  | halt x w' =>
    cases x <;> simp only [Oper.upon] at h ⊢
theorem upon_mono {o : Oper} {a : Act} {w : World} {K K' : Act → World → Prop} {Q : Exit → Act → World → Prop} (hK : ∀ a' w', K a' w' → K' a' w') (h : Oper.wp P o a w K (fun _ _ _ => False)) : Oper.wp P o a w K' Q := by
  have h := upon_weaken Q h
  unfold Oper.wp at *
  generalize (execOp a.eval o).run P w = r at *
  cases r with
  | ok n w' =>
    cases n <;> simp only [Oper.upon] at h ⊢ <;> first | exact hK _ _ h | exact h | skip
    case enter f args =>
      refine h.mono fun e w'' hh => ?_
      cases e with
      | returned v => exact hK _ _ hh
      | panicked c => exact hh
      | outgrown => exact hh
    case row row args => exact Rows.mono h fun u w'' he => hK _ _ he
  | halt x w' =>
    cases x <;> simp only [Oper.upon] at h ⊢ <;> exact h
theorem wpOp_of {i : Nat} {o : Oper} {K : Act → World → Prop} {a : Act} {w : World} (ho : ops[i]? = some o) (hw : ∀ t, Region.wanted o t = true) (h : Oper.wp P o a w K (fun _ _ _ => False)) : wpOp P ops Q i K a w := by
  unfold wpOp
  simp only [ho]
  rw [if_pos (hw _)]
  exact .inl (upon_weaken _ h)
theorem sched_held (hsel : Region.noSelect ops = true) : ∀ (σ : List Sg) (l : Array Bool) (a : Act) (w : World), okS ops l σ = true → S w → Sched P ops Q S σ a w →
    wpAnyH P .any ops (np Q) S (cost σ) l a w := by
  intro σ
  induction σ with
  | nil => intro l a w hok _ h; exact ⟨by simpa [okS] using hok, h⟩
  | cons x r ih =>
    cases x with
    | one x =>
      obtain ⟨i, b, N⟩ := x
      intro l a w hok hS h
      cases b with
      | true =>
        obtain ⟨o, v, ho, rfl, hy, h⟩ := h
        simp only [okS, Bool.and_eq_true] at hok
        exact wpAnyH_take ho hsel hok.1.1 hok.1.2 (fun _ _ _ hp => hp) hy hS (ih _ _ _ hok.2 hS h)
      | false =>
        obtain ⟨o, ho, rfl, h⟩ := h
        simp only [okS, Bool.and_eq_true, beq_iff_eq] at hok
        refine wpAnyH_all hok.1 (by simp) ?_
        intro j hj
        simp only [List.mem_singleton] at hj
        subst hj
        have h' := h (fun a' w' => S w' ∧ wpAnyH P .any ops (np Q) S (cost r) (l.setIfInBounds j true) a' w') (fun a' w' hS' hh => ⟨hS', ih _ _ _ hok.2 hS' hh⟩)
        unfold wpOp
        simp only [ho]
        split
        · rename_i hw; rw [if_pos hw] at h'; exact .inl (upon_weaken _ h')
        · rename_i hw; rw [if_neg hw] at h'; exact h'
    | two i j N M =>
      intro l a w hok hS h
      obtain ⟨o, p, ho, hp, rfl, rfl, wo, wp, h⟩ := h
      simp only [okS, Bool.and_eq_true, beq_iff_eq, bne_iff_ne] at hok
      obtain ⟨⟨⟨⟨hne, h1⟩, h2⟩, h3⟩, h4⟩ := hok
      obtain ⟨hA, hB⟩ := h (fun a' w' => S w' ∧ wpAnyH P .any ops (np Q) S (cost r) ((l.setIfInBounds i true).setIfInBounds j true) a' w') (fun a' w' hS' hh => ⟨hS', ih _ _ _ h4 hS' hh⟩)
      show wpAnyH P .any ops (np Q) S (cost r + 1 + 1) l a w
      refine wpAnyH_all h1 (by simp) ?_
      intro k hk
      simp only [List.mem_cons, List.not_mem_nil, or_false] at hk
      rcases hk with rfl | rfl
      · refine wpOp_of ho wo (upon_mono (fun a' w' ⟨hs, hh⟩ => ⟨hs, wpAnyH_all h2 (by simp) fun m hm => ?_⟩) hA)
        simp only [List.mem_singleton] at hm
        subst hm
        exact wpOp_of hp wp hh
      · refine wpOp_of hp wp (upon_mono (fun a' w' ⟨hs, hh⟩ => ⟨hs, wpAnyH_all h3 (by simp) fun m hm => ?_⟩) hB)
        simp only [List.mem_singleton] at hm
        subst hm
        rw [Array.setIfInBounds_comm _ _ (Ne.symm hne)]
        exact wpOp_of ho wo hh
theorem np_mono {c : Code} {a : Act} {w : World} (h : c.wp P (np Q) a w) : c.wp P Q a w :=
  Code.wp_mono (fun e a w q => by cases e <;> first | exact q | exact q.elim) h
/-- The beginning. -/
theorem wp_region_sched {id : Nat} {a : Act} {w : World} (σ : List Sg) (S : World → Prop) (hm : P.follows .mixedOrders = true)
    (hok : (Region.noSelect ops && (ops.size == cost σ) && okS ops (Array.replicate ops.size false) σ) = true) (hS : S w.drew) (h : Sched P ops Q S σ a w.drew) : (Code.region id ops true).wp P Q a w := by
  simp only [Bool.and_eq_true, beq_iff_eq] at hok
  obtain ⟨⟨h1, h2⟩, h3⟩ := hok
  refine np_mono (wp_region_held (S := S) hm ?_)
  rw [h2] at h3 ⊢
  exact sched_held h1 σ _ a _ h3 hS h
/-- An operation without what the order alone asks of it. -/
structure SOp where
  q : Bool
  dst : Option Tmp
  op : Op
  type : TypeId
  g : Option (Tmp × Bool)
def SOp.oper (s : SOp) : Oper := { dst := s.dst, op := s.op, type := s.type, pos := "", after := #[], guard := none }
def SOp.wanted (s : SOp) (tmps : Array Value) : Bool :=
  match s.g with
  | none => true
  | some (t, want) => match tmps.getD t undef with
    | .bool b => b == want
    | _ => false
def strip (ops : Array Oper) (x : Nat × Bool × Option Tmp) : Option SOp :=
  (ops[x.1]?).bind fun o => match o.guard with
    | none => some ⟨x.2.1, x.2.2, o.op, o.type, none⟩
    | some (j, want) => ((ops[j]?).bind (·.dst)).map fun t => ⟨x.2.1, x.2.2, o.op, o.type, some (t, want)⟩
inductive Itm where
  | one (s : SOp)
  | two (s t : SOp)
def strips (ops : Array Oper) : List Sg → Option (List Itm)
  | [] => some []
  | .one x :: r => (strip ops x).bind fun s => (strips ops r).map (.one s :: ·)
  | .two i j N M :: r => (strip ops (i, false, N)).bind fun s => (strip ops (j, false, M)).bind fun t => if s.g.isNone && t.g.isNone then (strips ops r).map (.two s t :: ·) else none
def dstsOk (ops : Array Oper) (σ : List Sg) : Bool := σ.all fun x => match x with
  | .one x => (ops[x.1]?).map (·.dst) == some x.2.2
  | .two i j N M => (ops[i]?).map (·.dst) == some N && (ops[j]?).map (·.dst) == some M
def SL (P : Program) (Q : Exit → Act → World → Prop) (S : World → Prop) : List Itm → Act → World → Prop
  | [], a, w => Q .normal a w
  | .one s :: r, a, w => (s.wanted a.tmps = false ∧ (s.q = true ∨ S w) ∧ SL P Q S r (a.put s.dst undef) w) ∨
      (s.wanted a.tmps = true ∧ s.q = true ∧ ∃ v, (∀ w', S w' → (execOp a.eval s.oper).run P w' = .ok (.value v) w') ∧ SL P Q S r (a.put s.dst v) w) ∨
      (s.wanted a.tmps = true ∧ s.q = false ∧ ∀ K : Act → World → Prop, (∀ a' w', S w' → SL P Q S r a' w' → K a' w') → Oper.wp P s.oper a w K (fun _ _ _ => False))
  | .two s t :: r, a, w => ∀ K : Act → World → Prop, (∀ a' w', S w' → SL P Q S r a' w' → K a' w') →
      Oper.wp P s.oper a w (fun a' w' => S w' ∧ Oper.wp P t.oper a' w' K (fun _ _ _ => False)) (fun _ _ _ => False) ∧ Oper.wp P t.oper a w (fun a' w' => S w' ∧ Oper.wp P s.oper a' w' K (fun _ _ _ => False)) (fun _ _ _ => False)
theorem strip_wanted {x : Nat × Bool × Option Tmp} {s : SOp} {o : Oper} (ho : ops[x.1]? = some o) (h : strip ops x = some s) (tmps : Array Value) :
    Region.wanted o (yielded ops tmps) = s.wanted tmps ∧ s.q = x.2.1 ∧ s.dst = x.2.2 ∧ s.op = o.op ∧ s.type = o.type := by
  unfold strip at h
  rw [ho] at h
  simp only [Option.bind_some] at h
  cases hg : o.guard with
  | none => rw [hg] at h; simp only [Option.some.injEq] at h; subst h; exact ⟨by simp [Region.wanted, hg, SOp.wanted], rfl, rfl, rfl, rfl⟩
  | some g =>
    obtain ⟨j, want⟩ := g
    rw [hg] at h
    simp only [Option.map_eq_some_iff] at h
    obtain ⟨t, ht, rfl⟩ := h
    refine ⟨?_, rfl, rfl, rfl, rfl⟩
    simp only [Region.wanted, hg, SOp.wanted, yielded, ht, Option.bind_some]
    rw [Array.getD_eq_getD_getElem?]
    cases hv : tmps[t]? with
    | none => rfl
    | some v => cases v <;> simp
theorem oper_same {o : Oper} {s : SOp} {a : Act} {w : World} {K : Act → World → Prop} (hop : s.op = o.op) (hty : s.type = o.type) (hd : s.dst = o.dst) (h : Oper.wp P s.oper a w K (fun _ _ _ => False)) : Oper.wp P o a w K (fun _ _ _ => False) := by
  have hex : execOp a.eval o = execOp a.eval s.oper := by unfold execOp SOp.oper; simp only [hop, hty]
  have e : o.upon P a K (fun _ _ _ => False) = s.oper.upon P a K (fun _ _ _ => False) := by
    funext r
    have ed : s.oper.dst = o.dst := hd
    cases r with
    | ok n w' => cases n <;> simp only [Oper.upon, ed]
    | halt x w' => cases x <;> simp only [Oper.upon]
  unfold Oper.wp at h ⊢
  rw [hex, e]
  exact h
theorem sl_sched : ∀ (σ : List Sg) (L : List Itm) (a : Act) (w : World), strips ops σ = some L → dstsOk ops σ = true → SL P Q S L a w → Sched P ops Q S σ a w := by
  intro σ
  induction σ with
  | nil => intro L a w hL _ h; simp only [strips, Option.some.injEq] at hL; subst hL; exact h
  | cons x r ih =>
    cases x with
    | one x =>
      intro L a w hL hd h
      simp only [strips, Option.bind_eq_some_iff, Option.map_eq_some_iff] at hL
      obtain ⟨s, hs, L', hL', rfl⟩ := hL
      have hx : ((ops[x.1]?).map (·.dst) == some x.2.2) = true ∧ dstsOk ops r = true := by simpa [dstsOk] using hd
      obtain ⟨hx, hr⟩ := hx
      cases ho : ops[x.1]? with
      | none => rw [ho] at hx; simp at hx
      | some o =>
        rw [ho] at hx
        have hdst : o.dst = x.2.2 := by simpa using hx
        obtain ⟨i, b, N⟩ := x
        obtain ⟨hw, hq, hsd, hop, hty⟩ := strip_wanted ho hs a.tmps
        have hdst' : o.dst = N := hdst
        have hsd' : s.dst = N := hsd
        have hq' : s.q = b := hq
        have hex : execOp a.eval o = execOp a.eval s.oper := by unfold execOp SOp.oper; simp only [hop, hty]
        cases b with
        | true =>
          rcases h with ⟨h1, _, h2⟩ | ⟨h1, _, v, hv, h2⟩ | ⟨_, h2, _⟩
          · exact ⟨o, undef, ho, hdst', .inr ⟨hw.trans h1, rfl⟩, by rw [← hsd']; exact ih _ _ _ hL' hr h2⟩
          · exact ⟨o, v, ho, hdst', .inl ⟨hw.trans h1, fun w' hS' => by rw [hex]; exact hv w' hS'⟩, by rw [← hsd']; exact ih _ _ _ hL' hr h2⟩
          · rw [hq'] at h2; cases h2
        | false =>
          refine ⟨o, ho, hdst', fun K hK => ?_⟩
          rcases h with ⟨h1, h3, h2⟩ | ⟨_, h2, _⟩ | ⟨h1, _, h2⟩
          · rw [if_neg (by rw [hw, h1]; exact Bool.false_ne_true)]
            rcases h3 with h3 | h3
            · rw [hq'] at h3; cases h3
            · exact hK _ _ h3 (by rw [← hsd']; exact ih _ _ _ hL' hr h2)
          · rw [hq'] at h2; cases h2
          · rw [if_pos (by rw [hw, h1])]
            exact oper_same hop hty (hsd'.trans hdst'.symm) (h2 K (fun a' w' hS' hh => hK a' w' hS' (ih _ _ _ hL' hr hh)))
    | two i j N M =>
      intro L a w hL hd h
      simp only [strips, Option.bind_eq_some_iff] at hL
      obtain ⟨s, hs, t, ht, hL⟩ := hL
      split at hL
      case isFalse => cases hL
      rename_i hg
      rw [Option.map_eq_some_iff] at hL
      obtain ⟨L', hL', rfl⟩ := hL
      simp only [Bool.and_eq_true, Option.isNone_iff_eq_none] at hg
      have hx : (((ops[i]?).map (·.dst) == some N) = true ∧ ((ops[j]?).map (·.dst) == some M) = true) ∧ dstsOk ops r = true := by simpa [dstsOk] using hd
      obtain ⟨⟨hx, hy⟩, hr⟩ := hx
      cases ho : ops[i]? with
      | none => rw [ho] at hx; simp at hx
      | some o =>
      cases hp : ops[j]? with
      | none => rw [hp] at hy; simp at hy
      | some p =>
        rw [ho] at hx
        rw [hp] at hy
        have hd1 : o.dst = N := by simpa using hx
        have hd2 : p.dst = M := by simpa using hy
        obtain ⟨_, _, hsd, hop, hty⟩ := strip_wanted (x := (i, false, N)) ho hs a.tmps
        obtain ⟨_, _, hsd2, hop2, hty2⟩ := strip_wanted (x := (j, false, M)) hp ht a.tmps
        have w1 : ∀ tt, Region.wanted o tt = true := by
          intro tt
          have hgo : o.guard = none := by
            unfold strip at hs
            rw [ho] at hs
            simp only [Option.bind_some] at hs
            cases hgg : o.guard with
            | none => rfl
            | some g =>
              rw [hgg] at hs
              simp only [Option.map_eq_some_iff] at hs
              obtain ⟨t', _, rfl⟩ := hs
              exact absurd hg.1 (by simp)
          simp [Region.wanted, hgo]
        have w2 : ∀ tt, Region.wanted p tt = true := by
          intro tt
          have hgo : p.guard = none := by
            unfold strip at ht
            rw [hp] at ht
            simp only [Option.bind_some] at ht
            cases hgg : p.guard with
            | none => rfl
            | some g =>
              rw [hgg] at ht
              simp only [Option.map_eq_some_iff] at ht
              obtain ⟨t', _, rfl⟩ := ht
              exact absurd hg.2 (by simp)
          simp [Region.wanted, hgo]
        refine ⟨o, p, ho, hp, hd1, hd2, w1, w2, fun K hK => ?_⟩
        obtain ⟨hA, hB⟩ := h K (fun a' w' hS' hh => hK a' w' hS' (ih _ _ _ hL' hr hh))
        exact ⟨oper_same hop hty (hsd.trans hd1.symm) (upon_mono (fun a' w' ⟨h1, h2⟩ => ⟨h1, oper_same hop2 hty2 (hsd2.trans hd2.symm) h2⟩) hA),
          oper_same hop2 hty2 (hsd2.trans hd2.symm) (upon_mono (fun a' w' ⟨h1, h2⟩ => ⟨h1, oper_same hop hty (hsd.trans hd1.symm) h2⟩) hB)⟩
/-- The beginning, the operations written out. -/
theorem wp_region_sl {id : Nat} {a : Act} {w : World} (σ : List Sg) (L : List Itm) (S : World → Prop) (hm : P.follows .mixedOrders = true)
    (hok : (Region.noSelect ops && (ops.size == cost σ) && okS ops (Array.replicate ops.size false) σ && dstsOk ops σ) = true) (hL : strips ops σ = some L) (hS : S w.drew) (h : SL P Q S L a w.drew) : (Code.region id ops true).wp P Q a w := by
  simp only [Bool.and_eq_true] at hok
  exact wp_region_sched σ S hm (by simp only [Bool.and_eq_true]; exact hok.1) hS (sl_sched σ L a _ hL hok.2 h)
section
variable {N : Option Tmp} {op : Op} {ty : TypeId} {r : List Itm} {a a' : Act} {w w' : World} {v : Value} {q : Bool}
/-- An operation that yields. -/
theorem sq (hv : ∀ w', S w' → (execOp a.eval ⟨N, op, ty, "", #[], none⟩).run P w' = .ok (.value v) w') (ha : a.put N v = a') (h : SL P Q S r a' w) : SL P Q S (.one ⟨true, N, op, ty, none⟩ :: r) a w :=
  .inr (.inl ⟨rfl, rfl, v, hv, by subst ha; exact h⟩)
theorem sqg {t : Tmp} {b : Bool} (hw : (a.tmps.getD t undef) = .bool b) (hv : ∀ w', S w' → (execOp a.eval ⟨N, op, ty, "", #[], none⟩).run P w' = .ok (.value v) w') (ha : a.put N v = a') (h : SL P Q S r a' w) : SL P Q S (.one ⟨true, N, op, ty, some (t, b)⟩ :: r) a w :=
  .inr (.inl ⟨by simp only [SOp.wanted, hw]; simp, rfl, v, hv, by subst ha; exact h⟩)
/-- One that its guard shuts out. -/
theorem sn {t : Tmp} {b : Bool} (hw : (a.tmps.getD t undef) = .bool (!b)) (ha : a.put N undef = a') (h : SL P Q S r a' w) : SL P Q S (.one ⟨true, N, op, ty, some (t, b)⟩ :: r) a w :=
  .inl ⟨by simp only [SOp.wanted, hw]; cases b <;> rfl, .inl rfl, by subst ha; exact h⟩
theorem sf {t : Tmp} {b : Bool} (hS : S w) (hw : (a.tmps.getD t undef) = .bool (!b)) (ha : a.put N undef = a') (h : SL P Q S r a' w) : SL P Q S (.one ⟨false, N, op, ty, some (t, b)⟩ :: r) a w :=
  .inl ⟨by simp only [SOp.wanted, hw]; cases b <;> rfl, .inr hS, by subst ha; exact h⟩
/-- One that writes, makes or calls. -/
theorem se (h : ∀ K : Act → World → Prop, (∀ a' w', S w' → SL P Q S r a' w' → K a' w') → Oper.wp P ⟨N, op, ty, "", #[], none⟩ a w K (fun _ _ _ => False)) : SL P Q S (.one ⟨false, N, op, ty, none⟩ :: r) a w :=
  .inr (.inr ⟨rfl, rfl, h⟩)
theorem seg {t : Tmp} {b : Bool} (hw : (a.tmps.getD t undef) = .bool b) (h : ∀ K : Act → World → Prop, (∀ a' w', S w' → SL P Q S r a' w' → K a' w') → Oper.wp P ⟨N, op, ty, "", #[], none⟩ a w K (fun _ _ _ => False)) : SL P Q S (.one ⟨false, N, op, ty, some (t, b)⟩ :: r) a w :=
  .inr (.inr ⟨by simp only [SOp.wanted, hw]; simp, rfl, h⟩)
/-- The same; the temporaries come in as they then stand. -/
theorem se' (h : ∀ K : Act → World → Prop, (∀ a' w', S w' → (∀ a'', a' = a'' → SL P Q S r a'' w') → K a' w') → Oper.wp P ⟨N, op, ty, "", #[], none⟩ a w K (fun _ _ _ => False)) : SL P Q S (.one ⟨false, N, op, ty, none⟩ :: r) a w :=
  se fun K hK => h K fun a' w' hS hh => hK a' w' hS (hh a' rfl)
theorem call_wp {f : FuncId} {args : Array Value} {K : Act → World → Prop} (hrun : (execOp a.eval ⟨N, op, ty, "", #[], none⟩).run P w = .ok (.enter f args) w) (h : Calls P f args w fun e w' => ∃ v, e = .returned v ∧ K (a.put N v) w') :
    Oper.wp P ⟨N, op, ty, "", #[], none⟩ a w K (fun _ _ _ => False) := by
  unfold Oper.wp
  rw [hrun, Oper.upon_enter]
  refine h.mono fun e w'' hh => ?_
  obtain ⟨v, rfl, hk⟩ := hh
  exact hk
/-- A call of a Go function, by its contract: what it hands back, and in which world, comes in. -/
theorem sc (f : FuncId) (args : Array Value) (hrun : (execOp a.eval ⟨N, op, ty, "", #[], none⟩).run P w = .ok (.enter f args) w)
    (h : Calls P f args w fun e w' => ∃ v, e = .returned v ∧ S w' ∧ ∀ a', a.put N v = a' → SL P Q S r a' w') : SL P Q S (.one ⟨false, N, op, ty, none⟩ :: r) a w :=
  se fun K hK => call_wp hrun (h.mono fun e w' ⟨v, he, hS, hk⟩ => ⟨v, he, hK _ _ hS (hk _ rfl)⟩)
theorem scg {t : Tmp} {b : Bool} (f : FuncId) (args : Array Value) (hw : (a.tmps.getD t undef) = .bool b) (hrun : (execOp a.eval ⟨N, op, ty, "", #[], none⟩).run P w = .ok (.enter f args) w)
    (h : Calls P f args w fun e w' => ∃ v, e = .returned v ∧ S w' ∧ ∀ a', a.put N v = a' → SL P Q S r a' w') : SL P Q S (.one ⟨false, N, op, ty, some (t, b)⟩ :: r) a w :=
  seg hw fun K hK => call_wp hrun (h.mono fun e w' ⟨v, he, hS, hk⟩ => ⟨v, he, hK _ _ hS (hk _ rfl)⟩)
/-- An operation that yields a value and leaves another world. -/
theorem sv (hrun : (execOp a.eval ⟨N, op, ty, "", #[], none⟩).run P w = .ok (.value v) w') (hS : S w') (ha : a.put N v = a') (h : SL P Q S r a' w') : SL P Q S (.one ⟨false, N, op, ty, none⟩ :: r) a w :=
  se fun K hK => by
    unfold Oper.wp
    rw [hrun, Oper.upon_value, ha]
    exact hK _ _ hS h
theorem svg {t : Tmp} {b : Bool} (hw : (a.tmps.getD t undef) = .bool b) (hrun : (execOp a.eval ⟨N, op, ty, "", #[], none⟩).run P w = .ok (.value v) w') (hS : S w') (ha : a.put N v = a') (h : SL P Q S r a' w') : SL P Q S (.one ⟨false, N, op, ty, some (t, b)⟩ :: r) a w :=
  seg hw fun K hK => by
    unfold Oper.wp
    rw [hrun, Oper.upon_value, ha]
    exact hK _ _ hS h
/-- Two that may come up either way about. -/
theorem s2 {s t : SOp} (h : ∀ K : Act → World → Prop, (∀ a' w', S w' → (∀ a'', a' = a'' → SL P Q S r a'' w') → K a' w') →
    Oper.wp P s.oper a w (fun a' w' => S w' ∧ Oper.wp P t.oper a' w' K (fun _ _ _ => False)) (fun _ _ _ => False) ∧ Oper.wp P t.oper a w (fun a' w' => S w' ∧ Oper.wp P s.oper a' w' K (fun _ _ _ => False)) (fun _ _ _ => False)) : SL P Q S (.two s t :: r) a w :=
  fun K hK => h K fun a' w' hS hh => hK a' w' hS (hh a' rfl)
/-- The same, where both ways come to one state. -/
theorem s2t {s t : SOp} (a1 : Act) (w1 : World) (ht : SL P Q S r a1 w1) (hS : S w1) (h : ∀ K : Act → World → Prop, K a1 w1 →
    Oper.wp P s.oper a w (fun a' w' => S w' ∧ Oper.wp P t.oper a' w' K (fun _ _ _ => False)) (fun _ _ _ => False) ∧ Oper.wp P t.oper a w (fun a' w' => S w' ∧ Oper.wp P s.oper a' w' K (fun _ _ _ => False)) (fun _ _ _ => False)) : SL P Q S (.two s t :: r) a w :=
  fun K hK => h K (hK a1 w1 hS ht)
theorem wp_value {o : Oper} {K : Act → World → Prop} {Q' : Exit → Act → World → Prop} (h : (execOp a.eval o).run P w = .ok (.value v) w') (hK : K (a.put o.dst v) w') : Oper.wp P o a w K Q' := by
  unfold Oper.wp
  rw [h, Oper.upon_value]
  exact hK
/-- Two that yield values; the first one only reads. -/
theorem s2lv {s t : SOp} {u : Value} {a1 : Act} (h1 : (execOp a.eval s.oper).run P w = .ok (.value v) w) (h2 : (execOp (a.put s.dst v).eval t.oper).run P w = .ok (.value u) w') (h3 : (execOp a.eval t.oper).run P w = .ok (.value u) w')
    (h4 : (execOp (a.put t.dst u).eval s.oper).run P w' = .ok (.value v) w') (hS : S w) (hS' : S w') (e1 : (a.put s.dst v).put t.dst u = a1) (e2 : (a.put t.dst u).put s.dst v = a1) (ht : SL P Q S r a1 w') : SL P Q S (.two s t :: r) a w :=
  fun K hK => ⟨wp_value h1 ⟨hS, wp_value h2 (by show K ((a.put s.dst v).put t.dst u) w'; rw [e1]; exact hK _ _ hS' ht)⟩, wp_value h3 ⟨hS', wp_value h4 (by show K ((a.put t.dst u).put s.dst v) w'; rw [e2]; exact hK _ _ hS' ht)⟩⟩
theorem sl_end (h : Q .normal a w) : SL P Q S [] a w := h
end
end

/-! ### 2. A slice of whole numbers that is read -/
/-- What a slice of numbers of one kind reads as. -/
def Rd (k : IntKind) (w : World) (A : Option Addr) (l : List Int) : Prop :=
  l ≠ [] → ∃ ad, A = some ad ∧ ad.block < w.heap.size ∧ ∀ j, j < l.length → w.cell? (ad.add j) = some (.int k (l.getD j 0))
theorem add_block (ad : Addr) (n : Nat) : (ad.add n).block = ad.block := by rw [Addr.add]; split <;> rfl
theorem add_add (ad : Addr) (a b : Nat) : (ad.add a).add b = ad.add (a + b) := by
  unfold Addr.add
  by_cases h1 : a = 0
  · subst h1; simp
  · by_cases h2 : b = 0
    · subst h2; simp [h1]
    · rw [if_neg h1, if_neg h2, if_neg (by omega)]; simp [Nat.add_assoc]
theorem add_zero (ad : Addr) : ad.add 0 = ad := by simp [Addr.add]
section
variable {k : IntKind} {w w1 : World} {A : Option Addr} {l : List Int}
theorem Rd.below (h : Rd k w A l) (hb : Below w.heap.size w w1) : Rd k w1 A l := fun hne => by
  obtain ⟨ad, e, h1, h2⟩ := h hne
  exact ⟨ad, e, Nat.lt_of_lt_of_le h1 hb.size, fun j hj => by rw [hb.cell (p := ad.add j) (by rw [add_block]; exact h1)]; exact h2 j hj⟩
theorem Rd.mem {B : Nat} (h : Rd k w A l) (hB : ∀ ad, A = some ad → ad.block < B) (hb : Below B w w1) : Rd k w1 A l := fun hne => by
  obtain ⟨ad, e, h1, h2⟩ := h hne
  exact ⟨ad, e, Nat.lt_of_lt_of_le h1 hb.size, fun j hj => by rw [hb.cell (p := ad.add j) (by rw [add_block]; exact hB ad e)]; exact h2 j hj⟩
theorem Rd.nil : Rd k w A [] := fun h => absurd rfl h
theorem Rd.empty (h : Rd k w A l) (e : A = none) : l = [] := by
  rcases List.eq_nil_or_concat l with hl | ⟨_, _, hl⟩
  · exact hl
  · obtain ⟨ad, e', _⟩ := h (by rw [hl]; simp)
    rw [e] at e'; cases e'
theorem Rd.cell (h : Rd k w A l) {j : Nat} (hj : j < l.length) : ∃ ad, A = some ad ∧ ad.block < w.heap.size ∧ w.cell? (ad.add j) = some (.int k (l.getD j 0)) := by
  obtain ⟨ad, e, h1, h2⟩ := h (by intro e; rw [e] at hj; exact absurd hj (Nat.not_lt_zero _))
  exact ⟨ad, e, h1, h2 j hj⟩
theorem Rd.take (h : Rd k w A l) (n : Nat) : Rd k w A (l.take n) := fun hne => by
  obtain ⟨ad, e, h1, h2⟩ := h (by rintro rfl; simp at hne)
  refine ⟨ad, e, h1, fun j hj => ?_⟩
  rw [List.length_take] at hj
  rw [h2 j (by omega), List.getD_eq_getElem?_getD, List.getD_eq_getElem?_getD, List.getElem?_take, if_pos (by omega)]
/-- The address of what stands behind the first j. -/
def dropA (A : Option Addr) (c j : Nat) : Option Addr := if c = j then A else A.map (·.add (j * 1))
theorem Rd.drop (h : Rd k w A l) {n c : Nat} (hc : l.length ≤ c) : Rd k w (dropA A c n) (l.drop n) := fun hne => by
  have hlt : n < l.length := by
    rcases Nat.lt_or_ge n l.length with h | h
    · exact h
    · exact absurd (List.drop_eq_nil_of_le h) hne
  obtain ⟨ad, rfl, h1, h2⟩ := h (by rintro rfl; simp at hne)
  refine ⟨ad.add n, ?_, by rw [add_block]; exact h1, fun j hj => ?_⟩
  · unfold dropA; rw [if_neg (by omega)]; simp
  · rw [List.length_drop] at hj
    rw [add_add, h2 _ (by omega), List.getD_eq_getElem?_getD, List.getD_eq_getElem?_getD, List.getElem?_drop]
theorem dropA_block {c j B : Nat} (h : ∀ ad, A = some ad → ad.block < B) : ∀ ad, dropA A c j = some ad → ad.block < B := by
  intro ad e
  unfold dropA at e
  split at e
  · exact h ad e
  · cases A with
    | none => simp at e
    | some a => simp at e; subst e; rw [add_block]; exact h a rfl
/-- A block of the call's own, read from its head on. -/
theorem Rd.block {g : Nat} {cs : Array Value} {t : TypeId} {fr : Nat × Nat} (hg : w.heap[g]? = some (.cells cs t fr)) (hc : ∀ j, j < l.length → cs[j]? = some (.int k (l.getD j 0))) : Rd k w (some ⟨g, 0, none⟩) l := fun _ =>
  ⟨_, rfl, (Array.getElem?_eq_some_iff.1 hg).1, fun j hj => by
    have ha : (⟨g, 0, none⟩ : Addr).add j = ⟨g, j, none⟩ := by unfold Addr.add; split <;> simp_all
    rw [ha, cell_of_row _ _ _ _ _ _ hg]; exact hc j hj⟩
end
section
variable {P : Program}
theorem madeCells_one (z : Value) (n : Nat) : madeCells #[z] n = Array.replicate n z := by
  apply Array.ext
  · simp [madeCells]
  · intro i h1 h2
    simp [madeCells, Nat.mod_one]
theorem mk_run (t e : TypeId) (z : Value) (bytes : Nat) (ht : P.underlying t = some (.slice e)) (hinfo : (P.info? e).map (fun i => (i.zero, i.size, i.bytes)) = some (some z, 1, bytes)) (hz1 : z.cells = #[z])
    (kl kc : IntKind) (n : Nat) (hbytes : bytes * n ≤ 281474976710656) (h63 : n ≤ 9223372036854775807) (w : World) :
    (Instr.makeSlice t (.int kl (n : Int)) (.int kc (n : Int))).run P w = .ok (.slice (some ⟨w.heap.size, 0, none⟩) n n) (w.alloc (.cells (Array.replicate n z) e)) := by
  rw [run_make_row' t e z bytes ht hinfo hz1 kl kc n hbytes h63 w, madeCells_one]
theorem sl_take (t e : TypeId) (kl : IntKind) (ht : P.underlying t = some (.slice e)) (hi : (P.info? e).map (·.size) = some 1) (A : Option Addr) (n c k : Nat) (hk : k ≤ c) :
    ∀ W : World, (Instr.slice t (.slice A n c) none (some (.int kl k)) none).run P W = .ok (.slice A k c) W := by
  intro W
  cases hq : P.info? e with
  | none => simp [hq] at hi
  | some i =>
    have hs : i.size = 1 := by simpa [hq] using hi
    have ha : (A.map fun x => x.add 0) = A := by cases A <;> simp [Addr.add]
    simp only [Instr.slice, Sem.run_bind, run_underlying ht, Result.andThen_ok, Instr.sliceBounds, Instr.sliceBound, asIntOf, Sem.run_pure, Option.isSome]
    rw [if_pos ⟨by omega, by omega⟩]
    simp [sizeOf, typeInfo, hq, hs, ha]
theorem sl_drop (t e : TypeId) (kl : IntKind) (ht : P.underlying t = some (.slice e)) (hi : (P.info? e).map (·.size) = some 1) (A : Option Addr) (n c k : Nat) (hk : k ≤ n) :
    ∀ W : World, (Instr.slice t (.slice A n c) (some (.int kl k)) none none).run P W = .ok (.slice (dropA A c k) (n - k) (c - k)) W := by
  intro W
  cases hq : P.info? e with
  | none => simp [hq] at hi
  | some i =>
    have hs : i.size = 1 := by simpa [hq] using hi
    simp only [Instr.slice, Sem.run_bind, run_underlying ht, Result.andThen_ok, Instr.sliceBounds, Instr.sliceBound, asIntOf, Sem.run_pure, Option.isSome]
    rw [if_pos ⟨by omega, by omega⟩]
    simp [sizeOf, typeInfo, hq, hs, dropA]
theorem sl_cut (t e : TypeId) (kl kh km : IntKind) (ht : P.underlying t = some (.slice e)) (hi : (P.info? e).map (·.size) = some 1) (A : Option Addr) (n c l h m : Nat) (xl xh xm : Int) (el : xl = l) (eh : xh = h) (em : xm = m) (h1 : l ≤ h) (h2 : h ≤ m) (h3 : m ≤ c) :
    ∀ W : World, (Instr.slice t (.slice A n c) (some (.int kl xl)) (some (.int kh xh)) (some (.int km xm))).run P W = .ok (.slice (dropA A m l) (h - l) (m - l)) W := by
  intro W
  subst el eh em
  cases hq : P.info? e with
  | none => simp [hq] at hi
  | some i =>
    have hs : i.size = 1 := by simpa [hq] using hi
    simp only [Instr.slice, Sem.run_bind, run_underlying ht, Result.andThen_ok, Instr.sliceBounds, Instr.sliceBound, asIntOf, Sem.run_pure, Option.isSome]
    rw [if_pos ⟨by omega, by omega⟩]
    simp [sizeOf, typeInfo, hq, hs, dropA, h1, h2]
end
end Go.Proofs.YticnjkdaccacaaaDoor.Base
