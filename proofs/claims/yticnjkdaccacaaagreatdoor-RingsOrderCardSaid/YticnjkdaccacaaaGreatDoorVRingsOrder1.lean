/- Texts of this work, one behind the other. -/
import Derived.WalkKit
import Derived.OrdersHeld
import Derived.Below
import Derived.Deep.OwnRows
import Derived.Maps.AppendAt
import Derived.Laws.CopyOwn
import Derived.Test.YticnjkdaccacaaaGreatDoorProg
import Derived.ProofKit
import Derived.OpenShut
import Derived.KernelRfl
import Derived.Lib.Hide
import Derived.Deep.LoopGhost
import Derived.Deep.QuietTactic
import Derived.BigQuiet
section
/- Regions that draw their order, by one order that is checked; worlds of which some blocks may have changed; what slices read as. -/
namespace Go.Proofs.YticnjkdaccacaaaGreatDoor.Base
open Go Go.RowKit

theorem below_weak {B : Nat} {w1 w2 : World} (h : B ≤ w1.heap.size) (hb : Below w1.heap.size w1 w2) : Below B w1 w2 := ⟨hb.os, hb.tape, hb.output, hb.size, fun i hi => hb.block i (by omega)⟩
/-! ### 1. A region that draws its order: one order of its operations, of which each that only yields may be taken first, and of the others one alone may come up -/
section
variable {P : Program} {ops : Array Oper} {Q : Exit → Act → World → Prop} {S : World → Prop}
/-- All but a panic. -/
def np (Q : Exit → Act → World → Prop) : Exit → Act → World → Prop
  | .panic _, _, _ => False
  | e, a, w => Q e a w
/-- A step of an order: one operation; or two that may come up either way about. -/
inductive Sg where
  | one (x : Nat × Bool × Option Tmp)
  | two (i j : Nat) (N M : Option Tmp)
def cost : List Sg → Nat
  | [] => 0
  | .one _ :: r => cost r + 1
  | .two _ _ _ _ :: r => cost r + 2
def Sched (P : Program) (ops : Array Oper) (Q : Exit → Act → World → Prop) (S : World → Prop) : List Sg → Act → World → Prop
  | [], a, w => Q .normal a w
  | .one (i, true, N) :: r, a, w => ∃ o v, ops[i]? = some o ∧ o.dst = N ∧ YieldsIf P ops S o v a ∧ Sched P ops Q S r (a.put N v) w
  | .one (i, false, N) :: r, a, w => ∃ o, ops[i]? = some o ∧ o.dst = N ∧ ∀ K : Act → World → Prop, (∀ a' w', S w' → Sched P ops Q S r a' w' → K a' w') →
      if Region.wanted o (yielded ops a.tmps) = true then Oper.wp P o a w K (fun _ _ _ => False) else K (a.put N undef) w
  | .two i j N M :: r, a, w => ∃ o p, ops[i]? = some o ∧ ops[j]? = some p ∧ o.dst = N ∧ p.dst = M ∧ (∀ t, Region.wanted o t = true) ∧ (∀ t, Region.wanted p t = true) ∧
      ∀ K : Act → World → Prop, (∀ a' w', S w' → Sched P ops Q S r a' w' → K a' w') →
        Oper.wp P o a w (fun a' w' => S w' ∧ Oper.wp P p a' w' K (fun _ _ _ => False)) (fun _ _ _ => False) ∧ Oper.wp P p a w (fun a' w' => S w' ∧ Oper.wp P o a' w' K (fun _ _ _ => False)) (fun _ _ _ => False)
def okS (ops : Array Oper) : Array Bool → List Sg → Bool
  | l, [] => Region.ready .any ops l == []
  | l, .one (i, true, _) :: r => Region.free .any ops l i && (Region.ready .any ops l).contains i && okS ops (l.setIfInBounds i true) r
  | l, .one (i, false, _) :: r => (Region.ready .any ops l == [i]) && okS ops (l.setIfInBounds i true) r
  | l, .two i j _ _ :: r => i != j && (Region.ready .any ops l == [i, j]) && (Region.ready .any ops (l.setIfInBounds i true) == [j]) && (Region.ready .any ops (l.setIfInBounds j true) == [i]) && okS ops ((l.setIfInBounds i true).setIfInBounds j true) r
theorem upon_weaken {o : Oper} {a : Act} {w : World} {K : Act → World → Prop} (Q : Exit → Act → World → Prop) (h : Oper.wp P o a w K (fun _ _ _ => False)) : Oper.wp P o a w K Q := by
  unfold Oper.wp at *
  generalize (execOp a.eval o).run P w = r at *
  cases r with
  | ok n w' =>
    cases n <;> simp only [Oper.upon] at h ⊢ <;> try exact h
    case enter f args =>
      refine h.mono fun e w'' hh => ?_
      cases e with
      | returned v => exact hh
      | panicked c => exact hh.elim
      | outgrown => obtain ⟨_, _, x⟩ := hh; exact x.elim
  | halt x w' =>
    cases x <;> simp only [Oper.upon] at h ⊢
theorem upon_mono {o : Oper} {a : Act} {w : World} {K K' : Act → World → Prop} {Q : Exit → Act → World → Prop} (hK : ∀ a' w', K a' w' → K' a' w') (h : Oper.wp P o a w K (fun _ _ _ => False)) : Oper.wp P o a w K' Q := by
  have h := upon_weaken Q h
  unfold Oper.wp at *
  generalize (execOp a.eval o).run P w = r at *
  cases r with
  | ok n w' =>
    cases n <;> simp only [Oper.upon] at h ⊢ <;> first | exact hK _ _ h | exact h | skip
    case enter f args =>
      refine h.mono fun e w'' hh => ?_
      cases e with
      | returned v => exact hK _ _ hh
      | panicked c => exact hh
      | outgrown => exact hh
    case row row args => exact Rows.mono h fun u w'' he => hK _ _ he
  | halt x w' =>
    cases x <;> simp only [Oper.upon] at h ⊢ <;> exact h
theorem wpOp_of {i : Nat} {o : Oper} {K : Act → World → Prop} {a : Act} {w : World} (ho : ops[i]? = some o) (hw : ∀ t, Region.wanted o t = true) (h : Oper.wp P o a w K (fun _ _ _ => False)) : wpOp P ops Q i K a w := by
  unfold wpOp
  simp only [ho]
  rw [if_pos (hw _)]
  exact .inl (upon_weaken _ h)
theorem sched_held (hsel : Region.noSelect ops = true) : ∀ (σ : List Sg) (l : Array Bool) (a : Act) (w : World), okS ops l σ = true → S w → Sched P ops Q S σ a w →
    wpAnyH P .any ops (np Q) S (cost σ) l a w := by
  intro σ
  induction σ with
  | nil => intro l a w hok _ h; exact ⟨by simpa [okS] using hok, h⟩
  | cons x r ih =>
    cases x with
    | one x =>
      obtain ⟨i, b, N⟩ := x
      intro l a w hok hS h
      cases b with
      | true =>
        obtain ⟨o, v, ho, rfl, hy, h⟩ := h
        simp only [okS, Bool.and_eq_true] at hok
        exact wpAnyH_take ho hsel hok.1.1 hok.1.2 (fun _ _ _ hp => hp) hy hS (ih _ _ _ hok.2 hS h)
      | false =>
        obtain ⟨o, ho, rfl, h⟩ := h
        simp only [okS, Bool.and_eq_true, beq_iff_eq] at hok
        refine wpAnyH_all hok.1 (by simp) ?_
        intro j hj
        simp only [List.mem_singleton] at hj
        subst hj
        have h' := h (fun a' w' => S w' ∧ wpAnyH P .any ops (np Q) S (cost r) (l.setIfInBounds j true) a' w') (fun a' w' hS' hh => ⟨hS', ih _ _ _ hok.2 hS' hh⟩)
        unfold wpOp
        simp only [ho]
        split
        · rename_i hw; rw [if_pos hw] at h'; exact .inl (upon_weaken _ h')
        · rename_i hw; rw [if_neg hw] at h'; exact h'
    | two i j N M =>
      intro l a w hok hS h
      obtain ⟨o, p, ho, hp, rfl, rfl, wo, wp, h⟩ := h
      simp only [okS, Bool.and_eq_true, beq_iff_eq, bne_iff_ne] at hok
      obtain ⟨⟨⟨⟨hne, h1⟩, h2⟩, h3⟩, h4⟩ := hok
      obtain ⟨hA, hB⟩ := h (fun a' w' => S w' ∧ wpAnyH P .any ops (np Q) S (cost r) ((l.setIfInBounds i true).setIfInBounds j true) a' w') (fun a' w' hS' hh => ⟨hS', ih _ _ _ h4 hS' hh⟩)
      show wpAnyH P .any ops (np Q) S (cost r + 1 + 1) l a w
      refine wpAnyH_all h1 (by simp) ?_
      intro k hk
      simp only [List.mem_cons, List.not_mem_nil, or_false] at hk
      rcases hk with rfl | rfl
      · refine wpOp_of ho wo (upon_mono (fun a' w' ⟨hs, hh⟩ => ⟨hs, wpAnyH_all h2 (by simp) fun m hm => ?_⟩) hA)
        simp only [List.mem_singleton] at hm
        subst hm
        exact wpOp_of hp wp hh
      · refine wpOp_of hp wp (upon_mono (fun a' w' ⟨hs, hh⟩ => ⟨hs, wpAnyH_all h3 (by simp) fun m hm => ?_⟩) hB)
        simp only [List.mem_singleton] at hm
        subst hm
        rw [Array.setIfInBounds_comm _ _ (Ne.symm hne)]
        exact wpOp_of ho wo hh
theorem np_mono {c : Code} {a : Act} {w : World} (h : c.wp P (np Q) a w) : c.wp P Q a w :=
  Code.wp_mono (fun e a w q => by cases e <;> first | exact q | exact q.elim) h
/-- The beginning. -/
theorem wp_region_sched {id : Nat} {a : Act} {w : World} (σ : List Sg) (S : World → Prop) (hm : P.follows .mixedOrders = true)
    (hok : (Region.noSelect ops && (ops.size == cost σ) && okS ops (Array.replicate ops.size false) σ) = true) (hS : S w.drew) (h : Sched P ops Q S σ a w.drew) : (Code.region id ops true).wp P Q a w := by
  simp only [Bool.and_eq_true, beq_iff_eq] at hok
  obtain ⟨⟨h1, h2⟩, h3⟩ := hok
  refine np_mono (wp_region_held (S := S) hm ?_)
  rw [h2] at h3 ⊢
  exact sched_held h1 σ _ a _ h3 hS h
/-- An operation without what the order alone asks of it. -/
structure SOp where
  q : Bool
  dst : Option Tmp
  op : Op
  type : TypeId
  g : Option (Tmp × Bool)
def SOp.oper (s : SOp) : Oper := { dst := s.dst, op := s.op, type := s.type, pos := "", after := #[], guard := none }
def SOp.wanted (s : SOp) (tmps : Array Value) : Bool :=
  match s.g with
  | none => true
  | some (t, want) => match tmps.getD t undef with
    | .bool b => b == want
    | _ => false
def strip (ops : Array Oper) (x : Nat × Bool × Option Tmp) : Option SOp :=
  (ops[x.1]?).bind fun o => match o.guard with
    | none => some ⟨x.2.1, x.2.2, o.op, o.type, none⟩
    | some (j, want) => ((ops[j]?).bind (·.dst)).map fun t => ⟨x.2.1, x.2.2, o.op, o.type, some (t, want)⟩
inductive Itm where
  | one (s : SOp)
  | two (s t : SOp)
def strips (ops : Array Oper) : List Sg → Option (List Itm)
  | [] => some []
  | .one x :: r => (strip ops x).bind fun s => (strips ops r).map (.one s :: ·)
  | .two i j N M :: r => (strip ops (i, false, N)).bind fun s => (strip ops (j, false, M)).bind fun t => if s.g.isNone && t.g.isNone then (strips ops r).map (.two s t :: ·) else none
def dstsOk (ops : Array Oper) (σ : List Sg) : Bool := σ.all fun x => match x with
  | .one x => (ops[x.1]?).map (·.dst) == some x.2.2
  | .two i j N M => (ops[i]?).map (·.dst) == some N && (ops[j]?).map (·.dst) == some M
def SL (P : Program) (Q : Exit → Act → World → Prop) (S : World → Prop) : List Itm → Act → World → Prop
  | [], a, w => Q .normal a w
  | .one s :: r, a, w => (s.wanted a.tmps = false ∧ (s.q = true ∨ S w) ∧ SL P Q S r (a.put s.dst undef) w) ∨
      (s.wanted a.tmps = true ∧ s.q = true ∧ ∃ v, (∀ w', S w' → (execOp a.eval s.oper).run P w' = .ok (.value v) w') ∧ SL P Q S r (a.put s.dst v) w) ∨
      (s.wanted a.tmps = true ∧ s.q = false ∧ ∀ K : Act → World → Prop, (∀ a' w', S w' → SL P Q S r a' w' → K a' w') → Oper.wp P s.oper a w K (fun _ _ _ => False))
  | .two s t :: r, a, w => ∀ K : Act → World → Prop, (∀ a' w', S w' → SL P Q S r a' w' → K a' w') →
      Oper.wp P s.oper a w (fun a' w' => S w' ∧ Oper.wp P t.oper a' w' K (fun _ _ _ => False)) (fun _ _ _ => False) ∧ Oper.wp P t.oper a w (fun a' w' => S w' ∧ Oper.wp P s.oper a' w' K (fun _ _ _ => False)) (fun _ _ _ => False)
theorem strip_wanted {x : Nat × Bool × Option Tmp} {s : SOp} {o : Oper} (ho : ops[x.1]? = some o) (h : strip ops x = some s) (tmps : Array Value) :
    Region.wanted o (yielded ops tmps) = s.wanted tmps ∧ s.q = x.2.1 ∧ s.dst = x.2.2 ∧ s.op = o.op ∧ s.type = o.type := by
  unfold strip at h
  rw [ho] at h
  simp only [Option.bind_some] at h
  cases hg : o.guard with
  | none => rw [hg] at h; simp only [Option.some.injEq] at h; subst h; exact ⟨by simp [Region.wanted, hg, SOp.wanted], rfl, rfl, rfl, rfl⟩
  | some g =>
    obtain ⟨j, want⟩ := g
    rw [hg] at h
    simp only [Option.map_eq_some_iff] at h
    obtain ⟨t, ht, rfl⟩ := h
    refine ⟨?_, rfl, rfl, rfl, rfl⟩
    simp only [Region.wanted, hg, SOp.wanted, yielded, ht, Option.bind_some]
    rw [Array.getD_eq_getD_getElem?]
    cases hv : tmps[t]? with
    | none => rfl
    | some v => cases v <;> simp
theorem oper_same {o : Oper} {s : SOp} {a : Act} {w : World} {K : Act → World → Prop} (hop : s.op = o.op) (hty : s.type = o.type) (hd : s.dst = o.dst) (h : Oper.wp P s.oper a w K (fun _ _ _ => False)) : Oper.wp P o a w K (fun _ _ _ => False) := by
  have hex : execOp a.eval o = execOp a.eval s.oper := by unfold execOp SOp.oper; simp only [hop, hty]
  have e : o.upon P a K (fun _ _ _ => False) = s.oper.upon P a K (fun _ _ _ => False) := by
    funext r
    have ed : s.oper.dst = o.dst := hd
    cases r with
    | ok n w' => cases n <;> simp only [Oper.upon, ed]
    | halt x w' => cases x <;> simp only [Oper.upon]
  unfold Oper.wp at h ⊢
  rw [hex, e]
  exact h
theorem sl_sched : ∀ (σ : List Sg) (L : List Itm) (a : Act) (w : World), strips ops σ = some L → dstsOk ops σ = true → SL P Q S L a w → Sched P ops Q S σ a w := by
  intro σ
  induction σ with
  | nil => intro L a w hL _ h; simp only [strips, Option.some.injEq] at hL; subst hL; exact h
  | cons x r ih =>
    cases x with
    | one x =>
      intro L a w hL hd h
      simp only [strips, Option.bind_eq_some_iff, Option.map_eq_some_iff] at hL
      obtain ⟨s, hs, L', hL', rfl⟩ := hL
      have hx : ((ops[x.1]?).map (·.dst) == some x.2.2) = true ∧ dstsOk ops r = true := by simpa [dstsOk] using hd
      obtain ⟨hx, hr⟩ := hx
      cases ho : ops[x.1]? with
      | none => rw [ho] at hx; simp at hx
      | some o =>
        rw [ho] at hx
        have hdst : o.dst = x.2.2 := by simpa using hx
        obtain ⟨i, b, N⟩ := x
        obtain ⟨hw, hq, hsd, hop, hty⟩ := strip_wanted ho hs a.tmps
        have hdst' : o.dst = N := hdst
        have hsd' : s.dst = N := hsd
        have hq' : s.q = b := hq
        have hex : execOp a.eval o = execOp a.eval s.oper := by unfold execOp SOp.oper; simp only [hop, hty]
        cases b with
        | true =>
          rcases h with ⟨h1, _, h2⟩ | ⟨h1, _, v, hv, h2⟩ | ⟨_, h2, _⟩
          · exact ⟨o, undef, ho, hdst', .inr ⟨hw.trans h1, rfl⟩, by rw [← hsd']; exact ih _ _ _ hL' hr h2⟩
          · exact ⟨o, v, ho, hdst', .inl ⟨hw.trans h1, fun w' hS' => by rw [hex]; exact hv w' hS'⟩, by rw [← hsd']; exact ih _ _ _ hL' hr h2⟩
          · rw [hq'] at h2; cases h2
        | false =>
          refine ⟨o, ho, hdst', fun K hK => ?_⟩
          rcases h with ⟨h1, h3, h2⟩ | ⟨_, h2, _⟩ | ⟨h1, _, h2⟩
          · rw [if_neg (by rw [hw, h1]; exact Bool.false_ne_true)]
            rcases h3 with h3 | h3
            · rw [hq'] at h3; cases h3
            · exact hK _ _ h3 (by rw [← hsd']; exact ih _ _ _ hL' hr h2)
          · rw [hq'] at h2; cases h2
          · rw [if_pos (by rw [hw, h1])]
            exact oper_same hop hty (hsd'.trans hdst'.symm) (h2 K (fun a' w' hS' hh => hK a' w' hS' (ih _ _ _ hL' hr hh)))
    | two i j N M =>
      intro L a w hL hd h
      simp only [strips, Option.bind_eq_some_iff] at hL
      obtain ⟨s, hs, t, ht, hL⟩ := hL
      split at hL
      case isFalse => cases hL
      rename_i hg
      rw [Option.map_eq_some_iff] at hL
      obtain ⟨L', hL', rfl⟩ := hL
      simp only [Bool.and_eq_true, Option.isNone_iff_eq_none] at hg
      have hx : (((ops[i]?).map (·.dst) == some N) = true ∧ ((ops[j]?).map (·.dst) == some M) = true) ∧ dstsOk ops r = true := by simpa [dstsOk] using hd
      obtain ⟨⟨hx, hy⟩, hr⟩ := hx
      cases ho : ops[i]? with
      | none => rw [ho] at hx; simp at hx
      | some o =>
      cases hp : ops[j]? with
      | none => rw [hp] at hy; simp at hy
      | some p =>
        rw [ho] at hx
        rw [hp] at hy
        have hd1 : o.dst = N := by simpa using hx
        have hd2 : p.dst = M := by simpa using hy
        obtain ⟨_, _, hsd, hop, hty⟩ := strip_wanted (x := (i, false, N)) ho hs a.tmps
        obtain ⟨_, _, hsd2, hop2, hty2⟩ := strip_wanted (x := (j, false, M)) hp ht a.tmps
        have w1 : ∀ tt, Region.wanted o tt = true := by
          intro tt
          have hgo : o.guard = none := by
            unfold strip at hs
            rw [ho] at hs
            simp only [Option.bind_some] at hs
            cases hgg : o.guard with
            | none => rfl
            | some g =>
              rw [hgg] at hs
              simp only [Option.map_eq_some_iff] at hs
              obtain ⟨t', _, rfl⟩ := hs
              exact absurd hg.1 (by simp)
          simp [Region.wanted, hgo]
        have w2 : ∀ tt, Region.wanted p tt = true := by
          intro tt
          have hgo : p.guard = none := by
            unfold strip at ht
            rw [hp] at ht
            simp only [Option.bind_some] at ht
            cases hgg : p.guard with
            | none => rfl
            | some g =>
              rw [hgg] at ht
              simp only [Option.map_eq_some_iff] at ht
              obtain ⟨t', _, rfl⟩ := ht
              exact absurd hg.2 (by simp)
          simp [Region.wanted, hgo]
        refine ⟨o, p, ho, hp, hd1, hd2, w1, w2, fun K hK => ?_⟩
        obtain ⟨hA, hB⟩ := h K (fun a' w' hS' hh => hK a' w' hS' (ih _ _ _ hL' hr hh))
        exact ⟨oper_same hop hty (hsd.trans hd1.symm) (upon_mono (fun a' w' ⟨h1, h2⟩ => ⟨h1, oper_same hop2 hty2 (hsd2.trans hd2.symm) h2⟩) hA),
          oper_same hop2 hty2 (hsd2.trans hd2.symm) (upon_mono (fun a' w' ⟨h1, h2⟩ => ⟨h1, oper_same hop hty (hsd.trans hd1.symm) h2⟩) hB)⟩
/-- The beginning, the operations written out. -/
theorem wp_region_sl {id : Nat} {a : Act} {w : World} (σ : List Sg) (L : List Itm) (S : World → Prop) (hm : P.follows .mixedOrders = true)
    (hok : (Region.noSelect ops && (ops.size == cost σ) && okS ops (Array.replicate ops.size false) σ && dstsOk ops σ) = true) (hL : strips ops σ = some L) (hS : S w.drew) (h : SL P Q S L a w.drew) : (Code.region id ops true).wp P Q a w := by
  simp only [Bool.and_eq_true] at hok
  exact wp_region_sched σ S hm (by simp only [Bool.and_eq_true]; exact hok.1) hS (sl_sched σ L a _ hL hok.2 h)
section
variable {N : Option Tmp} {op : Op} {ty : TypeId} {r : List Itm} {a a' : Act} {w w' : World} {v : Value} {q : Bool}
/-- An operation that yields. -/
theorem sq (hv : ∀ w', S w' → (execOp a.eval ⟨N, op, ty, "", #[], none⟩).run P w' = .ok (.value v) w') (ha : a.put N v = a') (h : SL P Q S r a' w) : SL P Q S (.one ⟨true, N, op, ty, none⟩ :: r) a w :=
  .inr (.inl ⟨rfl, rfl, v, hv, by subst ha; exact h⟩)
theorem sqg {t : Tmp} {b : Bool} (hw : (a.tmps.getD t undef) = .bool b) (hv : ∀ w', S w' → (execOp a.eval ⟨N, op, ty, "", #[], none⟩).run P w' = .ok (.value v) w') (ha : a.put N v = a') (h : SL P Q S r a' w) : SL P Q S (.one ⟨true, N, op, ty, some (t, b)⟩ :: r) a w :=
  .inr (.inl ⟨by simp only [SOp.wanted, hw]; simp, rfl, v, hv, by subst ha; exact h⟩)
/-- One that its guard shuts out. -/
theorem sn {t : Tmp} {b : Bool} (hw : (a.tmps.getD t undef) = .bool (!b)) (ha : a.put N undef = a') (h : SL P Q S r a' w) : SL P Q S (.one ⟨true, N, op, ty, some (t, b)⟩ :: r) a w :=
  .inl ⟨by simp only [SOp.wanted, hw]; cases b <;> rfl, .inl rfl, by subst ha; exact h⟩
theorem sf {t : Tmp} {b : Bool} (hS : S w) (hw : (a.tmps.getD t undef) = .bool (!b)) (ha : a.put N undef = a') (h : SL P Q S r a' w) : SL P Q S (.one ⟨false, N, op, ty, some (t, b)⟩ :: r) a w :=
  .inl ⟨by simp only [SOp.wanted, hw]; cases b <;> rfl, .inr hS, by subst ha; exact h⟩
/-- One that writes, makes or calls. -/
theorem se (h : ∀ K : Act → World → Prop, (∀ a' w', S w' → SL P Q S r a' w' → K a' w') → Oper.wp P ⟨N, op, ty, "", #[], none⟩ a w K (fun _ _ _ => False)) : SL P Q S (.one ⟨false, N, op, ty, none⟩ :: r) a w :=
  .inr (.inr ⟨rfl, rfl, h⟩)
theorem seg {t : Tmp} {b : Bool} (hw : (a.tmps.getD t undef) = .bool b) (h : ∀ K : Act → World → Prop, (∀ a' w', S w' → SL P Q S r a' w' → K a' w') → Oper.wp P ⟨N, op, ty, "", #[], none⟩ a w K (fun _ _ _ => False)) : SL P Q S (.one ⟨false, N, op, ty, some (t, b)⟩ :: r) a w :=
  .inr (.inr ⟨by simp only [SOp.wanted, hw]; simp, rfl, h⟩)
/-- The same; the temporaries come in as they then stand. -/
theorem se' (h : ∀ K : Act → World → Prop, (∀ a' w', S w' → (∀ a'', a' = a'' → SL P Q S r a'' w') → K a' w') → Oper.wp P ⟨N, op, ty, "", #[], none⟩ a w K (fun _ _ _ => False)) : SL P Q S (.one ⟨false, N, op, ty, none⟩ :: r) a w :=
  se fun K hK => h K fun a' w' hS hh => hK a' w' hS (hh a' rfl)
theorem call_wp {f : FuncId} {args : Array Value} {K : Act → World → Prop} (hrun : (execOp a.eval ⟨N, op, ty, "", #[], none⟩).run P w = .ok (.enter f args) w) (h : Calls P f args w fun e w' => ∃ v, e = .returned v ∧ K (a.put N v) w') :
    Oper.wp P ⟨N, op, ty, "", #[], none⟩ a w K (fun _ _ _ => False) := by
  unfold Oper.wp
  rw [hrun, Oper.upon_enter]
  refine h.mono fun e w'' hh => ?_
  obtain ⟨v, rfl, hk⟩ := hh
  exact hk
/-- A call of a Go function, by its contract: what it hands back, and in which world, comes in. -/
theorem sc (f : FuncId) (args : Array Value) (hrun : (execOp a.eval ⟨N, op, ty, "", #[], none⟩).run P w = .ok (.enter f args) w)
    (h : Calls P f args w fun e w' => ∃ v, e = .returned v ∧ S w' ∧ ∀ a', a.put N v = a' → SL P Q S r a' w') : SL P Q S (.one ⟨false, N, op, ty, none⟩ :: r) a w :=
  se fun K hK => call_wp hrun (h.mono fun e w' ⟨v, he, hS, hk⟩ => ⟨v, he, hK _ _ hS (hk _ rfl)⟩)
theorem scg {t : Tmp} {b : Bool} (f : FuncId) (args : Array Value) (hw : (a.tmps.getD t undef) = .bool b) (hrun : (execOp a.eval ⟨N, op, ty, "", #[], none⟩).run P w = .ok (.enter f args) w)
    (h : Calls P f args w fun e w' => ∃ v, e = .returned v ∧ S w' ∧ ∀ a', a.put N v = a' → SL P Q S r a' w') : SL P Q S (.one ⟨false, N, op, ty, some (t, b)⟩ :: r) a w :=
  seg hw fun K hK => call_wp hrun (h.mono fun e w' ⟨v, he, hS, hk⟩ => ⟨v, he, hK _ _ hS (hk _ rfl)⟩)
/-- An operation that yields a value and leaves another world. -/
theorem sv (hrun : (execOp a.eval ⟨N, op, ty, "", #[], none⟩).run P w = .ok (.value v) w') (hS : S w') (ha : a.put N v = a') (h : SL P Q S r a' w') : SL P Q S (.one ⟨false, N, op, ty, none⟩ :: r) a w :=
  se fun K hK => by
    unfold Oper.wp
    rw [hrun, Oper.upon_value, ha]
    exact hK _ _ hS h
theorem svg {t : Tmp} {b : Bool} (hw : (a.tmps.getD t undef) = .bool b) (hrun : (execOp a.eval ⟨N, op, ty, "", #[], none⟩).run P w = .ok (.value v) w') (hS : S w') (ha : a.put N v = a') (h : SL P Q S r a' w') : SL P Q S (.one ⟨false, N, op, ty, some (t, b)⟩ :: r) a w :=
  seg hw fun K hK => by
    unfold Oper.wp
    rw [hrun, Oper.upon_value, ha]
    exact hK _ _ hS h
/-- Two that may come up either way about. -/
theorem s2 {s t : SOp} (h : ∀ K : Act → World → Prop, (∀ a' w', S w' → (∀ a'', a' = a'' → SL P Q S r a'' w') → K a' w') →
    Oper.wp P s.oper a w (fun a' w' => S w' ∧ Oper.wp P t.oper a' w' K (fun _ _ _ => False)) (fun _ _ _ => False) ∧ Oper.wp P t.oper a w (fun a' w' => S w' ∧ Oper.wp P s.oper a' w' K (fun _ _ _ => False)) (fun _ _ _ => False)) : SL P Q S (.two s t :: r) a w :=
  fun K hK => h K fun a' w' hS hh => hK a' w' hS (hh a' rfl)
/-- The same, where both ways come to one state. -/
theorem s2t {s t : SOp} (a1 : Act) (w1 : World) (ht : SL P Q S r a1 w1) (hS : S w1) (h : ∀ K : Act → World → Prop, K a1 w1 →
    Oper.wp P s.oper a w (fun a' w' => S w' ∧ Oper.wp P t.oper a' w' K (fun _ _ _ => False)) (fun _ _ _ => False) ∧ Oper.wp P t.oper a w (fun a' w' => S w' ∧ Oper.wp P s.oper a' w' K (fun _ _ _ => False)) (fun _ _ _ => False)) : SL P Q S (.two s t :: r) a w :=
  fun K hK => h K (hK a1 w1 hS ht)
theorem wp_value {o : Oper} {K : Act → World → Prop} {Q' : Exit → Act → World → Prop} (h : (execOp a.eval o).run P w = .ok (.value v) w') (hK : K (a.put o.dst v) w') : Oper.wp P o a w K Q' := by
  unfold Oper.wp
  rw [h, Oper.upon_value]
  exact hK
/-- Two that yield values; the first one only reads. -/
theorem s2lv {s t : SOp} {u : Value} {a1 : Act} (h1 : (execOp a.eval s.oper).run P w = .ok (.value v) w) (h2 : (execOp (a.put s.dst v).eval t.oper).run P w = .ok (.value u) w') (h3 : (execOp a.eval t.oper).run P w = .ok (.value u) w')
    (h4 : (execOp (a.put t.dst u).eval s.oper).run P w' = .ok (.value v) w') (hS : S w) (hS' : S w') (e1 : (a.put s.dst v).put t.dst u = a1) (e2 : (a.put t.dst u).put s.dst v = a1) (ht : SL P Q S r a1 w') : SL P Q S (.two s t :: r) a w :=
  fun K hK => ⟨wp_value h1 ⟨hS, wp_value h2 (by show K ((a.put s.dst v).put t.dst u) w'; rw [e1]; exact hK _ _ hS' ht)⟩, wp_value h3 ⟨hS', wp_value h4 (by show K ((a.put t.dst u).put s.dst v) w'; rw [e2]; exact hK _ _ hS' ht)⟩⟩
theorem sl_end (h : Q .normal a w) : SL P Q S [] a w := h
end
end

/-! ### 2. A slice of whole numbers that is read -/
/-- What a slice of numbers of one kind reads as. -/
def Rd (k : IntKind) (w : World) (A : Option Addr) (l : List Int) : Prop :=
  l ≠ [] → ∃ ad, A = some ad ∧ ad.block < w.heap.size ∧ ∀ j, j < l.length → w.cell? (ad.add j) = some (.int k (l.getD j 0))
theorem add_block (ad : Addr) (n : Nat) : (ad.add n).block = ad.block := by rw [Addr.add]; split <;> rfl
theorem add_add (ad : Addr) (a b : Nat) : (ad.add a).add b = ad.add (a + b) := by
  unfold Addr.add
  by_cases h1 : a = 0
  · subst h1; simp
  · by_cases h2 : b = 0
    · subst h2; simp [h1]
    · rw [if_neg h1, if_neg h2, if_neg (by omega)]; simp [Nat.add_assoc]
theorem add_zero (ad : Addr) : ad.add 0 = ad := by simp [Addr.add]
section
variable {k : IntKind} {w w1 : World} {A : Option Addr} {l : List Int}
theorem Rd.below (h : Rd k w A l) (hb : Below w.heap.size w w1) : Rd k w1 A l := fun hne => by
  obtain ⟨ad, e, h1, h2⟩ := h hne
  exact ⟨ad, e, Nat.lt_of_lt_of_le h1 hb.size, fun j hj => by rw [hb.cell (p := ad.add j) (by rw [add_block]; exact h1)]; exact h2 j hj⟩
theorem Rd.mem {B : Nat} (h : Rd k w A l) (hB : ∀ ad, A = some ad → ad.block < B) (hb : Below B w w1) : Rd k w1 A l := fun hne => by
  obtain ⟨ad, e, h1, h2⟩ := h hne
  exact ⟨ad, e, Nat.lt_of_lt_of_le h1 hb.size, fun j hj => by rw [hb.cell (p := ad.add j) (by rw [add_block]; exact hB ad e)]; exact h2 j hj⟩
theorem Rd.nil : Rd k w A [] := fun h => absurd rfl h
theorem Rd.empty (h : Rd k w A l) (e : A = none) : l = [] := by
  rcases List.eq_nil_or_concat l with hl | ⟨_, _, hl⟩
  · exact hl
  · obtain ⟨ad, e', _⟩ := h (by rw [hl]; simp)
    rw [e] at e'; cases e'
theorem Rd.cell (h : Rd k w A l) {j : Nat} (hj : j < l.length) : ∃ ad, A = some ad ∧ ad.block < w.heap.size ∧ w.cell? (ad.add j) = some (.int k (l.getD j 0)) := by
  obtain ⟨ad, e, h1, h2⟩ := h (by intro e; rw [e] at hj; exact absurd hj (Nat.not_lt_zero _))
  exact ⟨ad, e, h1, h2 j hj⟩
theorem Rd.take (h : Rd k w A l) (n : Nat) : Rd k w A (l.take n) := fun hne => by
  obtain ⟨ad, e, h1, h2⟩ := h (by rintro rfl; simp at hne)
  refine ⟨ad, e, h1, fun j hj => ?_⟩
  rw [List.length_take] at hj
  rw [h2 j (by omega), List.getD_eq_getElem?_getD, List.getD_eq_getElem?_getD, List.getElem?_take, if_pos (by omega)]
/-- The address of what stands behind the first j. -/
def dropA (A : Option Addr) (c j : Nat) : Option Addr := if c = j then A else A.map (·.add (j * 1))
theorem Rd.drop (h : Rd k w A l) {n c : Nat} (hc : l.length ≤ c) : Rd k w (dropA A c n) (l.drop n) := fun hne => by
  have hlt : n < l.length := by
    rcases Nat.lt_or_ge n l.length with h | h
    · exact h
    · exact absurd (List.drop_eq_nil_of_le h) hne
  obtain ⟨ad, rfl, h1, h2⟩ := h (by rintro rfl; simp at hne)
  refine ⟨ad.add n, ?_, by rw [add_block]; exact h1, fun j hj => ?_⟩
  · unfold dropA; rw [if_neg (by omega)]; simp
  · rw [List.length_drop] at hj
    rw [add_add, h2 _ (by omega), List.getD_eq_getElem?_getD, List.getD_eq_getElem?_getD, List.getElem?_drop]
theorem dropA_block {c j B : Nat} (h : ∀ ad, A = some ad → ad.block < B) : ∀ ad, dropA A c j = some ad → ad.block < B := by
  intro ad e
  unfold dropA at e
  split at e
  · exact h ad e
  · cases A with
    | none => simp at e
    | some a => simp at e; subst e; rw [add_block]; exact h a rfl
/-- A block of the call's own, read from its head on. -/
theorem Rd.block {g : Nat} {cs : Array Value} {t : TypeId} {fr : Nat × Nat} (hg : w.heap[g]? = some (.cells cs t fr)) (hc : ∀ j, j < l.length → cs[j]? = some (.int k (l.getD j 0))) : Rd k w (some ⟨g, 0, none⟩) l := fun _ =>
  ⟨_, rfl, (Array.getElem?_eq_some_iff.1 hg).1, fun j hj => by
    have ha : (⟨g, 0, none⟩ : Addr).add j = ⟨g, j, none⟩ := by unfold Addr.add; split <;> simp_all
    rw [ha, cell_of_row _ _ _ _ _ _ hg]; exact hc j hj⟩
end
section
variable {P : Program}
theorem madeCells_one (z : Value) (n : Nat) : madeCells #[z] n = Array.replicate n z := by
  apply Array.ext
  · simp [madeCells]
  · intro i h1 h2
    simp [madeCells, Nat.mod_one]
theorem mk_run (t e : TypeId) (z : Value) (bytes : Nat) (ht : P.underlying t = some (.slice e)) (hinfo : (P.info? e).map (fun i => (i.zero, i.size, i.bytes)) = some (some z, 1, bytes)) (hz1 : z.cells = #[z])
    (kl kc : IntKind) (n : Nat) (hbytes : bytes * n ≤ 281474976710656) (h63 : n ≤ 9223372036854775807) (w : World) :
    (Instr.makeSlice t (.int kl (n : Int)) (.int kc (n : Int))).run P w = .ok (.slice (some ⟨w.heap.size, 0, none⟩) n n) (w.alloc (.cells (Array.replicate n z) e)) := by
  rw [run_make_row' t e z bytes ht hinfo hz1 kl kc n hbytes h63 w, madeCells_one]
theorem sl_take (t e : TypeId) (kl : IntKind) (ht : P.underlying t = some (.slice e)) (hi : (P.info? e).map (·.size) = some 1) (A : Option Addr) (n c k : Nat) (hk : k ≤ c) :
    ∀ W : World, (Instr.slice t (.slice A n c) none (some (.int kl k)) none).run P W = .ok (.slice A k c) W := by
  intro W
  cases hq : P.info? e with
  | none => simp [hq] at hi
  | some i =>
    have hs : i.size = 1 := by simpa [hq] using hi
    have ha : (A.map fun x => x.add 0) = A := by cases A <;> simp [Addr.add]
    simp only [Instr.slice, Sem.run_bind, run_underlying ht, Result.andThen_ok, Instr.sliceBounds, Instr.sliceBound, asIntOf, Sem.run_pure, Option.isSome]
    rw [if_pos ⟨by omega, by omega⟩]
    simp [sizeOf, typeInfo, hq, hs, ha]
theorem sl_drop (t e : TypeId) (kl : IntKind) (ht : P.underlying t = some (.slice e)) (hi : (P.info? e).map (·.size) = some 1) (A : Option Addr) (n c k : Nat) (hk : k ≤ n) :
    ∀ W : World, (Instr.slice t (.slice A n c) (some (.int kl k)) none none).run P W = .ok (.slice (dropA A c k) (n - k) (c - k)) W := by
  intro W
  cases hq : P.info? e with
  | none => simp [hq] at hi
  | some i =>
    have hs : i.size = 1 := by simpa [hq] using hi
    simp only [Instr.slice, Sem.run_bind, run_underlying ht, Result.andThen_ok, Instr.sliceBounds, Instr.sliceBound, asIntOf, Sem.run_pure, Option.isSome]
    rw [if_pos ⟨by omega, by omega⟩]
    simp [sizeOf, typeInfo, hq, hs, dropA]
theorem sl_cut (t e : TypeId) (kl kh km : IntKind) (ht : P.underlying t = some (.slice e)) (hi : (P.info? e).map (·.size) = some 1) (A : Option Addr) (n c l h m : Nat) (xl xh xm : Int) (el : xl = l) (eh : xh = h) (em : xm = m) (h1 : l ≤ h) (h2 : h ≤ m) (h3 : m ≤ c) :
    ∀ W : World, (Instr.slice t (.slice A n c) (some (.int kl xl)) (some (.int kh xh)) (some (.int km xm))).run P W = .ok (.slice (dropA A m l) (h - l) (m - l)) W := by
  intro W
  subst el eh em
  cases hq : P.info? e with
  | none => simp [hq] at hi
  | some i =>
    have hs : i.size = 1 := by simpa [hq] using hi
    simp only [Instr.slice, Sem.run_bind, run_underlying ht, Result.andThen_ok, Instr.sliceBounds, Instr.sliceBound, asIntOf, Sem.run_pure, Option.isSome]
    rw [if_pos ⟨by omega, by omega⟩]
    simp [sizeOf, typeInfo, hq, hs, dropA, h1, h2]
end
end Go.Proofs.YticnjkdaccacaaaGreatDoor.Base
end
section
/- Rows of whole numbers of the call's own: append. -/
namespace Go.Proofs.YticnjkdaccacaaaGreatDoor.Own
open Go Go.RowKit Base

/-- Some blocks may have changed, and new ones may have come. -/
structure Chg (F : Nat → Prop) (w w' : World) : Prop where
  os : w'.os = w.os
  tape : w'.tape = w.tape
  output : w'.output = w.output
  size : w.heap.size ≤ w'.heap.size
  block : ∀ k, k < w.heap.size → ¬ F k → w'.heap[k]? = w.heap[k]?
section
variable {F G : Nat → Prop} {w w' w'' : World}
theorem Chg.refl (F : Nat → Prop) (w : World) : Chg F w w := ⟨rfl, rfl, rfl, Nat.le_refl _, fun _ _ _ => rfl⟩
theorem Chg.then (h : Chg F w w') (h' : Chg G w' w'') : Chg (fun k => F k ∨ G k) w w'' :=
  ⟨h'.os.trans h.os, h'.tape.trans h.tape, h'.output.trans h.output, Nat.le_trans h.size h'.size,
    fun k hk hn => (h'.block k (Nat.lt_of_lt_of_le hk h.size) (fun hg => hn (.inr hg))).trans (h.block k hk (fun hf => hn (.inl hf)))⟩
theorem Chg.trans (h : Chg F w w') (h' : Chg G w' w'') (hs : ∀ k, k < w.heap.size → G k → F k) : Chg F w w'' :=
  ⟨h'.os.trans h.os, h'.tape.trans h.tape, h'.output.trans h.output, Nat.le_trans h.size h'.size,
    fun k hk hn => (h'.block k (Nat.lt_of_lt_of_le hk h.size) (fun hg => hn (hs k hk hg))).trans (h.block k hk hn)⟩
theorem Chg.mono (h : Chg F w w') (hs : ∀ k, k < w.heap.size → F k → G k) : Chg G w w' := ⟨h.os, h.tape, h.output, h.size, fun k hk hn => h.block k hk (fun hf => hn (hs k hk hf))⟩
theorem Chg.of_below {B : Nat} (h : Below B w w') : Chg (fun k => B ≤ k) w w' := ⟨h.os, h.tape, h.output, h.size, fun k _ hn => h.block k (Nat.lt_of_not_le hn)⟩
theorem Chg.of_new (h : Below w.heap.size w w') : Chg (fun _ => False) w w' := ⟨h.os, h.tape, h.output, h.size, fun k hk _ => h.block k hk⟩
theorem Chg.of_grown {row : Option Nat} (h : w.grownBy w' row) : Chg (fun k => some k = row) w w' := ⟨h.os, h.tape, h.output, h.size, fun k hk hn => h.block k hk hn⟩
theorem Chg.below {w0 : World} {B : Nat} (h : Below B w0 w) (hc : Chg F w w') (hB : B ≤ w.heap.size) (hF : ∀ k, F k → B ≤ k) : Below B w0 w' :=
  h.trans ⟨hc.os, hc.tape, hc.output, hc.size, fun k hk => hc.block k (Nat.lt_of_lt_of_le hk hB) (fun hf => Nat.not_le.2 hk (hF k hf))⟩
theorem Chg.to_below {B : Nat} (hc : Chg F w w') (hB : B ≤ w.heap.size) (hF : ∀ k, F k → B ≤ k) : Below B w w' := Chg.below (Below.refl B w) hc hB hF
theorem Chg.alloc (w : World) (o : Obj) : Chg (fun _ => False) w (w.alloc o) := ⟨rfl, rfl, rfl, by simp, fun k hk _ => Below.heap_alloc w o k hk⟩
theorem Chg.setCell (w : World) (p : Addr) (u : Value) : Chg (fun k => k = p.block) w (w.setCell p u) := ⟨rfl, rfl, rfl, by simp [World.setCell], fun k _ hn => Below.heap_setCell _ _ _ _ hn⟩
theorem Chg.drew (w : World) : Chg (fun _ => False) w w.drew := ⟨rfl, rfl, rfl, Nat.le_refl _, fun _ _ _ => rfl⟩
end
theorem Rd.chg {k : IntKind} {w w' : World} {A : Option Addr} {l : List Int} {F : Nat → Prop} (h : Rd k w A l) (hc : Chg F w w') (hF : ∀ ad, A = some ad → ¬ F ad.block) : Rd k w' A l := fun hne => by
  obtain ⟨ad, e, h1, h2⟩ := h hne
  refine ⟨ad, e, Nat.lt_of_lt_of_le h1 hc.size, fun j hj => ?_⟩
  rw [World.cell?_of_block (w := w) (by rw [add_block]; exact hc.block _ h1 (hF ad e))]
  exact h2 j hj

/-- A row of the call's own: its numbers. -/
def OwnI (k : IntKind) (w : World) (B : Nat) (e : TypeId) (v : Value) (l : List Int) : Prop := w.ownsRow B e 1 v l.length (l.map (Value.int k))
section
variable {k : IntKind} {w w' : World} {B : Nat} {e : TypeId} {v : Value} {l : List Int}
theorem OwnI.nil (k : IntKind) (w : World) (B : Nat) (e : TypeId) : OwnI k w B e (.slice none 0 0) [] := ⟨by simp, .inl ⟨rfl, rfl⟩⟩
theorem OwnI.slice (h : OwnI k w B e v l) : ∃ A c, v = .slice A l.length c ∧ l.length ≤ c ∧ c ≤ maxLen ∧ Rd k w A l ∧ ∀ ad, A = some ad → B ≤ ad.block ∧ ad.block < w.heap.size ∧ ad = ⟨ad.block, 0, none⟩ := by
  rcases h.2 with ⟨rfl, h0⟩ | ⟨g, cap, cur, rfl, hB, hg, h1, h2, h3, h4⟩
  · obtain rfl : l = [] := List.eq_nil_of_length_eq_zero h0
    exact ⟨none, 0, rfl, Nat.le_refl _, Nat.zero_le _, Rd.nil, fun ad e => by cases e⟩
  · refine ⟨_, cap, rfl, h1, h2, Rd.block hg (fun j hj => ?_), fun ad e => ?_⟩
    · have h5 : (cur.toList.take (l.length * 1))[j]? = (l.map (Value.int k))[j]? := by rw [h4]
      rw [List.getElem?_take, if_pos (by omega)] at h5
      have h6 : cur[j]? = cur.toList[j]? := by simp
      rw [h6, h5]
      simp [List.getElem?_eq_getElem hj, List.getD_eq_getElem?_getD]
    · injection e with e; subst e
      exact ⟨hB, (Array.getElem?_eq_some_iff.1 hg).1, rfl⟩
theorem OwnI.kept {F : Nat → Prop} (h : OwnI k w B e v l) (hc : Chg F w w') (hF : ∀ g, v.ownBlock = some g → ¬ F g) : OwnI k w' B e v l := by
  refine ⟨h.1, ?_⟩
  rcases h.2 with hn | ⟨g, cap, cur, rfl, hb, hgg, rest⟩
  · exact .inl hn
  · refine .inr ⟨g, cap, cur, rfl, hb, ?_, rest⟩
    rw [hc.block g (Array.getElem?_eq_some_iff.1 hgg).1 (hF g rfl)]
    exact hgg
theorem OwnI.new (h : OwnI k w B e v l) (hb : Below w.heap.size w w') : OwnI k w' B e v l := h.kept (Chg.of_new hb) (fun _ _ hf => hf)
theorem OwnI.alloc (h : OwnI k w B e v l) (o : Obj) : OwnI k (w.alloc o) B e v l := h.kept (Chg.alloc w o) (fun _ _ hf => hf)
theorem OwnI.lower {B' : Nat} (h : OwnI k w B e v l) (hB : B' ≤ B) : OwnI k w B' e v l := by
  refine ⟨h.1, ?_⟩
  rcases h.2 with hn | ⟨g, cap, cur, rfl, hb, rest⟩
  · exact .inl hn
  · exact .inr ⟨g, cap, cur, rfl, Nat.le_trans hB hb, rest⟩
theorem OwnI.lt (h : OwnI k w B e v l) : ∀ g, v.ownBlock = some g → B ≤ g ∧ g < w.heap.size := World.ownsRow.lt h
/-- One number is written over. -/
theorem OwnI.set {g n c j : Nat} {x : Int} (h : OwnI k w B e (.slice (some ⟨g, 0, none⟩) n c) l) (hj : j < l.length) : OwnI k (w.setCell ⟨g, j, none⟩ (.int k x)) B e (.slice (some ⟨g, 0, none⟩) n c) (l.set j x) := by
  refine ⟨by simp, ?_⟩
  rcases h.2 with ⟨h1, _⟩ | ⟨g', cap, cur, h1, hB, hg, h2, h3, h4, h5⟩
  · cases h1
  · injection h1 with h1 h6 h7
    injection h1 with h1
    injection h1 with h1
    subst h1 h7 h6
    refine .inr ⟨g, c, cur.setIfInBounds j (.int k x), by rw [List.length_set], hB, heap_setCell_same _ _ _ _ _ _ hg, by rw [List.length_set]; exact h2, h3, by rw [Array.size_setIfInBounds]; exact h4, ?_⟩
    rw [List.length_set, Array.toList_setIfInBounds, List.take_set, h5, List.map_set]
theorem OwnI.cell {g n c j : Nat} (h : OwnI k w B e (.slice (some ⟨g, 0, none⟩) n c) l) (hj : j < l.length) : w.cell? ⟨g, j, none⟩ = some (.int k (l.getD j 0)) ∧ w.frozen? ⟨g, j, none⟩ = false ∧ B ≤ g ∧ g < w.heap.size ∧ n = l.length ∧ n ≤ c := by
  rcases h.2 with ⟨h1, _⟩ | ⟨g', cap, cur, h1, hB, hg, h2, h3, h4, h5⟩
  · cases h1
  · injection h1 with h1 h6 h7
    injection h1 with h1
    injection h1 with h1
    subst h1 h7
    refine ⟨?_, frozen_of_row _ _ _ _ _ hg, hB, (Array.getElem?_eq_some_iff.1 hg).1, h6, by omega⟩
    have h8 : (cur.toList.take (l.length * 1))[j]? = (l.map (Value.int k))[j]? := by rw [h5]
    rw [List.getElem?_take, if_pos (by omega)] at h8
    rw [cell_of_row _ _ _ _ _ _ hg]
    have h9 : cur[j]? = cur.toList[j]? := by simp
    rw [h9, h8]
    simp [List.getElem?_eq_getElem hj, List.getD_eq_getElem?_getD]
/-- A row that is not empty lies in a block. -/
theorem OwnI.ptr (h : OwnI k w B e v l) (hl : 0 < l.length) : ∃ g c, v = .slice (some ⟨g, 0, none⟩) l.length c := by
  obtain ⟨A, c, rfl, _, _, hr, hA⟩ := h.slice
  obtain ⟨ad, rfl, _⟩ := hr (by intro e; rw [e] at hl; exact absurd hl (Nat.lt_irrefl _))
  exact ⟨ad.block, c, by rw [(hA ad rfl).2.2]⟩
/-- Two values do not share their blocks. -/
def Sep (v u : Value) : Prop := ∀ g, v.ownBlock = some g → u.ownBlock ≠ some g
theorem Sep.nil (u : Value) : Sep (.slice none 0 0) u := fun g h => by simp [Value.ownBlock] at h
theorem Sep.symm {v u : Value} (h : Sep v u) : Sep u v := fun g h1 h2 => h g h2 h1
/-- Behind an append to v: u stays apart. -/
theorem Sep.grow {v u v' : Value} {n : Nat} (h : Sep v u) (hv : v'.ownBlock = v.ownBlock ∨ ∃ g, v'.ownBlock = some g ∧ n ≤ g) (hu : ∀ g, u.ownBlock = some g → g < n) : Sep v' u := by
  intro g h1 h2
  rcases hv with hv | ⟨g', h3, h4⟩
  · rw [hv] at h1; exact h g h1 h2
  · rw [h1] at h3; injection h3 with h3; subst h3; exact Nat.not_le.2 (hu g h2) h4
/-- Behind an append to v: what u holds stays. -/
theorem OwnI.other {u : Value} {m : List Int} (h : OwnI k w B e u m) (hc : Chg (fun k => some k = v.ownBlock) w w') (hs : Sep v u) : OwnI k w' B e u m :=
  h.kept hc fun g hg hf => hs g hf.symm hg
/-- A block that was just laid. -/
theorem OwnI.made (w : World) (k : IntKind) (l : List Int) (e : TypeId) (cs : Array Value) (hcs : cs = (l.map (Value.int k)).toArray) (hB : B ≤ w.heap.size) (hl : l.length ≤ maxLen) :
    OwnI k (w.alloc (.cells cs e)) B e (.slice (some ⟨w.heap.size, 0, none⟩) l.length l.length) l := by
  refine ⟨by simp, .inr ⟨_, _, cs, rfl, hB, heap_alloc_new _ _, Nat.le_refl _, hl, by subst hcs; simp, ?_⟩⟩
  subst hcs
  rw [Nat.mul_one]
  exact List.take_of_length_le (by simp)
end
section
variable {P : Program} {w : World} {k : IntKind} {B : Nat} {e : TypeId} {v : Value} {l : List Int}
theorem ap_run (t ty : TypeId) (z : Value) (bytes : Nat) (ht : P.underlying t = some (.slice e)) (hinfo : (P.info? e).map (fun i => (i.zero, i.size, i.bytes)) = some (some z, 1, bytes)) (hz : z.cells.size = 1)
    (hown : OwnI k w B e v l) (X : Option Addr) (n c : Nat) (news : List Int) (hn : news.length = n) (hX : Rd k w X news) (hXn : X = none → n = 0) (h63 : l.length + n ≤ maxLen) (hb : (l.length + n) * bytes ≤ 140737488355328) (hbase : B ≤ w.heap.size) :
    ∃ v' w', (Builtin.append_ #[t, t] ty #[v, .slice X n c]).run P w = .ok v' w' ∧ OwnI k w' B e v' (l ++ news) ∧ w.grownBy w' v.ownBlock ∧ (v'.ownBlock = v.ownBlock ∨ v'.ownBlock = some w.heap.size) := by
  obtain ⟨i, hi, hzz⟩ := Option.map_eq_some_iff.1 hinfo
  simp only [Prod.mk.injEq] at hzz
  obtain ⟨hz0, hs, hby⟩ := hzz
  subst hn
  cases X with
  | some ad =>
    obtain ⟨v', w', h1, h2, h3, _, h5⟩ := run_append_own_at (P := P) w B t ty e i z 1 bytes ht hi hz0 hs hby hz (by omega) v l.length (l.map (Value.int k)) hown ad news.length c (news.map (Value.int k)) (by simp)
      (fun j u hu => by
        have hj : j < news.length := by
          have := (List.getElem?_eq_some_iff.1 hu).1; simpa using this
        obtain ⟨ad', e', _, hc⟩ := hX.cell hj
        cases e'
        rw [hc, ← hu]
        simp [List.getElem?_eq_getElem hj, List.getD_eq_getElem?_getD])
      (fun u hu => by obtain ⟨x, _, rfl⟩ := List.mem_map.1 hu; rfl) h63 hb hbase
    refine ⟨v', w', h1, ?_, h3, h5⟩
    unfold OwnI
    rw [List.length_append, List.map_append]
    exact h2
  | none =>
    obtain rfl : news = [] := List.eq_nil_of_length_eq_zero (hXn rfl)
    obtain ⟨A, c', rfl, h1, h2, _⟩ := hown.slice
    refine ⟨_, w, ?_, by rw [List.append_nil]; exact hown, ⟨rfl, rfl, rfl, Nat.le_refl _, fun _ _ _ => rfl⟩, .inl rfl⟩
    simp only [Builtin.append_, Sem.run_bind, run_underlying ht, Result.andThen_ok]
    have hu : ((TypeDesc.slice e) matches .int _) = false := rfl
    simp [sizeOf, typeInfo, hi, hs, Builtin.lenOf, h1, Builtin.firstCells, run_underlying ht]
    cases A <;> simp [storeCells]
/-- A slice type of whole numbers, its facts. -/
structure RowTy (P : Program) (t e : TypeId) (k : IntKind) : Prop where
  ht : P.underlying t = some (.slice e)
  hi : ∃ bytes, bytes ≤ 8 ∧ (P.info? e).map (fun i => (i.zero, i.size, i.bytes)) = some (some (.int k 0), 1, bytes)
theorem ap_wp {w0 : World} {K : Act → World → Prop} {Q : Exit → Act → World → Prop} {o : Oper} {a : Act} {t : TypeId} (T : RowTy P t e k) (bd : Below w0.heap.size w0 w) (hown : OwnI k w w0.heap.size e v l) {X : Option Addr} {news : List Int} (hX : Rd k w X news) (hXn : X = none → news = [])
    (hb : l.length + news.length ≤ 17592186044416) (s x : Operand) (n c : Nat) (ho : o.op = .call { callee := .builtin .append, args := #[s, x], argTypes := #[t, t] }) (hs : a.eval s = v) (hx : a.eval x = .slice X n c) (hn : news.length = n)
    (h : ∀ v' w', OwnI k w' w0.heap.size e v' (l ++ news) → Below w0.heap.size w0 w' → w.grownBy w' v.ownBlock → (v'.ownBlock = v.ownBlock ∨ v'.ownBlock = some w.heap.size) → K (a.put o.dst v') w') : Oper.wp P o a w K Q := by
  obtain ⟨bytes, hle, hinfo⟩ := T.hi
  subst hn
  have hmul : (l.length + news.length) * bytes ≤ (l.length + news.length) * 8 := Nat.mul_le_mul_left _ hle
  obtain ⟨v', w', hr, h2, h3, h4⟩ := ap_run (P := P) t o.type (.int k 0) bytes T.ht hinfo rfl hown X news.length c news rfl hX (fun e => by rw [hXn e]; rfl) (by unfold maxLen; omega) (by omega) bd.size
  unfold Oper.wp execOp
  simp only [ho, resolve, invoke, builtin, Sem.run_bind, Sem.run_pure, Result.andThen_ok, List.map_toArray, List.map_cons, List.map_nil, hs, hx, hr]
  exact h v' w' h2 (bd.grown h3 bd.size fun k hk => (hown.lt k hk).1) h3 h4
theorem ap_list {w0 : World} {ops : Array Oper} {rest : List Oper} {Q : Exit → Act → World → Prop} {o : Oper} {a : Act} {t : TypeId} (hgd : o.guard = none) (T : RowTy P t e k) (bd : Below w0.heap.size w0 w) (hown : OwnI k w w0.heap.size e v l) {X : Option Addr} {news : List Int} (hX : Rd k w X news) (hXn : X = none → news = [])
    (hb : l.length + news.length ≤ 17592186044416) (s x : Operand) (n c : Nat) (ho : o.op = .call { callee := .builtin .append, args := #[s, x], argTypes := #[t, t] }) (hs : a.eval s = v) (hx : a.eval x = .slice X n c) (hn : news.length = n)
    (h : ∀ v' w', OwnI k w' w0.heap.size e v' (l ++ news) → Below w0.heap.size w0 w' → w.grownBy w' v.ownBlock → (v'.ownBlock = v.ownBlock ∨ v'.ownBlock = some w.heap.size) → wpList P ops Q rest (a.put o.dst v') w') : wpList P ops Q (o :: rest) a w :=
  wpList_plain hgd fun _ hK => ap_wp T bd hown hX hXn hb s x n c ho hs hx hn fun v' w' h1 h2 h3 h4 => hK _ _ (h v' w' h1 h2 h3 h4)
theorem Rd.lit (w : World) (k : IntKind) (l : List Int) (cs : Array Value) (t : TypeId) (fr : Nat × Nat) (hc : cs = (l.map (Value.int k)).toArray) : Rd k (w.alloc (.cells cs t fr)) (some ⟨w.heap.size, 0, none⟩) l := by
  refine Rd.block (heap_alloc_new _ _) (fun j hj => ?_)
  subst hc
  simp [List.getElem?_eq_getElem hj, List.getD_eq_getElem?_getD]
/-- What is appended is a literal that was just laid. -/
theorem ap_lit {w0 : World} {ops : Array Oper} {rest : List Oper} {Q : Exit → Act → World → Prop} {o : Oper} {a : Act} {t t' : TypeId} {cs : Array Value} (hgd : o.guard = none) (T : RowTy P t e k) (bd : Below w0.heap.size w0 w) (hown : OwnI k w w0.heap.size e v l) (news : List Int) (hcs : cs = (news.map (Value.int k)).toArray)
    (hb : l.length + news.length ≤ 17592186044416) (s x : Operand) (n c : Nat) (ho : o.op = .call { callee := .builtin .append, args := #[s, x], argTypes := #[t, t] }) (hs : a.eval s = v) (hx : a.eval x = .slice (some ⟨w.heap.size, 0, none⟩) n c) (hn : news.length = n)
    (h : ∀ v' w', OwnI k w' w0.heap.size e v' (l ++ news) → Below w0.heap.size w0 w' → Chg (fun k => some k = v.ownBlock) w w' → (v'.ownBlock = v.ownBlock ∨ ∃ g, v'.ownBlock = some g ∧ w.heap.size ≤ g) → wpList P ops Q rest (a.put o.dst v') w') : wpList P ops Q (o :: rest) a (w.alloc (.cells cs t')) :=
  ap_list hgd T (bd.alloc bd.size _) (hown.alloc _) (Rd.lit w k news cs t' (0, 0) hcs) (fun e => by cases e) hb s x n c ho hs hx hn fun v' w' h1 h2 h3 h4 =>
    h v' w' h1 h2 (((Chg.alloc w _).then (Chg.of_grown h3)).mono (fun k _ hf => hf.elim False.elim id)) (h4.imp id fun e => ⟨_, e, by simp⟩)
/-- The same with a literal, in a region that draws its order. -/
theorem ap_lit_wp {w0 : World} {K : Act → World → Prop} {Q : Exit → Act → World → Prop} {o : Oper} {a : Act} {t t' : TypeId} {cs : Array Value} (T : RowTy P t e k) (bd : Below w0.heap.size w0 w) (hown : OwnI k w w0.heap.size e v l) (news : List Int) (hcs : cs = (news.map (Value.int k)).toArray)
    (hb : l.length + news.length ≤ 17592186044416) (s x : Operand) (n c : Nat) (ho : o.op = .call { callee := .builtin .append, args := #[s, x], argTypes := #[t, t] }) (hs : a.eval s = v) (hx : a.eval x = .slice (some ⟨w.heap.size, 0, none⟩) n c) (hn : news.length = n)
    (h : ∀ v' w', OwnI k w' w0.heap.size e v' (l ++ news) → Below w0.heap.size w0 w' → Chg (fun k => some k = v.ownBlock) w w' → (v'.ownBlock = v.ownBlock ∨ ∃ g, v'.ownBlock = some g ∧ w.heap.size ≤ g) → K (a.put o.dst v') w') : Oper.wp P o a (w.alloc (.cells cs t')) K Q :=
  ap_wp T (bd.alloc bd.size _) (hown.alloc _) (Rd.lit w k news cs t' (0, 0) hcs) (fun e => by cases e) hb s x n c ho hs hx hn fun v' w' h1 h2 h3 h4 =>
    h v' w' h1 h2 (((Chg.alloc w _).then (Chg.of_grown h3)).mono (fun k _ hf => hf.elim False.elim id)) (h4.imp id fun e => ⟨_, e, by simp⟩)
/-- What is copied into an own row. -/
theorem copy_run {g c : Nat} (dT sT ty elem : TypeId) (hu : P.underlying dT = some (.slice elem)) (hs : (P.info? elem).map (·.size) = some 1) (h : OwnI k w B e (.slice (some ⟨g, 0, none⟩) l.length c) l) (off : Nat) (D : Option Addr) (dLen dCap : Nat) (X : Option Addr) (sLen sCap : Nat) (src : List Int)
    (hD : src ≠ [] → D = some ⟨g, off, none⟩) (hX : Rd k w X src) (hn : src.length = Nat.min sLen dLen) (hfit : off + src.length ≤ l.length) :
    ∃ w', (Builtin.copy_ #[dT, sT] ty #[.slice D dLen dCap, .slice X sLen sCap]).run P w = .ok (goInt src.length) w' ∧ OwnI k w' B e (.slice (some ⟨g, 0, none⟩) l.length c) (splice l off src) ∧ Chg (fun k => k = g) w w' := by
  by_cases h0 : src = []
  · subst h0
    refine ⟨w, run_copy_none w dT sT ty elem D X dLen dCap sLen sCap hu hs (by simpa using hn.symm), ?_, Chg.refl _ _⟩
    have : splice l off ([] : List Int) = l := by simp [splice]
    rw [this]; exact h
  · obtain rfl := hD h0
    obtain ⟨ad, rfl, h1, h2⟩ := hX h0
    rcases h.2 with ⟨h3, _⟩ | ⟨g', cap, cur, h3, hB, hg, h4, h5, h6, h7⟩
    · cases h3
    · injection h3 with h3 h8 h9
      injection h3 with h3
      injection h3 with h3
      subst h3 h9
      have hr := run_copy_row (P := P) w dT sT ty elem g off dLen dCap ad sLen sCap cur e (src.map (Value.int k)) hu hs hg (by rw [List.length_map]; exact hn) (fun j v hj => by
        have hjl : j < src.length := by
          rcases Nat.lt_or_ge j src.length with h | h
          · exact h
          · simp [List.getElem?_eq_none (show (src.map (Value.int k)).length ≤ j by simpa using h)] at hj
        rw [h2 j hjl]
        simp [List.getElem?_eq_getElem hjl] at hj
        subst hj
        simp [List.getD, List.getElem?_eq_getElem hjl]) (by rw [List.length_map]; omega) (fun v hv => by obtain ⟨x, _, rfl⟩ := List.mem_map.1 hv; rfl)
      rw [List.length_map] at hr
      have hsz : off + src.length ≤ cur.toList.length := by simp; omega
      refine ⟨_, hr, ⟨by simp, .inr ⟨g, c, _, by rw [length_splice _ _ _ hfit], hB, setRow_heap w g cur _ e _ hg, by rw [length_splice _ _ _ hfit]; exact h4, h5, ?_, ?_⟩⟩, ⟨rfl, rfl, rfl, by simp [World.setRow], fun j hj hn' => setRow_other w g j _ hn'⟩⟩
      · simp; omega
      · rw [length_splice _ _ _ hfit, Nat.mul_one]
        have h7' : cur.toList.take l.length = l.map (Value.int k) := by rw [← h7, Nat.mul_one]
        simp only [splice, List.map_append, List.map_take, List.map_drop]
        rw [← h7']
        simp only [List.take_append, List.length_take, List.length_append, List.length_map, List.length_drop, List.append_assoc, List.take_take, List.drop_take]
        rw [show min l.length off = off by omega, show min off cur.toList.length = off by omega, List.take_of_length_le (l := List.map (Value.int k) src) (by rw [List.length_map]; omega), show l.length - off - src.length = l.length - (off + src.length) by omega, show min off l.length = off by omega]
theorem copy_list {ops : Array Oper} {rest : List Oper} {Q : Exit → Act → World → Prop} {o : Oper} {a : Act} {g c : Nat} (hgd : o.guard = none) (d s : Operand) (dT sT elem : TypeId) (ho : o.op = .call { callee := .builtin .copy, args := #[d, s], argTypes := #[dT, sT] })
    (hu : P.underlying dT = some (.slice elem)) (hs : (P.info? elem).map (·.size) = some 1) (h : OwnI k w B e (.slice (some ⟨g, 0, none⟩) l.length c) l) (off : Nat) (D : Option Addr) (dLen dCap : Nat) (X : Option Addr) (sLen sCap : Nat) (src : List Int)
    (hd : a.eval d = .slice D dLen dCap) (hss : a.eval s = .slice X sLen sCap)
    (hD : src ≠ [] → D = some ⟨g, off, none⟩) (hX : Rd k w X src) (hn : src.length = Nat.min sLen dLen) (hfit : off + src.length ≤ l.length)
    (hK : ∀ w', OwnI k w' B e (.slice (some ⟨g, 0, none⟩) l.length c) (splice l off src) → Chg (fun k => k = g) w w' → wpList P ops Q rest (a.put o.dst (goInt src.length)) w') : wpList P ops Q (o :: rest) a w := by
  obtain ⟨w', hr, h1, h2⟩ := copy_run (P := P) dT sT o.type elem hu hs h off D dLen dCap X sLen sCap src hD hX hn hfit
  refine wpList_plain hgd fun K hK' => ?_
  unfold Oper.wp
  simp [execOp, ho, resolve, invoke, builtin, hd, hss, hr, Result.andThen]
  exact hK' _ _ (hK w' h1 h2)
theorem copy_list_m {ops : Array Oper} {rest : List Oper} {Q : Exit → Act → World → Prop} {o : Oper} {a : Act} {g c m : Nat} (hm : l.length = m) (hgd : o.guard = none) (d s : Operand) (dT sT elem : TypeId) (ho : o.op = .call { callee := .builtin .copy, args := #[d, s], argTypes := #[dT, sT] })
    (hu : P.underlying dT = some (.slice elem)) (hs : (P.info? elem).map (·.size) = some 1) (h : OwnI k w B e (.slice (some ⟨g, 0, none⟩) m c) l) (off : Nat) (D : Option Addr) (dLen dCap : Nat) (X : Option Addr) (sLen sCap : Nat) (src : List Int)
    (hd : a.eval d = .slice D dLen dCap) (hss : a.eval s = .slice X sLen sCap)
    (hD : src ≠ [] → D = some ⟨g, off, none⟩) (hX : Rd k w X src) (hn : src.length = Nat.min sLen dLen) (hfit : off + src.length ≤ m)
    (hK : ∀ w', OwnI k w' B e (.slice (some ⟨g, 0, none⟩) m c) (splice l off src) → Chg (fun k => k = g) w w' → wpList P ops Q rest (a.put o.dst (goInt src.length)) w') : wpList P ops Q (o :: rest) a w := by
  subst hm
  exact copy_list hgd d s dT sT elem ho hu hs h off D dLen dCap X sLen sCap src hd hss hD hX hn hfit hK
end
end Go.Proofs.YticnjkdaccacaaaGreatDoor.Own
end
section
/- The twin of a list, and whether it was left as it was. -/
namespace Go.Proofs.YticnjkdaccacaaaGreatDoor.TwinIds
open Go.RowKit Base Own

/-- A row of the call's own with one number more behind it. -/
def Twn (w : World) (B : Nat) (v : Value) (l : List Int) : Prop :=
  ∃ g c, v = .slice (some ⟨g, 0, none⟩) l.length c ∧ OwnI .u32 w B 86 (.slice (some ⟨g, 0, none⟩) (l.length + 1) c) (l ++ [77])
theorem Twn.new {w w' : World} {B : Nat} {v : Value} {l : List Int} (h : Twn w B v l) (hb : Below w.heap.size w w') : Twn w' B v l := by
  obtain ⟨g, c, h1, h2⟩ := h
  exact ⟨g, c, h1, h2.new hb⟩
theorem Twn.lower {w : World} {B B' : Nat} {v : Value} {l : List Int} (h : Twn w B v l) (hB : B' ≤ B) : Twn w B' v l := by
  obtain ⟨g, c, h1, h2⟩ := h
  exact ⟨g, c, h1, h2.lower hB⟩
theorem Twn.reads {w : World} {B : Nat} {v : Value} {l : List Int} (h : Twn w B v l) : ∃ g c, v = .slice (some ⟨g, 0, none⟩) l.length c ∧ l.length < c ∧ B ≤ g ∧ g < w.heap.size ∧ Rd .u32 w (some ⟨g, 0, none⟩) l := by
  obtain ⟨g, c, h1, h2⟩ := h
  have h3 := h2.cell (j := l.length) (by simp)
  obtain ⟨A, c', e, _, _, hr, _⟩ := h2.slice
  injection e with e1 e2 e3
  subst e1
  have := hr.take l.length
  rw [List.take_left] at this
  exact ⟨g, c, h1, by omega, h3.2.2.1, h3.2.2.2.1, this⟩
theorem tyI : RowTy Tryz.prog 91 86 .u32 := ⟨Tryz.underlying91, 4, by decide, by kernel_rfl⟩
theorem info1 : (Tryz.prog.info? 86).map (·.size) = some 1 := by kernel_rfl
theorem mk0 (n : Nat) (hn : n ≤ 1000000000000) : ∀ W : World, (Instr.makeSlice 91 (.int .i64 0) (.int .i64 ((n : Int) + 1))).run Tryz.prog W = .ok (.slice (some ⟨W.heap.size, 0, none⟩) 0 (n + 1)) (W.alloc (.cells (madeCells #[.int .u32 0] (n + 1)) 86)) := by
  intro W
  obtain ⟨i, hi, hzz⟩ := Option.map_eq_some_iff.1 (show (Tryz.prog.info? 86).map (fun i => (i.zero, i.size, i.bytes)) = some (some (.int .u32 0), 1, 4) by kernel_rfl)
  simp only [Prod.mk.injEq] at hzz
  obtain ⟨hz0, hs, hby⟩ := hzz
  have h := run_make (P := Tryz.prog) W 91 86 i (.int .u32 0) Tryz.underlying91 hi hz0 .i64 .i64 0 ((n : Int) + 1) (by omega) (by omega) (by rw [hby]; omega) (by omega)
  rw [h, hs]
  simp only [Int.toNat_zero]
  have : ((n : Int) + 1).toNat = n + 1 := by omega
  rw [this, Nat.mul_one]
  rfl

set_option maxRecDepth 100000 in
theorem twin (A : Option Addr) (c : Nat) (l : List Int) (w : World) (hl : l.length ≤ 100000000000) (hr : Rd .u32 w A l) :
    Calls Tryz.prog 49 #[.slice A l.length c] w fun e w' => ∃ v, e = .returned v ∧ Twn w' w.heap.size v l ∧ Below w.heap.size w w' := by
  have HR := Lib.hid hr
  clear hr
  have hmk := mk0 l.length (by omega)
  go_enter Tryz.func49, Tryz.ntmps49
  go_wp2
  go_loopw [3, 4] (fun v i wr => ∃ k : Nat, k ≤ l.length ∧ i = .int .i64 k ∧ Hid (OwnI .u32 wr w.heap.size 86 v (l.take k)) ∧ Hid (Below w.heap.size w wr)) (fun _ i _ => l.length - (intOf i).toNat)
  case atStart =>
    refine ⟨0, by omega, rfl, ?_, (Below.refl _ _).alloc (Nat.le_refl _) _⟩
    exact World.ownsRow_made w _ (l.length + 1) (Nat.le_refl _) (by unfold maxLen; omega) (by rw [size_madeCells]; omega)
  case round =>
    clear hmk
    obtain ⟨k, hk, rfl, hown, hbd⟩ := hrel
    by_cases hlt : k < l.length
    · obtain ⟨ad, e, hb, hcell⟩ := (HR.out.below hbd.out).cell hlt
      subst e
      obtain ⟨y, hy⟩ : ∃ y, y = l.getD k 0 := ⟨_, rfl⟩
      rw [← hy] at hcell
      have HY := Lib.hid hy
      clear hy
      go_wp2_with (at_builtin; refine ap_lit rfl tyI hbd.out hown.out [y] rfl (by simp; omega) (.tmp 15) _ 1 1 rfl rfl rfl rfl ?_; clear hown hbd hcell hb; intro v2 w2 own2 bd2 _ _; have H2 := Lib.hid (And.intro own2 bd2); clear own2 bd2)
      go_roundw
      case rel =>
        refine ⟨k + 1, by omega, by go_num, ?_, H2.out.2⟩
        have h1 := H2.out.1
        rw [HY.out] at h1
        have : l.take (k + 1) = l.take k ++ [l.getD k 0] := by rw [List.take_succ_eq_append_getElem hlt, List.getD_eq_getElem?_getD, List.getElem?_eq_getElem hlt]; rfl
        rw [this]
        exact h1
      case measure => simp [intOf]; omega
    · obtain rfl : k = l.length := by omega
      have hown' := hown.out
      rw [List.take_length] at hown'
      have HO := Lib.hid hown'
      clear hown hown'
      go_wp2_with (at_builtin; refine ap_lit rfl tyI hbd.out HO.out [77] rfl (by simp; omega) (.tmp 22) _ 1 1 rfl rfl rfl rfl ?_; clear HO hbd; intro v2 w2 own2 bd2 _ _; obtain ⟨g, cc, rfl⟩ := own2.ptr (by simp); have hcc := (own2.cell (j := l.length) (by simp)).2.2.2.2.2; have hcc' : l.length ≤ cc := Nat.le_trans (by rw [List.length_append]; exact Nat.le_add_right _ _) hcc; have hsl := sl_take (P := Tryz.prog) 91 86 .i64 Tryz.underlying91 info1 (some ⟨g, 0, none⟩) (l ++ [77]).length cc l.length hcc'; have H2 := Lib.hid (And.intro own2 bd2); clear own2 bd2 hcc)
      go_ret
      refine ⟨_, rfl, ⟨g, cc, rfl, ?_⟩, H2.out.2⟩
      have h1 := H2.out.1
      have h2 : (l ++ [77]).length = l.length + 1 := by simp
      rwa [h2] at h1

set_option maxRecDepth 100000 in
theorem left (v : Value) (A : Option Addr) (c B : Nat) (l : List Int) (w : World) (hl : l.length ≤ 100000000000) (ht : Twn w B v l) (hr : Rd .u32 w A l) :
    Calls Tryz.prog 52 #[v, .slice A l.length c] w fun e w' => e = .returned (.bool true) ∧ Below w.heap.size w w' := by
  obtain ⟨g, cc, rfl, hown⟩ := ht
  have hcc0 := (hown.cell (j := l.length) (by simp)).2.2.2.2.2
  have hcc : l.length < cc := hcc0
  clear hcc0
  have hne : ((l.length : Int) != (l.length : Int)) = false := by rw [bne_eq_false_iff_eq]
  have hle : ¬ (cc : Int) ≤ (l.length : Int) := by omega
  have HR := Lib.hid hr
  have HO := Lib.hid hown
  clear hr hown
  go_enter Tryz.func52, Tryz.ntmps52
  go_wp2
  go_loopw [5] (fun i wr => ∃ k : Nat, k ≤ l.length ∧ i = .int .i64 k ∧ Hid (Below w.heap.size w wr)) (fun i _ => l.length - (intOf i).toNat)
  case atStart => exact ⟨0, by omega, rfl, Below.refl _ _⟩
  case round =>
    obtain ⟨k, hk, rfl, hbd⟩ := hrel
    have hown2 := HO.out.new hbd.out
    by_cases hlt : k < l.length
    · obtain ⟨ad, e, hb, hcell⟩ := (HR.out.below hbd.out).cell hlt
      subst e
      have hcell2 := (hown2.cell (j := k) (by simp; omega)).1
      have hk2 : (l ++ [77]).getD k 0 = l.getD k 0 := by rw [List.getD_eq_getElem?_getD, List.getD_eq_getElem?_getD, List.getElem?_append_left hlt]
      rw [hk2] at hcell2
      generalize l.getD k 0 = y at hcell hcell2
      clear hk2
      have HO2 := Lib.hid hown2
      have HC := Lib.hid (And.intro hcell hcell2)
      clear hown2 hcell hcell2 hb
      have ha : (⟨g, 0, none⟩ : Addr).add k = ⟨g, k, none⟩ := by unfold Addr.add; split <;> simp_all
      go_wp2_with fail
      refine wp_region_sl [.one (0, true, some 25), .one (1, true, some 26), .one (2, true, some 27), .one (3, true, some 28), .one (4, true, some 29), .one (5, true, some 30), .one (6, true, some 31), .one (7, true, some 32), .one (8, true, some 33)]
                [.one ⟨true, some 25, (Go.Op.move (Go.Operand.tmp 0)), 91, none⟩,
                .one ⟨true, some 26, (Go.Op.move (Go.Operand.tmp 5)), 3, none⟩,
                .one ⟨true, some 27, (Go.Op.indexAddr 91 (Go.Operand.tmp 25) (Go.Operand.tmp 26)), 0, none⟩,
                .one ⟨true, some 28, (Go.Op.load 86 (Go.Operand.tmp 27)), 86, none⟩,
                .one ⟨true, some 29, (Go.Op.move (Go.Operand.tmp 1)), 91, none⟩,
                .one ⟨true, some 30, (Go.Op.move (Go.Operand.tmp 5)), 3, none⟩,
                .one ⟨true, some 31, (Go.Op.indexAddr 91 (Go.Operand.tmp 29) (Go.Operand.tmp 30)), 0, none⟩,
                .one ⟨true, some 32, (Go.Op.load 86 (Go.Operand.tmp 31)), 86, none⟩,
                .one ⟨true, some 33, (Go.Op.binOp Go.BinOp.neq 86 (Go.Operand.tmp 28) (Go.Operand.tmp 32) 86), 4, none⟩]
                (fun w' => w'.cell? (ad.add k) = some (.int .u32 y) ∧ w'.cell? ⟨g, k, none⟩ = some (.int .u32 y)) rfl (by kernel_rfl) (by kernel_rfl) ?_ ?_
      · exact HC.out
      (repeat (first | ((with_reducible refine sq (v := ?_) (a' := ?_) ?_ ?_ ?_); rotate_left 2; (focus (intro w' hS; go_simp; (first | done | with_reducible rfl | rfl))); (simp only [Act.put, List.setIfInBounds_toArray, List.set_cons_zero, List.set_cons_succ]; rfl)) | ((with_reducible refine sn (a' := ?_) ?_ ?_ ?_); rotate_left; (focus rfl); (simp only [Act.put, List.setIfInBounds_toArray, List.set_cons_zero, List.set_cons_succ]; rfl)) | ((with_reducible refine sf trivial (a' := ?_) ?_ ?_ ?_); rotate_left; (focus rfl); (simp only [Act.put, List.setIfInBounds_toArray, List.set_cons_zero, List.set_cons_succ]; rfl)) | ((with_reducible refine sqg (v := ?_) (a' := ?_) ?_ ?_ ?_ ?_); rotate_left 2; (focus rfl); (focus (intro w' hS; go_simp; (first | done | with_reducible rfl | rfl))); (simp only [Act.put, List.setIfInBounds_toArray, List.set_cons_zero, List.set_cons_succ]; rfl)))); (repeat ((go_bits; (first | ((with_reducible refine sq (v := ?_) (a' := ?_) ?_ ?_ ?_); rotate_left 2; (focus (intro w' hS; go_simp; (first | done | with_reducible rfl | rfl))); (simp only [Act.put, List.setIfInBounds_toArray, List.set_cons_zero, List.set_cons_succ]; rfl)) | ((with_reducible refine sn (a' := ?_) ?_ ?_ ?_); rotate_left; (focus rfl); (simp only [Act.put, List.setIfInBounds_toArray, List.set_cons_zero, List.set_cons_succ]; rfl)) | ((with_reducible refine sf trivial (a' := ?_) ?_ ?_ ?_); rotate_left; (focus rfl); (simp only [Act.put, List.setIfInBounds_toArray, List.set_cons_zero, List.set_cons_succ]; rfl)) | ((with_reducible refine sqg (v := ?_) (a' := ?_) ?_ ?_ ?_ ?_); rotate_left 2; (focus rfl); (focus (intro w' hS; go_simp; (first | done | with_reducible rfl | rfl))); (simp only [Act.put, List.setIfInBounds_toArray, List.set_cons_zero, List.set_cons_succ]; rfl)))); (repeat (first | ((with_reducible refine sq (v := ?_) (a' := ?_) ?_ ?_ ?_); rotate_left 2; (focus (intro w' hS; go_simp; (first | done | with_reducible rfl | rfl))); (simp only [Act.put, List.setIfInBounds_toArray, List.set_cons_zero, List.set_cons_succ]; rfl)) | ((with_reducible refine sn (a' := ?_) ?_ ?_ ?_); rotate_left; (focus rfl); (simp only [Act.put, List.setIfInBounds_toArray, List.set_cons_zero, List.set_cons_succ]; rfl)) | ((with_reducible refine sf trivial (a' := ?_) ?_ ?_ ?_); rotate_left; (focus rfl); (simp only [Act.put, List.setIfInBounds_toArray, List.set_cons_zero, List.set_cons_succ]; rfl)) | ((with_reducible refine sqg (v := ?_) (a' := ?_) ?_ ?_ ?_ ?_); rotate_left 2; (focus rfl); (focus (intro w' hS; go_simp; (first | done | with_reducible rfl | rfl))); (simp only [Act.put, List.setIfInBounds_toArray, List.set_cons_zero, List.set_cons_succ]; rfl)))))); (try go_bits)
      refine sl_end ?_
      go_wp2
      go_roundw
      case rel => exact ⟨k + 1, by omega, by go_num, hbd.out.drew⟩
      case measure => simp [intOf]; omega
    · obtain rfl : k = l.length := by omega
      have hcell := (hown2.cell (j := l.length) (by simp)).1
      have h77 : (l ++ [77]).getD l.length 0 = 77 := by rw [List.getD_eq_getElem?_getD, List.getElem?_append_right (Nat.le_refl _)]; simp
      rw [h77] at hcell
      clear hown2 h77
      have hsl := sl_take (P := Tryz.prog) 91 86 .i64 Tryz.underlying91 info1 (some ⟨g, 0, none⟩) l.length cc (l.length + 1) (by omega)
      rw [show ((l.length + 1 : Nat) : Int) = (l.length : Int) + 1 from by omega] at hsl
      have ha : (⟨g, 0, none⟩ : Addr).add l.length = ⟨g, l.length, none⟩ := by unfold Addr.add; split <;> simp_all
      go_wp2
      go_ret
      exact ⟨rfl, hbd.out⟩
end Go.Proofs.YticnjkdaccacaaaGreatDoor.TwinIds
end
section
/- Regions of two phases: what reads and reckons, and then what writes. -/
namespace Go.Proofs.YticnjkdaccacaaaGreatDoor.Base
open Go Go.RowKit

section
variable {P : Program} {ops : Array Oper} {Q : Exit → Act → World → Prop} {S1 S2 : World → Prop} {Y : Nat → Nat} {l : Array Bool}
/-- What holds behind an operation: of those that but reckon (0) all is as it was; of those of the first phase (1) S1 holds, of those of the second one (2) S2. -/
def cnd (S1 S2 : World → Prop) (y : Nat) (w w' : World) : Prop := if y = 0 then w' = w else if y = 1 then S1 w' else S2 w'
/-- Whatever order is picked. -/
def wpAnyP (P : Program) (ops : Array Oper) (Q : Exit → Act → World → Prop) (S1 S2 : World → Prop) (Y : Nat → Nat) : Nat → Array Bool → Act → World → Prop
  | 0, l, a, w => Region.ready .any ops l = [] ∧ Q .normal a w
  | n + 1, l, a, w => (Region.ready .any ops l = [] → Q .normal a w) ∧ ∀ i ∈ Region.ready .any ops l, wpOp P ops Q i (fun a' w' => cnd S1 S2 (Y i) w w' ∧ wpAnyP P ops Q S1 S2 Y n (l.setIfInBounds i true) a' w') a w
theorem wpAny_of_P : ∀ (n : Nat) (l : Array Bool) (a : Act) (w : World), wpAnyP P ops Q S1 S2 Y n l a w → wpAny P .any ops Q n l a w
  | 0, _, _, _, h => h
  | n + 1, _, _, _, h => ⟨h.1, fun i hi => wpOp_mono (fun a' w' h' => wpAny_of_P n _ a' w' h'.2) (h.2 i hi)⟩
theorem unset {i j : Nat} (h : (l.setIfInBounds i true).getD j true = false) : l.getD j true = false ∧ i ≠ j := by
  by_cases hij : i = j
  · subst hij
    rw [Array.getD_eq_getD_getElem?] at h
    by_cases hl : i < l.size
    · simp [hl] at h
    · simp [hl] at h
  · rw [getD_set_ne true hij] at h; exact ⟨h, hij⟩
theorem P_of_H : ∀ (n : Nat) (l : Array Bool) (a : Act) (w : World), (∀ i, l.getD i true = false → Y i = 2) → wpAnyH P .any ops Q S2 n l a w → wpAnyP P ops Q S1 S2 Y n l a w
  | 0, _, _, _, _, h => h
  | n + 1, l, a, w, hy, h => ⟨h.1, fun i hi => wpOp_mono (fun a' w' h' => ⟨by rw [hy i (mem_ready.1 hi).1]; exact h'.1, P_of_H n _ a' w' (fun j hj => hy j (unset hj).1) h'.2⟩) (h.2 i hi)⟩
def Clo (ops : Array Oper) (l : Array Bool) : Prop := ∀ j o, l.getD j false = true → ops[j]? = some o → ∀ e ∈ o.after, Region.binds .any e = true → l.getD e.on false = true
theorem Clo.set {i : Nat} (h : Clo ops l) (hi : i ∈ Region.ready .any ops l) : Clo ops (l.setIfInBounds i true) := by
  intro j o hj ho e he hb
  by_cases hij : i = j
  · subst hij
    obtain ⟨_, o', ho', hall⟩ := mem_ready.1 hi
    rw [ho] at ho'; injection ho' with ho'; subst ho'
    exact getD_set_true (hall e he hb)
  · rw [getD_set_ne false hij] at hj
    exact getD_set_true (h j o hj ho e he hb)
def deps (ops : Array Oper) : Nat → Nat → Nat → Bool
  | 0, _, _ => false
  | n + 1, k, i => match ops[k]? with
    | none => false
    | some o => o.after.toList.any (fun e => Region.binds .any e && e.on == i) || o.after.toList.any (fun e => Region.binds .any e && deps ops n e.on i)
theorem deps_spec : ∀ (n k i : Nat) (o : Oper), Clo ops l → ops[k]? = some o → (∀ e ∈ o.after, Region.binds .any e = true → l.getD e.on false = true) → deps ops n k i = true → l.getD i false = true := by
  intro n
  induction n with
  | zero => intro k i o _ _ _ h; cases h
  | succ n ih =>
    intro k i o hc ho hall h
    unfold deps at h
    rw [ho] at h
    simp only [Bool.or_eq_true, List.any_eq_true, Array.mem_toList_iff] at h
    rcases h with ⟨e, he, h⟩ | ⟨e, he, h⟩
    · simp only [Bool.and_eq_true, beq_iff_eq] at h
      rw [← h.2]; exact hall e he h.1
    · simp only [Bool.and_eq_true] at h
      have h1 := hall e he h.1
      cases ho' : ops[e.on]? with
      | none =>
        have h2 := h.2
        cases n with
        | zero => cases h2
        | succ n => unfold deps at h2; rw [ho'] at h2; cases h2
      | some o' => exact ih e.on i o' hc ho' (hc e.on o' h1 ho') h.2
theorem P_first {i : Nat} {oi : Oper} {v : Value} (hi : ops[i]? = some oi) (hsel : Region.noSelect ops = true) (hQ : ∀ c a w, Q (.panic c) (a.put oi.dst v) w → Q (.panic c) a w) (hcl : ∀ k, Y k ≠ 0 → Y k ≠ 1 → Y k = 2) (hYi : Y i = 1) (hY : ∀ k, k < ops.size → Y k = 2 → deps ops 8 k i = true) :
    ∀ (n : Nat) (l : Array Bool) (a : Act) (w : World), Clo ops l → (∀ j oj, ops[j]? = some oj → j ≠ i → l.getD j true = false → (∀ e ∈ oj.after, Region.binds .any e = true → e.on ≠ i) → oi.apart ops oj = true) →
      i ∈ Region.ready .any ops l → YieldsIf P ops S1 oi v a → S1 w → wpAnyP P ops Q S1 S2 Y n (l.setIfInBounds i true) (a.put oi.dst v) w → wpAnyP P ops Q S1 S2 Y (n + 1) l a w := by
  have hno : ∀ {l : Array Bool} {j : Nat}, Clo ops l → i ∈ Region.ready .any ops l → j ∈ Region.ready .any ops l → Y j ≠ 2 := by
    intro l j hc hr hj hyj
    · obtain ⟨_, o, ho, hall⟩ := mem_ready.1 hj
      have h1 := deps_spec 8 j i o hc ho hall (hY j (Array.getElem?_eq_some_iff.1 ho).1 hyj)
      have h2 := (mem_ready.1 hr).1
      rw [Array.getD_eq_getD_getElem?] at h1 h2
      cases hl : l[i]? with
      | none => rw [hl] at h1; cases h1
      | some b => rw [hl] at h1 h2; simp only [Option.getD_some] at h1 h2; rw [h1] at h2; cases h2
  intro n
  induction n with
  | zero =>
    intro l a w hc _ hr hy hS H
    refine ⟨fun h => (by rw [h] at hr; cases hr), fun j hj => ?_⟩
    by_cases hji : j = i
    · subst hji; exact hy.wpOp hi hS ⟨by rw [hYi]; exact hS, H⟩
    · have h1 := ready_mono hj hji
      rw [H.1] at h1
      cases h1
  | succ n ih =>
    intro l a w hc hfree hr hy hS H
    refine ⟨fun h => (by rw [h] at hr; cases hr), fun j hj => ?_⟩
    by_cases hji : j = i
    · subst hji; exact hy.wpOp hi hS ⟨by rw [hYi]; exact hS, H⟩
    · have hYj := hno hc hr hj
      have h1 := H.2 j (ready_mono hj hji)
      obtain ⟨hjun, oj, hoj, hall⟩ := mem_ready.1 hj
      have hnot : ∀ e ∈ oj.after, Region.binds .any e = true → e.on ≠ i := fun e he hb heq => by
        have g1 := hall e he hb
        have g0 := (mem_ready.1 hr).1
        rw [heq, Array.getD_eq_getD_getElem?] at g1
        rw [Array.getD_eq_getD_getElem?] at g0
        cases hl : l[i]? with
        | none => rw [hl] at g1; cases g1
        | some b => rw [hl] at g1 g0; simp only [Option.getD_some] at g1 g0; rw [g1] at g0; cases g0
      have h2 := wpOp_putIf hoj (hfree j oj hoj hji hjun hnot) (fun cs b => Region.noSelect_spec hsel i oi cs b hi) (fun cs b => Region.noSelect_spec hsel j oj cs b hoj) hQ hy h1
      refine wpOp_mono (fun a' w' h3 => ?_) h2
      obtain ⟨h3, h4, h5⟩ := h3
      have h6 : S1 w' := by
        unfold cnd at h4
        split at h4
        · rw [h4]; exact hS
        · split at h4
          · exact h4
          · rename_i q1 q2; exact (hYj (hcl _ q1 q2)).elim
      refine ⟨h4, ih _ a' w' (hc.set hj) (fun k ok hk hki hun hno' => hfree k ok hk hki (unset hun).1 hno') (ready_mono hr (Ne.symm hji)) h3 h6 ?_⟩
      rw [Array.setIfInBounds_comm _ _ hji]
      exact h5
theorem P_zero {i : Nat} {oi : Oper} {v : Value} (hi : ops[i]? = some oi) (hsel : Region.noSelect ops = true) (hQ : ∀ c a w, Q (.panic c) (a.put oi.dst v) w → Q (.panic c) a w) (hYi : Y i = 0) (h12 : ∀ w, S1 w → S2 w) :
    ∀ (n : Nat) (l : Array Bool) (a : Act) (w : World), Clo ops l → (∀ j oj, ops[j]? = some oj → j ≠ i → l.getD j true = false → (∀ e ∈ oj.after, Region.binds .any e = true → e.on ≠ i) → oi.apart ops oj = true) →
      i ∈ Region.ready .any ops l → YieldsIf P ops S2 oi v a → S2 w → wpAnyP P ops Q S1 S2 Y n (l.setIfInBounds i true) (a.put oi.dst v) w → wpAnyP P ops Q S1 S2 Y (n + 1) l a w := by
  intro n
  induction n with
  | zero =>
    intro l a w hc _ hr hy hS H
    refine ⟨fun h => (by rw [h] at hr; cases hr), fun j hj => ?_⟩
    by_cases hji : j = i
    · subst hji; exact hy.wpOp hi hS ⟨by rw [hYi]; rfl, H⟩
    · have h1 := ready_mono hj hji
      rw [H.1] at h1
      cases h1
  | succ n ih =>
    intro l a w hc hfree hr hy hS H
    refine ⟨fun h => (by rw [h] at hr; cases hr), fun j hj => ?_⟩
    by_cases hji : j = i
    · subst hji; exact hy.wpOp hi hS ⟨by rw [hYi]; rfl, H⟩
    · have h1 := H.2 j (ready_mono hj hji)
      obtain ⟨hjun, oj, hoj, hall⟩ := mem_ready.1 hj
      have hnot : ∀ e ∈ oj.after, Region.binds .any e = true → e.on ≠ i := fun e he hb heq => by
        have g1 := hall e he hb
        have g0 := (mem_ready.1 hr).1
        rw [heq, Array.getD_eq_getD_getElem?] at g1
        rw [Array.getD_eq_getD_getElem?] at g0
        cases hl : l[i]? with
        | none => rw [hl] at g1; cases g1
        | some b => rw [hl] at g1 g0; simp only [Option.getD_some] at g1 g0; rw [g1] at g0; cases g0
      have h2 := wpOp_putIf hoj (hfree j oj hoj hji hjun hnot) (fun cs b => Region.noSelect_spec hsel i oi cs b hi) (fun cs b => Region.noSelect_spec hsel j oj cs b hoj) hQ hy h1
      refine wpOp_mono (fun a' w' h3 => ?_) h2
      obtain ⟨h3, h4, h5⟩ := h3
      have h6 : S2 w' := by
        unfold cnd at h4
        split at h4
        · rw [h4]; exact hS
        · split at h4
          · exact h12 _ h4
          · exact h4
      refine ⟨h4, ih _ a' w' (hc.set hj) (fun k ok hk hki hun hno' => hfree k ok hk hki (unset hun).1 hno') (ready_mono hr (Ne.symm hji)) h3 h6 ?_⟩
      rw [Array.setIfInBounds_comm _ _ hji]
      exact h5
def okP (ops : Array Oper) (Y : Nat → Nat) (σ2 : List Sg) : Array Bool → List Sg → Bool
  | l, [] => okS ops l σ2 && (List.range ops.size).all (fun i => l.getD i true || Y i == 2)
  | l, .one (i, true, _) :: r => Y i == 1 && (List.range ops.size).all (fun k => !(Y k == 2) || deps ops 8 k i) && Region.free .any ops l i && (Region.ready .any ops l).contains i && okP ops Y σ2 (l.setIfInBounds i true) r
  | l, .one (i, false, _) :: r => Y i == 1 && (Region.ready .any ops l == [i]) && okP ops Y σ2 (l.setIfInBounds i true) r
  | _, .two _ _ _ _ :: _ => false
def okZ (ops : Array Oper) (Y : Nat → Nat) (σ1 σ2 : List Sg) : Array Bool → List Sg → Bool
  | l, [] => okP ops Y σ2 l σ1
  | l, .one (i, true, _) :: r => Y i == 0 && Region.free .any ops l i && (Region.ready .any ops l).contains i && okZ ops Y σ1 σ2 (l.setIfInBounds i true) r
  | _, _ => false
theorem phase_held {Q1 : Exit → Act → World → Prop} {σ2 : List Sg} (hsel : Region.noSelect ops = true) (hcl : ∀ k, Y k ≠ 0 → Y k ≠ 1 → Y k = 2) (h12 : ∀ w, S1 w → S2 w) (hQ1 : ∀ a w, Q1 .normal a w → Sched P ops Q S2 σ2 a w) :
    ∀ (σ1 : List Sg) (l : Array Bool) (a : Act) (w : World), l.size = ops.size → Clo ops l → okP ops Y σ2 l σ1 = true → S1 w → Sched P ops Q1 S1 σ1 a w → wpAnyP P ops (np Q) S1 S2 Y (cost σ1 + cost σ2) l a w := by
  intro σ1
  induction σ1 with
  | nil =>
    intro l a w hl _ hok hS h
    simp only [okP, Bool.and_eq_true, List.all_eq_true, List.mem_range, Bool.or_eq_true, beq_iff_eq] at hok
    rw [show cost [] + cost σ2 = cost σ2 from Nat.zero_add _]
    refine P_of_H _ _ _ _ (fun i hi => ?_) (sched_held hsel σ2 l a w hok.1 (h12 w hS) (hQ1 a w h))
    by_cases hlt : i < ops.size
    · rcases hok.2 i hlt with h1 | h1
      · rw [hi] at h1; cases h1
      · exact h1
    · rw [Array.getD_eq_getD_getElem?, Array.getElem?_eq_none (by omega)] at hi; cases hi
  | cons x r ih =>
    cases x with
    | two i j N M => intro l a w _ _ hok _ _; simp [okP] at hok
    | one x =>
      obtain ⟨i, b, N⟩ := x
      intro l a w hl hc hok hS h
      rw [show cost (.one (i, b, N) :: r) + cost σ2 = (cost r + cost σ2) + 1 from by simp only [cost]; omega]
      cases b with
      | true =>
        obtain ⟨o, v, ho, rfl, hy, h⟩ := h
        simp only [okP, Bool.and_eq_true, Bool.not_eq_true', List.all_eq_true, List.mem_range, Bool.or_eq_true, List.contains_iff_mem, beq_iff_eq, beq_eq_false_iff_ne] at hok
        obtain ⟨⟨⟨⟨h1, h2⟩, h3⟩, h4⟩, h5⟩ := hok
        exact P_first ho hsel (fun _ _ _ hp => hp) hcl h1 (fun k hk hy => (h2 k hk).resolve_left (fun hn => hn hy)) _ l a w hc (Region.free_spec ho h3) h4 hy hS (ih _ _ _ (by simpa using hl) (hc.set h4) h5 hS h)
      | false =>
        obtain ⟨o, ho, rfl, h⟩ := h
        simp only [okP, Bool.and_eq_true, beq_iff_eq] at hok
        obtain ⟨⟨h1, h2⟩, h3⟩ := hok
        refine ⟨fun h0 => (by rw [h2] at h0; cases h0), fun j hj => ?_⟩
        have hr : i ∈ Region.ready .any ops l := by rw [h2]; simp
        rw [h2] at hj
        simp only [List.mem_singleton] at hj
        subst hj
        have h' := h (fun a' w' => cnd S1 S2 (Y j) w w' ∧ wpAnyP P ops (np Q) S1 S2 Y (cost r + cost σ2) (l.setIfInBounds j true) a' w') (fun a' w' hS' hh => ⟨by rw [h1]; exact hS', ih _ _ _ (by simpa using hl) (hc.set hr) h3 hS' hh⟩)
        unfold wpOp
        simp only [ho]
        split
        · rename_i hw; rw [if_pos hw] at h'; exact .inl (upon_weaken _ h')
        · rename_i hw; rw [if_neg hw] at h'; exact h'
theorem zero_held {Q0 Q1 : Exit → Act → World → Prop} {σ1 σ2 : List Sg} (hsel : Region.noSelect ops = true) (hcl : ∀ k, Y k ≠ 0 → Y k ≠ 1 → Y k = 2) (h12 : ∀ w, S1 w → S2 w) (hQ1 : ∀ a w, Q1 .normal a w → Sched P ops Q S2 σ2 a w) (hQ0 : ∀ a w, Q0 .normal a w → Sched P ops Q1 S1 σ1 a w) :
    ∀ (σ0 : List Sg) (l : Array Bool) (a : Act) (w : World), l.size = ops.size → Clo ops l → okZ ops Y σ1 σ2 l σ0 = true → S1 w → Sched P ops Q0 S2 σ0 a w → wpAnyP P ops (np Q) S1 S2 Y (cost σ0 + (cost σ1 + cost σ2)) l a w := by
  intro σ0
  induction σ0 with
  | nil =>
    intro l a w hl hc hok hS h
    rw [show cost [] + (cost σ1 + cost σ2) = cost σ1 + cost σ2 from Nat.zero_add _]
    exact phase_held hsel hcl h12 hQ1 σ1 l a w hl hc hok hS (hQ0 a w h)
  | cons x r ih =>
    cases x with
    | two i j N M => intro l a w _ _ hok _ _; simp [okZ] at hok
    | one x =>
      obtain ⟨i, b, N⟩ := x
      intro l a w hl hc hok hS h
      rw [show cost (.one (i, b, N) :: r) + (cost σ1 + cost σ2) = (cost r + (cost σ1 + cost σ2)) + 1 from by simp only [cost]; omega]
      cases b with
      | true =>
        obtain ⟨o, v, ho, rfl, hy, h⟩ := h
        simp only [okZ, Bool.and_eq_true, List.contains_iff_mem, beq_iff_eq] at hok
        obtain ⟨⟨⟨h1, h3⟩, h4⟩, h5⟩ := hok
        exact P_zero ho hsel (fun _ _ _ hp => hp) h1 h12 _ l a w hc (Region.free_spec ho h3) h4 hy (h12 w hS) (ih _ _ _ (by simpa using hl) (hc.set h4) h5 hS h)
      | false => simp [okZ] at hok
/-- Behind the first phase. -/
def phL (P : Program) (Q : Exit → Act → World → Prop) (S2 : World → Prop) (L2 : List Itm) : Exit → Act → World → Prop
  | .normal, a, w => SL P Q S2 L2 a w
  | _, _, _ => False
theorem sl_next {L2 : List Itm} {a : Act} {w : World} (h : SL P Q S2 L2 a w) : SL P (phL P Q S2 L2) S1 [] a w := h
def cls (xs ys : List Nat) (i : Nat) : Nat := if ys.contains i then 2 else if xs.contains i then 0 else 1
/-- The beginning: what but reckons ahead of all, the first phase, the second one. -/
theorem wp_region_ph {id : Nat} {a : Act} {w : World} (xs ys : List Nat) (σ0 : List Sg) (L0 : List Itm) (σ1 : List Sg) (L1 : List Itm) (σ2 : List Sg) (L2 : List Itm) (S1 S2 : World → Prop) (hm : P.follows .mixedOrders = true)
    (hok : (Region.noSelect ops && (ops.size == cost σ0 + (cost σ1 + cost σ2)) && okZ ops (cls xs ys) σ1 σ2 (Array.replicate ops.size false) σ0 && dstsOk ops σ0 && dstsOk ops σ1 && dstsOk ops σ2) = true) (hL0 : strips ops σ0 = some L0) (hL1 : strips ops σ1 = some L1) (hL2 : strips ops σ2 = some L2) (hS : S1 w.drew) (h12 : ∀ w, S1 w → S2 w)
    (h : SL P (phL P (phL P Q S2 L2) S1 L1) S2 L0 a w.drew) : (Code.region id ops true).wp P Q a w := by
  simp only [Bool.and_eq_true, beq_iff_eq] at hok
  obtain ⟨⟨⟨⟨⟨h1, h2⟩, h3⟩, h4⟩, h5⟩, h6⟩ := hok
  refine np_mono (wp_region_any hm (wpAny_of_P (S1 := S1) (S2 := S2) (Y := cls xs ys) _ _ _ _ ?_))
  rw [h2]
  exact zero_held h1 (fun k q1 q2 => by unfold cls at q1 q2 ⊢; split; rfl; rename_i q3; rw [if_neg q3] at q1 q2; split at q1 <;> simp_all) h12 (fun a w hh => sl_sched σ2 L2 a w hL2 h6 hh) (fun a w hh => sl_sched σ1 L1 a w hL1 h5 hh) σ0 _ a _ (by simp [h2]) (fun j o hj => by
    rw [Array.getD_eq_getD_getElem?] at hj
    simp [Array.getElem?_replicate] at hj
    split at hj <;> cases hj) (by rw [h2] at h3; exact h3) hS (sl_sched σ0 L0 a _ hL0 h4 h)
end
end Go.Proofs.YticnjkdaccacaaaGreatDoor.Base
end
