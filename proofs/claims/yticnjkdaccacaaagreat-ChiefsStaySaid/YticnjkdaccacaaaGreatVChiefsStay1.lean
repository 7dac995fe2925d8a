/- Texts of this work, one behind the other. -/
import Derived.WalkKit
import Derived.OrdersHeld
import Derived.Below
import Derived.Deep.OwnRows
import Derived.Maps.AppendAt
import Derived.Laws.CopyOwn
import Derived.KernelRfl
import Derived.OpenShut
set_option maxRecDepth 100000
set_option maxHeartbeats 16000000
section
namespace Go.Proofs.YticnjkdaccacaaaGreat.Base
open Go Go.RowKit
theorem below_weak {B : Nat} {w1 w2 : World} (h : B ≤ w1.heap.size) (hb : Below w1.heap.size w1 w2) : Below B w1 w2 := ⟨hb.os, hb.tape, hb.output, hb.size, fun i hi => hb.block i (by omega)⟩
section
variable {P : Program} {ops : Array Oper} {Q : Exit → Act → World → Prop} {S : World → Prop}
def np (Q : Exit → Act → World → Prop) : Exit → Act → World → Prop
 | .panic _, _, _ => False
 | e, a, w => Q e a w
inductive Sg where
 | one (x : Nat × Bool × Option Tmp)
 | two (i j : Nat) (N M : Option Tmp)
def cost : List Sg → Nat
 | [] => 0
 | .one _ :: r => cost r + 1
 | .two _ _ _ _ :: r => cost r + 2
def Sched (P : Program) (ops : Array Oper) (Q : Exit → Act → World → Prop) (S : World → Prop) : List Sg → Act → World → Prop
 | [], a, w => Q .normal a w
 | .one (i, true, N) :: r, a, w => ∃ o v, ops[i]? = some o ∧ o.dst = N ∧ YieldsIf P ops S o v a ∧ Sched P ops Q S r (a.put N v) w
 | .one (i, false, N) :: r, a, w => ∃ o, ops[i]? = some o ∧ o.dst = N ∧ ∀ K : Act → World → Prop, (∀ a' w', S w' → Sched P ops Q S r a' w' → K a' w') →
   if Region.wanted o (yielded ops a.tmps) = true then Oper.wp P o a w K (fun _ _ _ => False) else K (a.put N undef) w
 | .two i j N M :: r, a, w => ∃ o p, ops[i]? = some o ∧ ops[j]? = some p ∧ o.dst = N ∧ p.dst = M ∧ (∀ t, Region.wanted o t = true) ∧ (∀ t, Region.wanted p t = true) ∧
   ∀ K : Act → World → Prop, (∀ a' w', S w' → Sched P ops Q S r a' w' → K a' w') →
    Oper.wp P o a w (fun a' w' => S w' ∧ Oper.wp P p a' w' K (fun _ _ _ => False)) (fun _ _ _ => False) ∧ Oper.wp P p a w (fun a' w' => S w' ∧ Oper.wp P o a' w' K (fun _ _ _ => False)) (fun _ _ _ => False)
def okS (ops : Array Oper) : Array Bool → List Sg → Bool
 | l, [] => Region.ready .any ops l == []
 | l, .one (i, true, _) :: r => Region.free .any ops l i && (Region.ready .any ops l).contains i && okS ops (l.setIfInBounds i true) r
 | l, .one (i, false, _) :: r => (Region.ready .any ops l == [i]) && okS ops (l.setIfInBounds i true) r
 | l, .two i j _ _ :: r => i != j && (Region.ready .any ops l == [i, j]) && (Region.ready .any ops (l.setIfInBounds i true) == [j]) && (Region.ready .any ops (l.setIfInBounds j true) == [i]) && okS ops ((l.setIfInBounds i true).setIfInBounds j true) r
theorem upon_weaken {o : Oper} {a : Act} {w : World} {K : Act → World → Prop} (Q : Exit → Act → World → Prop) (h : Oper.wp P o a w K (fun _ _ _ => False)) : Oper.wp P o a w K Q := by
 unfold Oper.wp at *
 generalize (execOp a.eval o).run P w = r at *
 cases r with
 | ok n w' =>
  cases n <;> simp only [Oper.upon] at h ⊢ <;> try exact h
  case enter f args =>
   refine h.mono fun e w'' hh => ?_
   cases e with
   | returned v => exact hh
   | panicked c => exact hh.elim
   | outgrown => obtain ⟨_, _, x⟩ := hh; exact x.elim
 | halt x w' =>
  cases x <;> simp only [Oper.upon] at h ⊢
theorem upon_mono {o : Oper} {a : Act} {w : World} {K K' : Act → World → Prop} {Q : Exit → Act → World → Prop} (hK : ∀ a' w', K a' w' → K' a' w') (h : Oper.wp P o a w K (fun _ _ _ => False)) : Oper.wp P o a w K' Q := by
 have h := upon_weaken Q h
 unfold Oper.wp at *
 generalize (execOp a.eval o).run P w = r at *
 cases r with
 | ok n w' =>
  cases n <;> simp only [Oper.upon] at h ⊢ <;> first | exact hK _ _ h | exact h | skip
  case enter f args =>
   refine h.mono fun e w'' hh => ?_
   cases e with
   | returned v => exact hK _ _ hh
   | panicked c => exact hh
   | outgrown => exact hh
  case row row args => exact Rows.mono h fun u w'' he => hK _ _ he
 | halt x w' =>
  cases x <;> simp only [Oper.upon] at h ⊢ <;> exact h
theorem wpOp_of {i : Nat} {o : Oper} {K : Act → World → Prop} {a : Act} {w : World} (ho : ops[i]? = some o) (hw : ∀ t, Region.wanted o t = true) (h : Oper.wp P o a w K (fun _ _ _ => False)) : wpOp P ops Q i K a w := by
 unfold wpOp
 simp only [ho]
 rw [if_pos (hw _)]
 exact .inl (upon_weaken _ h)
theorem sched_held (hsel : Region.noSelect ops = true) : ∀ (σ : List Sg) (l : Array Bool) (a : Act) (w : World), okS ops l σ = true → S w → Sched P ops Q S σ a w →
  wpAnyH P .any ops (np Q) S (cost σ) l a w := by
 intro σ
 induction σ with
 | nil => intro l a w hok _ h; exact ⟨by simpa [okS] using hok, h⟩
 | cons x r ih =>
  cases x with
  | one x =>
   obtain ⟨i, b, N⟩ := x
   intro l a w hok hS h
   cases b with
   | true =>
    obtain ⟨o, v, ho, rfl, hy, h⟩ := h
    simp only [okS, Bool.and_eq_true] at hok
    exact wpAnyH_take ho hsel hok.1.1 hok.1.2 (fun _ _ _ hp => hp) hy hS (ih _ _ _ hok.2 hS h)
   | false =>
    obtain ⟨o, ho, rfl, h⟩ := h
    simp only [okS, Bool.and_eq_true, beq_iff_eq] at hok
    refine wpAnyH_all hok.1 (by simp) ?_
    intro j hj
    simp only [List.mem_singleton] at hj
    subst hj
    have h' := h (fun a' w' => S w' ∧ wpAnyH P .any ops (np Q) S (cost r) (l.setIfInBounds j true) a' w') (fun a' w' hS' hh => ⟨hS', ih _ _ _ hok.2 hS' hh⟩)
    unfold wpOp
    simp only [ho]
    split
    ·rename_i hw; rw [if_pos hw] at h'; exact .inl (upon_weaken _ h')
    ·rename_i hw; rw [if_neg hw] at h'; exact h'
  | two i j N M =>
   intro l a w hok hS h
   obtain ⟨o, p, ho, hp, rfl, rfl, wo, wp, h⟩ := h
   simp only [okS, Bool.and_eq_true, beq_iff_eq, bne_iff_ne] at hok
   obtain ⟨⟨⟨⟨hne, h1⟩, h2⟩, h3⟩, h4⟩ := hok
   obtain ⟨hA, hB⟩ := h (fun a' w' => S w' ∧ wpAnyH P .any ops (np Q) S (cost r) ((l.setIfInBounds i true).setIfInBounds j true) a' w') (fun a' w' hS' hh => ⟨hS', ih _ _ _ h4 hS' hh⟩)
   show wpAnyH P .any ops (np Q) S (cost r + 1 + 1) l a w
   refine wpAnyH_all h1 (by simp) ?_
   intro k hk
   simp only [List.mem_cons, List.not_mem_nil, or_false] at hk
   rcases hk with rfl | rfl
   ·refine wpOp_of ho wo (upon_mono (fun a' w' ⟨hs, hh⟩ => ⟨hs, wpAnyH_all h2 (by simp) fun m hm => ?_⟩) hA)
    simp only [List.mem_singleton] at hm
    subst hm
    exact wpOp_of hp wp hh
   ·refine wpOp_of hp wp (upon_mono (fun a' w' ⟨hs, hh⟩ => ⟨hs, wpAnyH_all h3 (by simp) fun m hm => ?_⟩) hB)
    simp only [List.mem_singleton] at hm
    subst hm
    rw [Array.setIfInBounds_comm _ _ (Ne.symm hne)]
    exact wpOp_of ho wo hh
theorem np_mono {c : Code} {a : Act} {w : World} (h : c.wp P (np Q) a w) : c.wp P Q a w :=
 Code.wp_mono (fun e a w q => by cases e <;> first | exact q | exact q.elim) h
theorem wp_region_sched {id : Nat} {a : Act} {w : World} (σ : List Sg) (S : World → Prop) (hm : P.follows .mixedOrders = true)
  (hok : (Region.noSelect ops && (ops.size == cost σ) && okS ops (Array.replicate ops.size false) σ) = true) (hS : S w.drew) (h : Sched P ops Q S σ a w.drew) : (Code.region id ops true).wp P Q a w := by
 simp only [Bool.and_eq_true, beq_iff_eq] at hok
 obtain ⟨⟨h1, h2⟩, h3⟩ := hok
 refine np_mono (wp_region_held (S := S) hm ?_)
 rw [h2] at h3 ⊢
 exact sched_held h1 σ _ a _ h3 hS h
structure SOp where
 q : Bool
 dst : Option Tmp
 op : Op
 type : TypeId
 g : Option (Tmp × Bool)
def SOp.oper (s : SOp) : Oper := { dst := s.dst, op := s.op, type := s.type, pos := "", after := #[], guard := none }
def SOp.wanted (s : SOp) (tmps : Array Value) : Bool :=
 match s.g with
 | none => true
 | some (t, want) => match tmps.getD t undef with
  | .bool b => b == want
  | _ => false
def strip (ops : Array Oper) (x : Nat × Bool × Option Tmp) : Option SOp :=
 (ops[x.1]?).bind fun o => match o.guard with
  | none => some ⟨x.2.1, x.2.2, o.op, o.type, none⟩
  | some (j, want) => ((ops[j]?).bind (·.dst)).map fun t => ⟨x.2.1, x.2.2, o.op, o.type, some (t, want)⟩
inductive Itm where
 | one (s : SOp)
 | two (s t : SOp)
abbrev m_ (d x t : Nat) : Itm := .one ⟨true, some d, .move (.tmp x), t, none⟩
abbrev i_ (d t x y : Nat) : Itm := .one ⟨true, some d, .indexAddr t (.tmp x) (.tmp y), 0, none⟩
abbrev f_ (d t x k : Nat) : Itm := .one ⟨true, some d, .fieldAddr t (.tmp x) k, 0, none⟩
abbrev l_ (d t x : Nat) : Itm := .one ⟨true, some d, .load t (.tmp x), t, none⟩
abbrev c_ (d x : Nat) : Itm := .one ⟨true, some d, .nilCheck (.tmp x), 0, none⟩
abbrev u_ (i d : Nat) : Sg := .one (i, true, some d)
def hd_ (P : Program) : Code → (Exit → Act → World → Prop) → Code × (Exit → Act → World → Prop)
 | .seq x y, Q => hd_ P x (Exit.then (y.wp P Q) Q)
 | c, Q => (c, Q)
theorem q_ {P : Program} {c c' : Code} {Q Q' : Exit → Act → World → Prop} {a : Act} {w : World} (h : hd_ P c Q = (c', Q')) (k : c'.wp P Q' a w) : c.wp P Q a w := by
 induction c generalizing Q with
 | seq x y ih1 ih2 => exact wp_seq (ih1 h)
 | _ => (injection h with h1 h2; subst h1; subst h2; exact k)
theorem r_ {P : Program} {c : Code} {id : Nat} {l : List Oper} {Q Q' : Exit → Act → World → Prop} {a : Act} {w : World} (h : hd_ P c Q = (Code.region id l.toArray false, Q')) (k : wpList P l.toArray Q' l a w) : c.wp P Q a w := q_ h (wp_region_lit k)
theorem eq_ {P : Program} {ops : Array Oper} {c c' : Code} {Q0 Q Q' : Exit → Act → World → Prop} {a : Act} {w : World} (h0 : Q0 .normal a w = c.wp P Q a w) (h : hd_ P c Q = (c', Q')) (k : c'.wp P Q' a w) : wpList P ops Q0 [] a w := wpList_nil (h0.mpr (q_ h k))
theorem er_ {P : Program} {ops : Array Oper} {c : Code} {id : Nat} {l : List Oper} {Q0 Q Q' : Exit → Act → World → Prop} {a : Act} {w : World} (h0 : Q0 .normal a w = c.wp P Q a w) (h : hd_ P c Q = (Code.region id l.toArray false, Q')) (k : wpList P l.toArray Q' l a w) : wpList P ops Q0 [] a w := wpList_nil (h0.mpr (r_ h k))
theorem xr_ {P : Program} {c : Code} {id : Nat} {l : List Oper} {e : Exit} {Q0 Q Q' : Exit → Act → World → Prop} {a : Act} {w : World} (h0 : Q0 e a w = c.wp P Q a w) (h : hd_ P c Q = (Code.region id l.toArray false, Q')) (k : wpList P l.toArray Q' l a w) : Q0 e a w := h0.mpr (r_ h k)
theorem e_ {P : Program} {ops : Array Oper} {K : Act → World → Prop} {Q : Exit → Act → World → Prop} {a : Act} {w : World} (h : K a w) : wpList P ops (Exit.then K Q) [] a w := wpList_nil h
def strips (ops : Array Oper) : List Sg → Option (List Itm)
 | [] => some []
 | .one x :: r => (strip ops x).bind fun s => (strips ops r).map (.one s :: ·)
 | .two i j N M :: r => (strip ops (i, false, N)).bind fun s => (strip ops (j, false, M)).bind fun t => if s.g.isNone && t.g.isNone then (strips ops r).map (.two s t :: ·) else none
def dstsOk (ops : Array Oper) (σ : List Sg) : Bool := σ.all fun x => match x with
 | .one x => (ops[x.1]?).map (·.dst) == some x.2.2
 | .two i j N M => (ops[i]?).map (·.dst) == some N && (ops[j]?).map (·.dst) == some M
def SL (P : Program) (Q : Exit → Act → World → Prop) (S : World → Prop) : List Itm → Act → World → Prop
 | [], a, w => Q .normal a w
 | .one s :: r, a, w => (s.wanted a.tmps = false ∧ (s.q = true ∨ S w) ∧ SL P Q S r (a.put s.dst undef) w) ∨
   (s.wanted a.tmps = true ∧ s.q = true ∧ ∃ v, (∀ w', S w' → (execOp a.eval s.oper).run P w' = .ok (.value v) w') ∧ SL P Q S r (a.put s.dst v) w) ∨
   (s.wanted a.tmps = true ∧ s.q = false ∧ ∀ K : Act → World → Prop, (∀ a' w', S w' → SL P Q S r a' w' → K a' w') → Oper.wp P s.oper a w K (fun _ _ _ => False))
 | .two s t :: r, a, w => ∀ K : Act → World → Prop, (∀ a' w', S w' → SL P Q S r a' w' → K a' w') →
   Oper.wp P s.oper a w (fun a' w' => S w' ∧ Oper.wp P t.oper a' w' K (fun _ _ _ => False)) (fun _ _ _ => False) ∧ Oper.wp P t.oper a w (fun a' w' => S w' ∧ Oper.wp P s.oper a' w' K (fun _ _ _ => False)) (fun _ _ _ => False)
theorem strip_wanted {x : Nat × Bool × Option Tmp} {s : SOp} {o : Oper} (ho : ops[x.1]? = some o) (h : strip ops x = some s) (tmps : Array Value) :
  Region.wanted o (yielded ops tmps) = s.wanted tmps ∧ s.q = x.2.1 ∧ s.dst = x.2.2 ∧ s.op = o.op ∧ s.type = o.type := by
 unfold strip at h
 rw [ho] at h
 simp only [Option.bind_some] at h
 cases hg : o.guard with
 | none => rw [hg] at h; simp only [Option.some.injEq] at h; subst h; exact ⟨by simp [Region.wanted, hg, SOp.wanted], rfl, rfl, rfl, rfl⟩
 | some g =>
  obtain ⟨j, want⟩ := g
  rw [hg] at h
  simp only [Option.map_eq_some_iff] at h
  obtain ⟨t, ht, rfl⟩ := h
  refine ⟨?_, rfl, rfl, rfl, rfl⟩
  simp only [Region.wanted, hg, SOp.wanted, yielded, ht, Option.bind_some]
  rw [Array.getD_eq_getD_getElem?]
  cases hv : tmps[t]? with
  | none => rfl
  | some v => cases v <;> simp
theorem oper_same {o : Oper} {s : SOp} {a : Act} {w : World} {K : Act → World → Prop} (hop : s.op = o.op) (hty : s.type = o.type) (hd : s.dst = o.dst) (h : Oper.wp P s.oper a w K (fun _ _ _ => False)) : Oper.wp P o a w K (fun _ _ _ => False) := by
 have hex : execOp a.eval o = execOp a.eval s.oper := by unfold execOp SOp.oper; simp only [hop, hty]
 have e : o.upon P a K (fun _ _ _ => False) = s.oper.upon P a K (fun _ _ _ => False) := by
  funext r
  have ed : s.oper.dst = o.dst := hd
  cases r with
  | ok n w' => cases n <;> simp only [Oper.upon, ed]
  | halt x w' => cases x <;> simp only [Oper.upon]
 unfold Oper.wp at h ⊢
 rw [hex, e]
 exact h
theorem sl_sched : ∀ (σ : List Sg) (L : List Itm) (a : Act) (w : World), strips ops σ = some L → dstsOk ops σ = true → SL P Q S L a w → Sched P ops Q S σ a w := by
 intro σ
 induction σ with
 | nil => intro L a w hL _ h; simp only [strips, Option.some.injEq] at hL; subst hL; exact h
 | cons x r ih =>
  cases x with
  | one x =>
   intro L a w hL hd h
   simp only [strips, Option.bind_eq_some_iff, Option.map_eq_some_iff] at hL
   obtain ⟨s, hs, L', hL', rfl⟩ := hL
   have hx : ((ops[x.1]?).map (·.dst) == some x.2.2) = true ∧ dstsOk ops r = true := by simpa [dstsOk] using hd
   obtain ⟨hx, hr⟩ := hx
   cases ho : ops[x.1]? with
   | none => rw [ho] at hx; simp at hx
   | some o =>
    rw [ho] at hx
    have hdst : o.dst = x.2.2 := by simpa using hx
    obtain ⟨i, b, N⟩ := x
    obtain ⟨hw, hq, hsd, hop, hty⟩ := strip_wanted ho hs a.tmps
    have hdst' : o.dst = N := hdst
    have hsd' : s.dst = N := hsd
    have hq' : s.q = b := hq
    have hex : execOp a.eval o = execOp a.eval s.oper := by unfold execOp SOp.oper; simp only [hop, hty]
    cases b with
    | true =>
     rcases h with ⟨h1, _, h2⟩ | ⟨h1, _, v, hv, h2⟩ | ⟨_, h2, _⟩
     ·exact ⟨o, undef, ho, hdst', .inr ⟨hw.trans h1, rfl⟩, by rw [← hsd']; exact ih _ _ _ hL' hr h2⟩
     ·exact ⟨o, v, ho, hdst', .inl ⟨hw.trans h1, fun w' hS' => by rw [hex]; exact hv w' hS'⟩, by rw [← hsd']; exact ih _ _ _ hL' hr h2⟩
     ·rw [hq'] at h2; cases h2
    | false =>
     refine ⟨o, ho, hdst', fun K hK => ?_⟩
     rcases h with ⟨h1, h3, h2⟩ | ⟨_, h2, _⟩ | ⟨h1, _, h2⟩
     ·rw [if_neg (by rw [hw, h1]; exact Bool.false_ne_true)]
      rcases h3 with h3 | h3
      ·rw [hq'] at h3; cases h3
      ·exact hK _ _ h3 (by rw [← hsd']; exact ih _ _ _ hL' hr h2)
     ·rw [hq'] at h2; cases h2
     ·rw [if_pos (by rw [hw, h1])]
      exact oper_same hop hty (hsd'.trans hdst'.symm) (h2 K (fun a' w' hS' hh => hK a' w' hS' (ih _ _ _ hL' hr hh)))
  | two i j N M =>
   intro L a w hL hd h
   simp only [strips, Option.bind_eq_some_iff] at hL
   obtain ⟨s, hs, t, ht, hL⟩ := hL
   split at hL
   case isFalse => cases hL
   rename_i hg
   rw [Option.map_eq_some_iff] at hL
   obtain ⟨L', hL', rfl⟩ := hL
   simp only [Bool.and_eq_true, Option.isNone_iff_eq_none] at hg
   have hx : (((ops[i]?).map (·.dst) == some N) = true ∧ ((ops[j]?).map (·.dst) == some M) = true) ∧ dstsOk ops r = true := by simpa [dstsOk] using hd
   obtain ⟨⟨hx, hy⟩, hr⟩ := hx
   cases ho : ops[i]? with
   | none => rw [ho] at hx; simp at hx
   | some o =>
   cases hp : ops[j]? with
   | none => rw [hp] at hy; simp at hy
   | some p =>
    rw [ho] at hx
    rw [hp] at hy
    have hd1 : o.dst = N := by simpa using hx
    have hd2 : p.dst = M := by simpa using hy
    obtain ⟨_, _, hsd, hop, hty⟩ := strip_wanted (x := (i, false, N)) ho hs a.tmps
    obtain ⟨_, _, hsd2, hop2, hty2⟩ := strip_wanted (x := (j, false, M)) hp ht a.tmps
    have w1 : ∀ tt, Region.wanted o tt = true := by
     intro tt
     have hgo : o.guard = none := by
      unfold strip at hs
      rw [ho] at hs
      simp only [Option.bind_some] at hs
      cases hgg : o.guard with
      | none => rfl
      | some g =>
       rw [hgg] at hs
       simp only [Option.map_eq_some_iff] at hs
       obtain ⟨t', _, rfl⟩ := hs
       exact absurd hg.1 (by simp)
     simp [Region.wanted, hgo]
    have w2 : ∀ tt, Region.wanted p tt = true := by
     intro tt
     have hgo : p.guard = none := by
      unfold strip at ht
      rw [hp] at ht
      simp only [Option.bind_some] at ht
      cases hgg : p.guard with
      | none => rfl
      | some g =>
       rw [hgg] at ht
       simp only [Option.map_eq_some_iff] at ht
       obtain ⟨t', _, rfl⟩ := ht
       exact absurd hg.2 (by simp)
     simp [Region.wanted, hgo]
    refine ⟨o, p, ho, hp, hd1, hd2, w1, w2, fun K hK => ?_⟩
    obtain ⟨hA, hB⟩ := h K (fun a' w' hS' hh => hK a' w' hS' (ih _ _ _ hL' hr hh))
    exact ⟨oper_same hop hty (hsd.trans hd1.symm) (upon_mono (fun a' w' ⟨h1, h2⟩ => ⟨h1, oper_same hop2 hty2 (hsd2.trans hd2.symm) h2⟩) hA),
     oper_same hop2 hty2 (hsd2.trans hd2.symm) (upon_mono (fun a' w' ⟨h1, h2⟩ => ⟨h1, oper_same hop hty (hsd.trans hd1.symm) h2⟩) hB)⟩
theorem wp_region_sl {id : Nat} {a : Act} {w : World} (σ : List Sg) (L : List Itm) (S : World → Prop) (hm : P.follows .mixedOrders = true)
  (hok : (Region.noSelect ops && (ops.size == cost σ) && okS ops (Array.replicate ops.size false) σ && dstsOk ops σ) = true) (hL : strips ops σ = some L) (hS : S w.drew) (h : SL P Q S L a w.drew) : (Code.region id ops true).wp P Q a w := by
 simp only [Bool.and_eq_true] at hok
 exact wp_region_sched σ S hm (by simp only [Bool.and_eq_true]; exact hok.1) hS (sl_sched σ L a _ hL hok.2 h)
section
variable {N : Option Tmp} {op : Op} {ty : TypeId} {r : List Itm} {a a' : Act} {w w' : World} {v : Value} {q : Bool}
theorem sq (hv : ∀ w', S w' → (execOp a.eval ⟨N, op, ty, "", #[], none⟩).run P w' = .ok (.value v) w') (ha : a.put N v = a') (h : SL P Q S r a' w) : SL P Q S (.one ⟨true, N, op, ty, none⟩ :: r) a w :=
 .inr (.inl ⟨rfl, rfl, v, hv, by subst ha; exact h⟩)
theorem sqg {t : Tmp} {b : Bool} (hw : (a.tmps.getD t undef) = .bool b) (hv : ∀ w', S w' → (execOp a.eval ⟨N, op, ty, "", #[], none⟩).run P w' = .ok (.value v) w') (ha : a.put N v = a') (h : SL P Q S r a' w) : SL P Q S (.one ⟨true, N, op, ty, some (t, b)⟩ :: r) a w :=
 .inr (.inl ⟨by simp only [SOp.wanted, hw]; simp, rfl, v, hv, by subst ha; exact h⟩)
theorem sn {t : Tmp} {b : Bool} (hw : (a.tmps.getD t undef) = .bool (!b)) (ha : a.put N undef = a') (h : SL P Q S r a' w) : SL P Q S (.one ⟨true, N, op, ty, some (t, b)⟩ :: r) a w :=
 .inl ⟨by simp only [SOp.wanted, hw]; cases b <;> rfl, .inl rfl, by subst ha; exact h⟩
theorem sf {t : Tmp} {b : Bool} (hS : S w) (hw : (a.tmps.getD t undef) = .bool (!b)) (ha : a.put N undef = a') (h : SL P Q S r a' w) : SL P Q S (.one ⟨false, N, op, ty, some (t, b)⟩ :: r) a w :=
 .inl ⟨by simp only [SOp.wanted, hw]; cases b <;> rfl, .inr hS, by subst ha; exact h⟩
theorem se (h : ∀ K : Act → World → Prop, (∀ a' w', S w' → SL P Q S r a' w' → K a' w') → Oper.wp P ⟨N, op, ty, "", #[], none⟩ a w K (fun _ _ _ => False)) : SL P Q S (.one ⟨false, N, op, ty, none⟩ :: r) a w :=
 .inr (.inr ⟨rfl, rfl, h⟩)
theorem se' (h : ∀ K : Act → World → Prop, (∀ a' w', S w' → (∀ a'', a' = a'' → SL P Q S r a'' w') → K a' w') → Oper.wp P ⟨N, op, ty, "", #[], none⟩ a w K (fun _ _ _ => False)) : SL P Q S (.one ⟨false, N, op, ty, none⟩ :: r) a w :=
 se fun K hK => h K fun a' w' hS hh => hK a' w' hS (hh a' rfl)
theorem s2 {s t : SOp} (h : ∀ K : Act → World → Prop, (∀ a' w', S w' → (∀ a'', a' = a'' → SL P Q S r a'' w') → K a' w') →
  Oper.wp P s.oper a w (fun a' w' => S w' ∧ Oper.wp P t.oper a' w' K (fun _ _ _ => False)) (fun _ _ _ => False) ∧ Oper.wp P t.oper a w (fun a' w' => S w' ∧ Oper.wp P s.oper a' w' K (fun _ _ _ => False)) (fun _ _ _ => False)) : SL P Q S (.two s t :: r) a w :=
 fun K hK => h K fun a' w' hS hh => hK a' w' hS (hh a' rfl)
theorem wp_value {o : Oper} {K : Act → World → Prop} {Q' : Exit → Act → World → Prop} (h : (execOp a.eval o).run P w = .ok (.value v) w') (hK : K (a.put o.dst v) w') : Oper.wp P o a w K Q' := by
 unfold Oper.wp
 rw [h, Oper.upon_value]
 exact hK
theorem s2lv {s t : SOp} {u : Value} {a1 : Act} (h1 : (execOp a.eval s.oper).run P w = .ok (.value v) w) (h2 : (execOp (a.put s.dst v).eval t.oper).run P w = .ok (.value u) w') (h3 : (execOp a.eval t.oper).run P w = .ok (.value u) w')
  (h4 : (execOp (a.put t.dst u).eval s.oper).run P w' = .ok (.value v) w') (hS : S w) (hS' : S w') (e1 : (a.put s.dst v).put t.dst u = a1) (e2 : (a.put t.dst u).put s.dst v = a1) (ht : SL P Q S r a1 w') : SL P Q S (.two s t :: r) a w :=
 fun K hK => ⟨wp_value h1 ⟨hS, wp_value h2 (by show K ((a.put s.dst v).put t.dst u) w'; rw [e1]; exact hK _ _ hS' ht)⟩, wp_value h3 ⟨hS', wp_value h4 (by show K ((a.put t.dst u).put s.dst v) w'; rw [e2]; exact hK _ _ hS' ht)⟩⟩
theorem sl_end (h : Q .normal a w) : SL P Q S [] a w := h
end
end
def Rd (k : IntKind) (w : World) (A : Option Addr) (l : List Int) : Prop :=
 l ≠ [] → ∃ ad, A = some ad ∧ ad.block < w.heap.size ∧ ∀ j, j < l.length → w.cell? (ad.add j) = some (.int k (l.getD j 0))
theorem add_block (ad : Addr) (n : Nat) : (ad.add n).block = ad.block := by rw [Addr.add]; split <;> rfl
theorem add_add (ad : Addr) (a b : Nat) : (ad.add a).add b = ad.add (a + b) := by
 unfold Addr.add
 by_cases h1 : a = 0
 ·subst h1; simp
 ·by_cases h2 : b = 0
  ·subst h2; simp [h1]
  ·rw [if_neg h1, if_neg h2, if_neg (by omega)]; simp [Nat.add_assoc]
section
variable {k : IntKind} {w w1 : World} {A : Option Addr} {l : List Int}
theorem Rd.below (h : Rd k w A l) (hb : Below w.heap.size w w1) : Rd k w1 A l := fun hne => by
 obtain ⟨ad, e, h1, h2⟩ := h hne
 exact ⟨ad, e, Nat.lt_of_lt_of_le h1 hb.size, fun j hj => by rw [hb.cell (p := ad.add j) (by rw [add_block]; exact h1)]; exact h2 j hj⟩
theorem Rd.nil : Rd k w A [] := fun h => absurd rfl h
theorem Rd.empty (h : Rd k w A l) (e : A = none) : l = [] := by
 rcases List.eq_nil_or_concat l with hl | ⟨_, _, hl⟩
 ·exact hl
 ·obtain ⟨ad, e', _⟩ := h (by rw [hl]; simp)
  rw [e] at e'; cases e'
theorem Rd.cell (h : Rd k w A l) {j : Nat} (hj : j < l.length) : ∃ ad, A = some ad ∧ ad.block < w.heap.size ∧ w.cell? (ad.add j) = some (.int k (l.getD j 0)) := by
 obtain ⟨ad, e, h1, h2⟩ := h (by intro e; rw [e] at hj; exact absurd hj (Nat.not_lt_zero _))
 exact ⟨ad, e, h1, h2 j hj⟩
theorem Rd.take (h : Rd k w A l) (n : Nat) : Rd k w A (l.take n) := fun hne => by
 obtain ⟨ad, e, h1, h2⟩ := h (by rintro rfl; simp at hne)
 refine ⟨ad, e, h1, fun j hj => ?_⟩
 rw [List.length_take] at hj
 rw [h2 j (by omega), List.getD_eq_getElem?_getD, List.getD_eq_getElem?_getD, List.getElem?_take, if_pos (by omega)]
def dropA (A : Option Addr) (c j : Nat) : Option Addr := if c = j then A else A.map (·.add (j * 1))
theorem Rd.drop (h : Rd k w A l) {n c : Nat} (hc : l.length ≤ c) : Rd k w (dropA A c n) (l.drop n) := fun hne => by
 have hlt : n < l.length := by
  rcases Nat.lt_or_ge n l.length with h | h
  ·exact h
  ·exact absurd (List.drop_eq_nil_of_le h) hne
 obtain ⟨ad, rfl, h1, h2⟩ := h (by rintro rfl; simp at hne)
 refine ⟨ad.add n, ?_, by rw [add_block]; exact h1, fun j hj => ?_⟩
 ·unfold dropA; rw [if_neg (by omega)]; simp
 ·rw [List.length_drop] at hj
  rw [add_add, h2 _ (by omega), List.getD_eq_getElem?_getD, List.getD_eq_getElem?_getD, List.getElem?_drop]
theorem Rd.block {g : Nat} {cs : Array Value} {t : TypeId} {fr : Nat × Nat} (hg : w.heap[g]? = some (.cells cs t fr)) (hc : ∀ j, j < l.length → cs[j]? = some (.int k (l.getD j 0))) : Rd k w (some ⟨g, 0, none⟩) l := fun _ =>
 ⟨_, rfl, (Array.getElem?_eq_some_iff.1 hg).1, fun j hj => by
  have ha : (⟨g, 0, none⟩ : Addr).add j = ⟨g, j, none⟩ := by unfold Addr.add; split <;> simp_all
  rw [ha, cell_of_row _ _ _ _ _ _ hg]; exact hc j hj⟩
end
section
variable {P : Program}
theorem madeCells_one (z : Value) (n : Nat) : madeCells #[z] n = Array.replicate n z := by
 apply Array.ext
 ·simp [madeCells]
 ·intro i h1 h2
  simp [madeCells, Nat.mod_one]
theorem mk_run (t e : TypeId) (z : Value) (bytes : Nat) (ht : P.underlying t = some (.slice e)) (hinfo : (P.info? e).map (fun i => (i.zero, i.size, i.bytes)) = some (some z, 1, bytes)) (hz1 : z.cells = #[z])
  (kl kc : IntKind) (n : Nat) (hbytes : bytes * n ≤ 281474976710656) (h63 : n ≤ 9223372036854775807) (w : World) :
  (Instr.makeSlice t (.int kl (n : Int)) (.int kc (n : Int))).run P w = .ok (.slice (some ⟨w.heap.size, 0, none⟩) n n) (w.alloc (.cells (Array.replicate n z) e)) := by
 rw [run_make_row' t e z bytes ht hinfo hz1 kl kc n hbytes h63 w, madeCells_one]
theorem sl_take (t e : TypeId) (kl : IntKind) (ht : P.underlying t = some (.slice e)) (hi : (P.info? e).map (·.size) = some 1) (A : Option Addr) (n c k : Nat) (hk : k ≤ c) :
  ∀ W : World, (Instr.slice t (.slice A n c) none (some (.int kl k)) none).run P W = .ok (.slice A k c) W := by
 intro W
 cases hq : P.info? e with
 | none => simp [hq] at hi
 | some i =>
  have hs : i.size = 1 := by simpa [hq] using hi
  have ha : (A.map fun x => x.add 0) = A := by cases A <;> simp [Addr.add]
  simp only [Instr.slice, Sem.run_bind, run_underlying ht, Result.andThen_ok, Instr.sliceBounds, Instr.sliceBound, asIntOf, Sem.run_pure, Option.isSome]
  rw [if_pos ⟨by omega, by omega⟩]
  simp [sizeOf, typeInfo, hq, hs, ha]
theorem sl_drop (t e : TypeId) (kl : IntKind) (ht : P.underlying t = some (.slice e)) (hi : (P.info? e).map (·.size) = some 1) (A : Option Addr) (n c k : Nat) (hk : k ≤ n) :
  ∀ W : World, (Instr.slice t (.slice A n c) (some (.int kl k)) none none).run P W = .ok (.slice (dropA A c k) (n - k) (c - k)) W := by
 intro W
 cases hq : P.info? e with
 | none => simp [hq] at hi
 | some i =>
  have hs : i.size = 1 := by simpa [hq] using hi
  simp only [Instr.slice, Sem.run_bind, run_underlying ht, Result.andThen_ok, Instr.sliceBounds, Instr.sliceBound, asIntOf, Sem.run_pure, Option.isSome]
  rw [if_pos ⟨by omega, by omega⟩]
  simp [sizeOf, typeInfo, hq, hs, dropA]
theorem sl_cut (t e : TypeId) (kl kh km : IntKind) (ht : P.underlying t = some (.slice e)) (hi : (P.info? e).map (·.size) = some 1) (A : Option Addr) (n c l h m : Nat) (xl xh xm : Int) (el : xl = l) (eh : xh = h) (em : xm = m) (h1 : l ≤ h) (h2 : h ≤ m) (h3 : m ≤ c) :
  ∀ W : World, (Instr.slice t (.slice A n c) (some (.int kl xl)) (some (.int kh xh)) (some (.int km xm))).run P W = .ok (.slice (dropA A m l) (h - l) (m - l)) W := by
 intro W
 subst el eh em
 cases hq : P.info? e with
 | none => simp [hq] at hi
 | some i =>
  have hs : i.size = 1 := by simpa [hq] using hi
  simp only [Instr.slice, Sem.run_bind, run_underlying ht, Result.andThen_ok, Instr.sliceBounds, Instr.sliceBound, asIntOf, Sem.run_pure, Option.isSome]
  rw [if_pos ⟨by omega, by omega⟩]
  simp [sizeOf, typeInfo, hq, hs, dropA, h1, h2]
end
section
variable {P : Program} {ops : Array Oper} {Q : Exit → Act → World → Prop} {S1 S2 : World → Prop} {Y : Nat → Nat} {l : Array Bool}
def cnd (S1 S2 : World → Prop) (y : Nat) (w w' : World) : Prop := if y = 0 then w' = w else if y = 1 then S1 w' else S2 w'
def wpAnyP (P : Program) (ops : Array Oper) (Q : Exit → Act → World → Prop) (S1 S2 : World → Prop) (Y : Nat → Nat) : Nat → Array Bool → Act → World → Prop
 | 0, l, a, w => Region.ready .any ops l = [] ∧ Q .normal a w
 | n + 1, l, a, w => (Region.ready .any ops l = [] → Q .normal a w) ∧ ∀ i ∈ Region.ready .any ops l, wpOp P ops Q i (fun a' w' => cnd S1 S2 (Y i) w w' ∧ wpAnyP P ops Q S1 S2 Y n (l.setIfInBounds i true) a' w') a w
theorem wpAny_of_P : ∀ (n : Nat) (l : Array Bool) (a : Act) (w : World), wpAnyP P ops Q S1 S2 Y n l a w → wpAny P .any ops Q n l a w
 | 0, _, _, _, h => h
 | n + 1, _, _, _, h => ⟨h.1, fun i hi => wpOp_mono (fun a' w' h' => wpAny_of_P n _ a' w' h'.2) (h.2 i hi)⟩
theorem unset {i j : Nat} (h : (l.setIfInBounds i true).getD j true = false) : l.getD j true = false ∧ i ≠ j := by
 by_cases hij : i = j
 ·subst hij
  rw [Array.getD_eq_getD_getElem?] at h
  by_cases hl : i < l.size
  ·simp [hl] at h
  ·simp [hl] at h
 ·rw [getD_set_ne true hij] at h; exact ⟨h, hij⟩
theorem P_of_H : ∀ (n : Nat) (l : Array Bool) (a : Act) (w : World), (∀ i, l.getD i true = false → Y i = 2) → wpAnyH P .any ops Q S2 n l a w → wpAnyP P ops Q S1 S2 Y n l a w
 | 0, _, _, _, _, h => h
 | n + 1, l, a, w, hy, h => ⟨h.1, fun i hi => wpOp_mono (fun a' w' h' => ⟨by rw [hy i (mem_ready.1 hi).1]; exact h'.1, P_of_H n _ a' w' (fun j hj => hy j (unset hj).1) h'.2⟩) (h.2 i hi)⟩
def Clo (ops : Array Oper) (l : Array Bool) : Prop := ∀ j o, l.getD j false = true → ops[j]? = some o → ∀ e ∈ o.after, Region.binds .any e = true → l.getD e.on false = true
theorem Clo.set {i : Nat} (h : Clo ops l) (hi : i ∈ Region.ready .any ops l) : Clo ops (l.setIfInBounds i true) := by
 intro j o hj ho e he hb
 by_cases hij : i = j
 ·subst hij
  obtain ⟨_, o', ho', hall⟩ := mem_ready.1 hi
  rw [ho] at ho'; injection ho' with ho'; subst ho'
  exact getD_set_true (hall e he hb)
 ·rw [getD_set_ne false hij] at hj
  exact getD_set_true (h j o hj ho e he hb)
def deps (ops : Array Oper) : Nat → Nat → Nat → Bool
 | 0, _, _ => false
 | n + 1, k, i => match ops[k]? with
  | none => false
  | some o => o.after.toList.any (fun e => Region.binds .any e && e.on == i) || o.after.toList.any (fun e => Region.binds .any e && deps ops n e.on i)
theorem deps_spec : ∀ (n k i : Nat) (o : Oper), Clo ops l → ops[k]? = some o → (∀ e ∈ o.after, Region.binds .any e = true → l.getD e.on false = true) → deps ops n k i = true → l.getD i false = true := by
 intro n
 induction n with
 | zero => intro k i o _ _ _ h; cases h
 | succ n ih =>
  intro k i o hc ho hall h
  unfold deps at h
  rw [ho] at h
  simp only [Bool.or_eq_true, List.any_eq_true, Array.mem_toList_iff] at h
  rcases h with ⟨e, he, h⟩ | ⟨e, he, h⟩
  ·simp only [Bool.and_eq_true, beq_iff_eq] at h
   rw [← h.2]; exact hall e he h.1
  ·simp only [Bool.and_eq_true] at h
   have h1 := hall e he h.1
   cases ho' : ops[e.on]? with
   | none =>
    have h2 := h.2
    cases n with
    | zero => cases h2
    | succ n => unfold deps at h2; rw [ho'] at h2; cases h2
   | some o' => exact ih e.on i o' hc ho' (hc e.on o' h1 ho') h.2
theorem P_first {i : Nat} {oi : Oper} {v : Value} (hi : ops[i]? = some oi) (hsel : Region.noSelect ops = true) (hQ : ∀ c a w, Q (.panic c) (a.put oi.dst v) w → Q (.panic c) a w) (hcl : ∀ k, Y k ≠ 0 → Y k ≠ 1 → Y k = 2) (hYi : Y i = 1) (hY : ∀ k, k < ops.size → Y k = 2 → deps ops 8 k i = true) :
  ∀ (n : Nat) (l : Array Bool) (a : Act) (w : World), Clo ops l → (∀ j oj, ops[j]? = some oj → j ≠ i → l.getD j true = false → (∀ e ∈ oj.after, Region.binds .any e = true → e.on ≠ i) → oi.apart ops oj = true) →
   i ∈ Region.ready .any ops l → YieldsIf P ops S1 oi v a → S1 w → wpAnyP P ops Q S1 S2 Y n (l.setIfInBounds i true) (a.put oi.dst v) w → wpAnyP P ops Q S1 S2 Y (n + 1) l a w := by
 have hno : ∀ {l : Array Bool} {j : Nat}, Clo ops l → i ∈ Region.ready .any ops l → j ∈ Region.ready .any ops l → Y j ≠ 2 := by
  intro l j hc hr hj hyj
  ·obtain ⟨_, o, ho, hall⟩ := mem_ready.1 hj
   have h1 := deps_spec 8 j i o hc ho hall (hY j (Array.getElem?_eq_some_iff.1 ho).1 hyj)
   have h2 := (mem_ready.1 hr).1
   rw [Array.getD_eq_getD_getElem?] at h1 h2
   cases hl : l[i]? with
   | none => rw [hl] at h1; cases h1
   | some b => rw [hl] at h1 h2; simp only [Option.getD_some] at h1 h2; rw [h1] at h2; cases h2
 intro n
 induction n with
 | zero =>
  intro l a w hc _ hr hy hS H
  refine ⟨fun h => (by rw [h] at hr; cases hr), fun j hj => ?_⟩
  by_cases hji : j = i
  ·subst hji; exact hy.wpOp hi hS ⟨by rw [hYi]; exact hS, H⟩
  ·have h1 := ready_mono hj hji
   rw [H.1] at h1
   cases h1
 | succ n ih =>
  intro l a w hc hfree hr hy hS H
  refine ⟨fun h => (by rw [h] at hr; cases hr), fun j hj => ?_⟩
  by_cases hji : j = i
  ·subst hji; exact hy.wpOp hi hS ⟨by rw [hYi]; exact hS, H⟩
  ·have hYj := hno hc hr hj
   have h1 := H.2 j (ready_mono hj hji)
   obtain ⟨hjun, oj, hoj, hall⟩ := mem_ready.1 hj
   have hnot : ∀ e ∈ oj.after, Region.binds .any e = true → e.on ≠ i := fun e he hb heq => by
    have g1 := hall e he hb
    have g0 := (mem_ready.1 hr).1
    rw [heq, Array.getD_eq_getD_getElem?] at g1
    rw [Array.getD_eq_getD_getElem?] at g0
    cases hl : l[i]? with
    | none => rw [hl] at g1; cases g1
    | some b => rw [hl] at g1 g0; simp only [Option.getD_some] at g1 g0; rw [g1] at g0; cases g0
   have h2 := wpOp_putIf hoj (hfree j oj hoj hji hjun hnot) (fun cs b => Region.noSelect_spec hsel i oi cs b hi) (fun cs b => Region.noSelect_spec hsel j oj cs b hoj) hQ hy h1
   refine wpOp_mono (fun a' w' h3 => ?_) h2
   obtain ⟨h3, h4, h5⟩ := h3
   have h6 : S1 w' := by
    unfold cnd at h4
    split at h4
    ·rw [h4]; exact hS
    ·split at h4
     ·exact h4
     ·rename_i q1 q2; exact (hYj (hcl _ q1 q2)).elim
   refine ⟨h4, ih _ a' w' (hc.set hj) (fun k ok hk hki hun hno' => hfree k ok hk hki (unset hun).1 hno') (ready_mono hr (Ne.symm hji)) h3 h6 ?_⟩
   rw [Array.setIfInBounds_comm _ _ hji]
   exact h5
theorem P_zero {i : Nat} {oi : Oper} {v : Value} (hi : ops[i]? = some oi) (hsel : Region.noSelect ops = true) (hQ : ∀ c a w, Q (.panic c) (a.put oi.dst v) w → Q (.panic c) a w) (hYi : Y i = 0) (h12 : ∀ w, S1 w → S2 w) :
  ∀ (n : Nat) (l : Array Bool) (a : Act) (w : World), Clo ops l → (∀ j oj, ops[j]? = some oj → j ≠ i → l.getD j true = false → (∀ e ∈ oj.after, Region.binds .any e = true → e.on ≠ i) → oi.apart ops oj = true) →
   i ∈ Region.ready .any ops l → YieldsIf P ops S2 oi v a → S2 w → wpAnyP P ops Q S1 S2 Y n (l.setIfInBounds i true) (a.put oi.dst v) w → wpAnyP P ops Q S1 S2 Y (n + 1) l a w := by
 intro n
 induction n with
 | zero =>
  intro l a w hc _ hr hy hS H
  refine ⟨fun h => (by rw [h] at hr; cases hr), fun j hj => ?_⟩
  by_cases hji : j = i
  ·subst hji; exact hy.wpOp hi hS ⟨by rw [hYi]; rfl, H⟩
  ·have h1 := ready_mono hj hji
   rw [H.1] at h1
   cases h1
 | succ n ih =>
  intro l a w hc hfree hr hy hS H
  refine ⟨fun h => (by rw [h] at hr; cases hr), fun j hj => ?_⟩
  by_cases hji : j = i
  ·subst hji; exact hy.wpOp hi hS ⟨by rw [hYi]; rfl, H⟩
  ·have h1 := H.2 j (ready_mono hj hji)
   obtain ⟨hjun, oj, hoj, hall⟩ := mem_ready.1 hj
   have hnot : ∀ e ∈ oj.after, Region.binds .any e = true → e.on ≠ i := fun e he hb heq => by
    have g1 := hall e he hb
    have g0 := (mem_ready.1 hr).1
    rw [heq, Array.getD_eq_getD_getElem?] at g1
    rw [Array.getD_eq_getD_getElem?] at g0
    cases hl : l[i]? with
    | none => rw [hl] at g1; cases g1
    | some b => rw [hl] at g1 g0; simp only [Option.getD_some] at g1 g0; rw [g1] at g0; cases g0
   have h2 := wpOp_putIf hoj (hfree j oj hoj hji hjun hnot) (fun cs b => Region.noSelect_spec hsel i oi cs b hi) (fun cs b => Region.noSelect_spec hsel j oj cs b hoj) hQ hy h1
   refine wpOp_mono (fun a' w' h3 => ?_) h2
   obtain ⟨h3, h4, h5⟩ := h3
   have h6 : S2 w' := by
    unfold cnd at h4
    split at h4
    ·rw [h4]; exact hS
    ·split at h4
     ·exact h12 _ h4
     ·exact h4
   refine ⟨h4, ih _ a' w' (hc.set hj) (fun k ok hk hki hun hno' => hfree k ok hk hki (unset hun).1 hno') (ready_mono hr (Ne.symm hji)) h3 h6 ?_⟩
   rw [Array.setIfInBounds_comm _ _ hji]
   exact h5
def okP (ops : Array Oper) (Y : Nat → Nat) (σ2 : List Sg) : Array Bool → List Sg → Bool
 | l, [] => okS ops l σ2 && (List.range ops.size).all (fun i => l.getD i true || Y i == 2)
 | l, .one (i, true, _) :: r => Y i == 1 && (List.range ops.size).all (fun k => !(Y k == 2) || deps ops 8 k i) && Region.free .any ops l i && (Region.ready .any ops l).contains i && okP ops Y σ2 (l.setIfInBounds i true) r
 | l, .one (i, false, _) :: r => Y i == 1 && (Region.ready .any ops l == [i]) && okP ops Y σ2 (l.setIfInBounds i true) r
 | _, .two _ _ _ _ :: _ => false
def okZ (ops : Array Oper) (Y : Nat → Nat) (σ1 σ2 : List Sg) : Array Bool → List Sg → Bool
 | l, [] => okP ops Y σ2 l σ1
 | l, .one (i, true, _) :: r => Y i == 0 && Region.free .any ops l i && (Region.ready .any ops l).contains i && okZ ops Y σ1 σ2 (l.setIfInBounds i true) r
 | _, _ => false
theorem phase_held {Q1 : Exit → Act → World → Prop} {σ2 : List Sg} (hsel : Region.noSelect ops = true) (hcl : ∀ k, Y k ≠ 0 → Y k ≠ 1 → Y k = 2) (h12 : ∀ w, S1 w → S2 w) (hQ1 : ∀ a w, Q1 .normal a w → Sched P ops Q S2 σ2 a w) :
  ∀ (σ1 : List Sg) (l : Array Bool) (a : Act) (w : World), l.size = ops.size → Clo ops l → okP ops Y σ2 l σ1 = true → S1 w → Sched P ops Q1 S1 σ1 a w → wpAnyP P ops (np Q) S1 S2 Y (cost σ1 + cost σ2) l a w := by
 intro σ1
 induction σ1 with
 | nil =>
  intro l a w hl _ hok hS h
  simp only [okP, Bool.and_eq_true, List.all_eq_true, List.mem_range, Bool.or_eq_true, beq_iff_eq] at hok
  rw [show cost [] + cost σ2 = cost σ2 from Nat.zero_add _]
  refine P_of_H _ _ _ _ (fun i hi => ?_) (sched_held hsel σ2 l a w hok.1 (h12 w hS) (hQ1 a w h))
  by_cases hlt : i < ops.size
  ·rcases hok.2 i hlt with h1 | h1
   ·rw [hi] at h1; cases h1
   ·exact h1
  ·rw [Array.getD_eq_getD_getElem?, Array.getElem?_eq_none (by omega)] at hi; cases hi
 | cons x r ih =>
  cases x with
  | two i j N M => intro l a w _ _ hok _ _; simp [okP] at hok
  | one x =>
   obtain ⟨i, b, N⟩ := x
   intro l a w hl hc hok hS h
   rw [show cost (.one (i, b, N) :: r) + cost σ2 = (cost r + cost σ2) + 1 from by simp only [cost]; omega]
   cases b with
   | true =>
    obtain ⟨o, v, ho, rfl, hy, h⟩ := h
    simp only [okP, Bool.and_eq_true, Bool.not_eq_true', List.all_eq_true, List.mem_range, Bool.or_eq_true, List.contains_iff_mem, beq_iff_eq, beq_eq_false_iff_ne] at hok
    obtain ⟨⟨⟨⟨h1, h2⟩, h3⟩, h4⟩, h5⟩ := hok
    exact P_first ho hsel (fun _ _ _ hp => hp) hcl h1 (fun k hk hy => (h2 k hk).resolve_left (fun hn => hn hy)) _ l a w hc (Region.free_spec ho h3) h4 hy hS (ih _ _ _ (by simpa using hl) (hc.set h4) h5 hS h)
   | false =>
    obtain ⟨o, ho, rfl, h⟩ := h
    simp only [okP, Bool.and_eq_true, beq_iff_eq] at hok
    obtain ⟨⟨h1, h2⟩, h3⟩ := hok
    refine ⟨fun h0 => (by rw [h2] at h0; cases h0), fun j hj => ?_⟩
    have hr : i ∈ Region.ready .any ops l := by rw [h2]; simp
    rw [h2] at hj
    simp only [List.mem_singleton] at hj
    subst hj
    have h' := h (fun a' w' => cnd S1 S2 (Y j) w w' ∧ wpAnyP P ops (np Q) S1 S2 Y (cost r + cost σ2) (l.setIfInBounds j true) a' w') (fun a' w' hS' hh => ⟨by rw [h1]; exact hS', ih _ _ _ (by simpa using hl) (hc.set hr) h3 hS' hh⟩)
    unfold wpOp
    simp only [ho]
    split
    ·rename_i hw; rw [if_pos hw] at h'; exact .inl (upon_weaken _ h')
    ·rename_i hw; rw [if_neg hw] at h'; exact h'
theorem zero_held {Q0 Q1 : Exit → Act → World → Prop} {σ1 σ2 : List Sg} (hsel : Region.noSelect ops = true) (hcl : ∀ k, Y k ≠ 0 → Y k ≠ 1 → Y k = 2) (h12 : ∀ w, S1 w → S2 w) (hQ1 : ∀ a w, Q1 .normal a w → Sched P ops Q S2 σ2 a w) (hQ0 : ∀ a w, Q0 .normal a w → Sched P ops Q1 S1 σ1 a w) :
  ∀ (σ0 : List Sg) (l : Array Bool) (a : Act) (w : World), l.size = ops.size → Clo ops l → okZ ops Y σ1 σ2 l σ0 = true → S1 w → Sched P ops Q0 S2 σ0 a w → wpAnyP P ops (np Q) S1 S2 Y (cost σ0 + (cost σ1 + cost σ2)) l a w := by
 intro σ0
 induction σ0 with
 | nil =>
  intro l a w hl hc hok hS h
  rw [show cost [] + (cost σ1 + cost σ2) = cost σ1 + cost σ2 from Nat.zero_add _]
  exact phase_held hsel hcl h12 hQ1 σ1 l a w hl hc hok hS (hQ0 a w h)
 | cons x r ih =>
  cases x with
  | two i j N M => intro l a w _ _ hok _ _; simp [okZ] at hok
  | one x =>
   obtain ⟨i, b, N⟩ := x
   intro l a w hl hc hok hS h
   rw [show cost (.one (i, b, N) :: r) + (cost σ1 + cost σ2) = (cost r + (cost σ1 + cost σ2)) + 1 from by simp only [cost]; omega]
   cases b with
   | true =>
    obtain ⟨o, v, ho, rfl, hy, h⟩ := h
    simp only [okZ, Bool.and_eq_true, List.contains_iff_mem, beq_iff_eq] at hok
    obtain ⟨⟨⟨h1, h3⟩, h4⟩, h5⟩ := hok
    exact P_zero ho hsel (fun _ _ _ hp => hp) h1 h12 _ l a w hc (Region.free_spec ho h3) h4 hy (h12 w hS) (ih _ _ _ (by simpa using hl) (hc.set h4) h5 hS h)
   | false => simp [okZ] at hok
def phL (P : Program) (Q : Exit → Act → World → Prop) (S2 : World → Prop) (L2 : List Itm) : Exit → Act → World → Prop
 | .normal, a, w => SL P Q S2 L2 a w
 | _, _, _ => False
theorem sl_next {L2 : List Itm} {a : Act} {w : World} (h : SL P Q S2 L2 a w) : SL P (phL P Q S2 L2) S1 [] a w := h
def cls (xs ys : List Nat) (i : Nat) : Nat := if ys.contains i then 2 else if xs.contains i then 0 else 1
theorem wp_region_ph {id : Nat} {a : Act} {w : World} (xs ys : List Nat) (σ0 : List Sg) (L0 : List Itm) (σ1 : List Sg) (L1 : List Itm) (σ2 : List Sg) (L2 : List Itm) (S1 S2 : World → Prop) (hm : P.follows .mixedOrders = true)
  (hok : (Region.noSelect ops && (ops.size == cost σ0 + (cost σ1 + cost σ2)) && okZ ops (cls xs ys) σ1 σ2 (Array.replicate ops.size false) σ0 && dstsOk ops σ0 && dstsOk ops σ1 && dstsOk ops σ2) = true) (hL0 : strips ops σ0 = some L0) (hL1 : strips ops σ1 = some L1) (hL2 : strips ops σ2 = some L2) (hS : S1 w.drew) (h12 : ∀ w, S1 w → S2 w)
  (h : SL P (phL P (phL P Q S2 L2) S1 L1) S2 L0 a w.drew) : (Code.region id ops true).wp P Q a w := by
 simp only [Bool.and_eq_true, beq_iff_eq] at hok
 obtain ⟨⟨⟨⟨⟨h1, h2⟩, h3⟩, h4⟩, h5⟩, h6⟩ := hok
 refine np_mono (wp_region_any hm (wpAny_of_P (S1 := S1) (S2 := S2) (Y := cls xs ys) _ _ _ _ ?_))
 rw [h2]
 exact zero_held h1 (fun k q1 q2 => by unfold cls at q1 q2 ⊢; split; rfl; rename_i q3; rw [if_neg q3] at q1 q2; split at q1 <;> simp_all) h12 (fun a w hh => sl_sched σ2 L2 a w hL2 h6 hh) (fun a w hh => sl_sched σ1 L1 a w hL1 h5 hh) σ0 _ a _ (by simp [h2]) (fun j o hj => by
  rw [Array.getD_eq_getD_getElem?] at hj
  simp [Array.getElem?_replicate] at hj
  split at hj <;> cases hj) (by rw [h2] at h3; exact h3) hS (sl_sched σ0 L0 a _ hL0 h4 h)
end
end Go.Proofs.YticnjkdaccacaaaGreat.Base
end
section
namespace Go.Proofs.YticnjkdaccacaaaGreat.Oq
open Go Go.RowKit Base
structure Chg (F : Nat → Prop) (w w' : World) : Prop where
 os : w'.os = w.os
 tape : w'.tape = w.tape
 output : w'.output = w.output
 size : w.heap.size ≤ w'.heap.size
 block : ∀ k, k < w.heap.size → ¬ F k → w'.heap[k]? = w.heap[k]?
section
variable {F G : Nat → Prop} {w w' w'' : World}
theorem Chg.refl (F : Nat → Prop) (w : World) : Chg F w w := ⟨rfl, rfl, rfl, Nat.le_refl _, fun _ _ _ => rfl⟩
theorem Chg.then (h : Chg F w w') (h' : Chg G w' w'') : Chg (fun k => F k ∨ G k) w w'' :=
 ⟨h'.os.trans h.os, h'.tape.trans h.tape, h'.output.trans h.output, Nat.le_trans h.size h'.size,
  fun k hk hn => (h'.block k (Nat.lt_of_lt_of_le hk h.size) (fun hg => hn (.inr hg))).trans (h.block k hk (fun hf => hn (.inl hf)))⟩
theorem Chg.trans (h : Chg F w w') (h' : Chg G w' w'') (hs : ∀ k, k < w.heap.size → G k → F k) : Chg F w w'' :=
 ⟨h'.os.trans h.os, h'.tape.trans h.tape, h'.output.trans h.output, Nat.le_trans h.size h'.size,
  fun k hk hn => (h'.block k (Nat.lt_of_lt_of_le hk h.size) (fun hg => hn (hs k hk hg))).trans (h.block k hk hn)⟩
theorem Chg.mono (h : Chg F w w') (hs : ∀ k, k < w.heap.size → F k → G k) : Chg G w w' := ⟨h.os, h.tape, h.output, h.size, fun k hk hn => h.block k hk (fun hf => hn (hs k hk hf))⟩
theorem Chg.of_below {B : Nat} (h : Below B w w') : Chg (fun k => B ≤ k) w w' := ⟨h.os, h.tape, h.output, h.size, fun k _ hn => h.block k (Nat.lt_of_not_le hn)⟩
theorem Chg.of_new (h : Below w.heap.size w w') : Chg (fun _ => False) w w' := ⟨h.os, h.tape, h.output, h.size, fun k hk _ => h.block k hk⟩
theorem Chg.of_grown {row : Option Nat} (h : w.grownBy w' row) : Chg (fun k => some k = row) w w' := ⟨h.os, h.tape, h.output, h.size, fun k hk hn => h.block k hk hn⟩
theorem Chg.below {w0 : World} {B : Nat} (h : Below B w0 w) (hc : Chg F w w') (hB : B ≤ w.heap.size) (hF : ∀ k, F k → B ≤ k) : Below B w0 w' :=
 h.trans ⟨hc.os, hc.tape, hc.output, hc.size, fun k hk => hc.block k (Nat.lt_of_lt_of_le hk hB) (fun hf => Nat.not_le.2 hk (hF k hf))⟩
theorem Chg.to_below {B : Nat} (hc : Chg F w w') (hB : B ≤ w.heap.size) (hF : ∀ k, F k → B ≤ k) : Below B w w' := Chg.below (Below.refl B w) hc hB hF
theorem Chg.alloc (w : World) (o : Obj) : Chg (fun _ => False) w (w.alloc o) := ⟨rfl, rfl, rfl, by simp, fun k hk _ => Below.heap_alloc w o k hk⟩
theorem Chg.setCell (w : World) (p : Addr) (u : Value) : Chg (fun k => k = p.block) w (w.setCell p u) := ⟨rfl, rfl, rfl, by simp [World.setCell], fun k _ hn => Below.heap_setCell _ _ _ _ hn⟩
theorem Chg.drew (w : World) : Chg (fun _ => False) w w.drew := ⟨rfl, rfl, rfl, Nat.le_refl _, fun _ _ _ => rfl⟩
end
def OwnI (k : IntKind) (w : World) (B : Nat) (e : TypeId) (v : Value) (l : List Int) : Prop := w.ownsRow B e 1 v l.length (l.map (Value.int k))
section
variable {k : IntKind} {w w' : World} {B : Nat} {e : TypeId} {v : Value} {l : List Int}
theorem OwnI.nil (k : IntKind) (w : World) (B : Nat) (e : TypeId) : OwnI k w B e (.slice none 0 0) [] := ⟨by simp, .inl ⟨rfl, rfl⟩⟩
theorem OwnI.slice (h : OwnI k w B e v l) : ∃ A c, v = .slice A l.length c ∧ l.length ≤ c ∧ c ≤ maxLen ∧ Rd k w A l ∧ ∀ ad, A = some ad → B ≤ ad.block ∧ ad.block < w.heap.size ∧ ad = ⟨ad.block, 0, none⟩ := by
 rcases h.2 with ⟨rfl, h0⟩ | ⟨g, cap, cur, rfl, hB, hg, h1, h2, h3, h4⟩
 ·obtain rfl : l = [] := List.eq_nil_of_length_eq_zero h0
  exact ⟨none, 0, rfl, Nat.le_refl _, Nat.zero_le _, Rd.nil, fun ad e => by cases e⟩
 ·refine ⟨_, cap, rfl, h1, h2, Rd.block hg (fun j hj => ?_), fun ad e => ?_⟩
  ·have h5 : (cur.toList.take (l.length * 1))[j]? = (l.map (Value.int k))[j]? := by rw [h4]
   rw [List.getElem?_take, if_pos (by omega)] at h5
   have h6 : cur[j]? = cur.toList[j]? := by simp
   rw [h6, h5]
   simp [List.getElem?_eq_getElem hj, List.getD_eq_getElem?_getD]
  ·injection e with e; subst e
   exact ⟨hB, (Array.getElem?_eq_some_iff.1 hg).1, rfl⟩
theorem OwnI.kept {F : Nat → Prop} (h : OwnI k w B e v l) (hc : Chg F w w') (hF : ∀ g, v.ownBlock = some g → ¬ F g) : OwnI k w' B e v l := by
 refine ⟨h.1, ?_⟩
 rcases h.2 with hn | ⟨g, cap, cur, rfl, hb, hgg, rest⟩
 ·exact .inl hn
 ·refine .inr ⟨g, cap, cur, rfl, hb, ?_, rest⟩
  rw [hc.block g (Array.getElem?_eq_some_iff.1 hgg).1 (hF g rfl)]
  exact hgg
theorem OwnI.new (h : OwnI k w B e v l) (hb : Below w.heap.size w w') : OwnI k w' B e v l := h.kept (Chg.of_new hb) (fun _ _ hf => hf)
theorem OwnI.alloc (h : OwnI k w B e v l) (o : Obj) : OwnI k (w.alloc o) B e v l := h.kept (Chg.alloc w o) (fun _ _ hf => hf)
theorem OwnI.lower {B' : Nat} (h : OwnI k w B e v l) (hB : B' ≤ B) : OwnI k w B' e v l := by
 refine ⟨h.1, ?_⟩
 rcases h.2 with hn | ⟨g, cap, cur, rfl, hb, rest⟩
 ·exact .inl hn
 ·exact .inr ⟨g, cap, cur, rfl, Nat.le_trans hB hb, rest⟩
theorem OwnI.lt (h : OwnI k w B e v l) : ∀ g, v.ownBlock = some g → B ≤ g ∧ g < w.heap.size := World.ownsRow.lt h
theorem OwnI.set {g n c j : Nat} {x : Int} (h : OwnI k w B e (.slice (some ⟨g, 0, none⟩) n c) l) (hj : j < l.length) : OwnI k (w.setCell ⟨g, j, none⟩ (.int k x)) B e (.slice (some ⟨g, 0, none⟩) n c) (l.set j x) := by
 refine ⟨by simp, ?_⟩
 rcases h.2 with ⟨h1, _⟩ | ⟨g', cap, cur, h1, hB, hg, h2, h3, h4, h5⟩
 ·cases h1
 ·injection h1 with h1 h6 h7
  injection h1 with h1
  injection h1 with h1
  subst h1 h7 h6
  refine .inr ⟨g, c, cur.setIfInBounds j (.int k x), by rw [List.length_set], hB, heap_setCell_same _ _ _ _ _ _ hg, by rw [List.length_set]; exact h2, h3, by rw [Array.size_setIfInBounds]; exact h4, ?_⟩
  rw [List.length_set, Array.toList_setIfInBounds, List.take_set, h5, List.map_set]
theorem OwnI.cell {g n c j : Nat} (h : OwnI k w B e (.slice (some ⟨g, 0, none⟩) n c) l) (hj : j < l.length) : w.cell? ⟨g, j, none⟩ = some (.int k (l.getD j 0)) ∧ w.frozen? ⟨g, j, none⟩ = false ∧ B ≤ g ∧ g < w.heap.size ∧ n = l.length ∧ n ≤ c := by
 rcases h.2 with ⟨h1, _⟩ | ⟨g', cap, cur, h1, hB, hg, h2, h3, h4, h5⟩
 ·cases h1
 ·injection h1 with h1 h6 h7
  injection h1 with h1
  injection h1 with h1
  subst h1 h7
  refine ⟨?_, frozen_of_row _ _ _ _ _ hg, hB, (Array.getElem?_eq_some_iff.1 hg).1, h6, by omega⟩
  have h8 : (cur.toList.take (l.length * 1))[j]? = (l.map (Value.int k))[j]? := by rw [h5]
  rw [List.getElem?_take, if_pos (by omega)] at h8
  rw [cell_of_row _ _ _ _ _ _ hg]
  have h9 : cur[j]? = cur.toList[j]? := by simp
  rw [h9, h8]
  simp [List.getElem?_eq_getElem hj, List.getD_eq_getElem?_getD]
theorem OwnI.ptr (h : OwnI k w B e v l) (hl : 0 < l.length) : ∃ g c, v = .slice (some ⟨g, 0, none⟩) l.length c := by
 obtain ⟨A, c, rfl, _, _, hr, hA⟩ := h.slice
 obtain ⟨ad, rfl, _⟩ := hr (by intro e; rw [e] at hl; exact absurd hl (Nat.lt_irrefl _))
 exact ⟨ad.block, c, by rw [(hA ad rfl).2.2]⟩
def Sep (v u : Value) : Prop := ∀ g, v.ownBlock = some g → u.ownBlock ≠ some g
theorem Sep.nil (u : Value) : Sep (.slice none 0 0) u := fun g h => by simp [Value.ownBlock] at h
theorem Sep.grow {v u v' : Value} {n : Nat} (h : Sep v u) (hv : v'.ownBlock = v.ownBlock ∨ ∃ g, v'.ownBlock = some g ∧ n ≤ g) (hu : ∀ g, u.ownBlock = some g → g < n) : Sep v' u := by
 intro g h1 h2
 rcases hv with hv | ⟨g', h3, h4⟩
 ·rw [hv] at h1; exact h g h1 h2
 ·rw [h1] at h3; injection h3 with h3; subst h3; exact Nat.not_le.2 (hu g h2) h4
theorem OwnI.made (w : World) (k : IntKind) (l : List Int) (e : TypeId) (cs : Array Value) (hcs : cs = (l.map (Value.int k)).toArray) (hB : B ≤ w.heap.size) (hl : l.length ≤ maxLen) :
  OwnI k (w.alloc (.cells cs e)) B e (.slice (some ⟨w.heap.size, 0, none⟩) l.length l.length) l := by
 refine ⟨by simp, .inr ⟨_, _, cs, rfl, hB, heap_alloc_new _ _, Nat.le_refl _, hl, by subst hcs; simp, ?_⟩⟩
 subst hcs
 rw [Nat.mul_one]
 exact List.take_of_length_le (by simp)
end
section
variable {P : Program} {w : World} {k : IntKind} {B : Nat} {e : TypeId} {v : Value} {l : List Int}
theorem ap_run (t ty : TypeId) (z : Value) (bytes : Nat) (ht : P.underlying t = some (.slice e)) (hinfo : (P.info? e).map (fun i => (i.zero, i.size, i.bytes)) = some (some z, 1, bytes)) (hz : z.cells.size = 1)
  (hown : OwnI k w B e v l) (X : Option Addr) (n c : Nat) (news : List Int) (hn : news.length = n) (hX : Rd k w X news) (hXn : X = none → n = 0) (h63 : l.length + n ≤ maxLen) (hb : (l.length + n) * bytes ≤ 140737488355328) (hbase : B ≤ w.heap.size) :
  ∃ v' w', (Builtin.append_ #[t, t] ty #[v, .slice X n c]).run P w = .ok v' w' ∧ OwnI k w' B e v' (l ++ news) ∧ w.grownBy w' v.ownBlock ∧ (v'.ownBlock = v.ownBlock ∨ v'.ownBlock = some w.heap.size) := by
 obtain ⟨i, hi, hzz⟩ := Option.map_eq_some_iff.1 hinfo
 simp only [Prod.mk.injEq] at hzz
 obtain ⟨hz0, hs, hby⟩ := hzz
 subst hn
 cases X with
 | some ad =>
  obtain ⟨v', w', h1, h2, h3, _, h5⟩ := run_append_own_at (P := P) w B t ty e i z 1 bytes ht hi hz0 hs hby hz (by omega) v l.length (l.map (Value.int k)) hown ad news.length c (news.map (Value.int k)) (by simp)
   (fun j u hu => by
    have hj : j < news.length := by
     have := (List.getElem?_eq_some_iff.1 hu).1; simpa using this
    obtain ⟨ad', e', _, hc⟩ := hX.cell hj
    cases e'
    rw [hc, ← hu]
    simp [List.getElem?_eq_getElem hj, List.getD_eq_getElem?_getD])
   (fun u hu => by obtain ⟨x, _, rfl⟩ := List.mem_map.1 hu; rfl) h63 hb hbase
  refine ⟨v', w', h1, ?_, h3, h5⟩
  unfold OwnI
  rw [List.length_append, List.map_append]
  exact h2
 | none =>
  obtain rfl : news = [] := List.eq_nil_of_length_eq_zero (hXn rfl)
  obtain ⟨A, c', rfl, h1, h2, _⟩ := hown.slice
  refine ⟨_, w, ?_, by rw [List.append_nil]; exact hown, ⟨rfl, rfl, rfl, Nat.le_refl _, fun _ _ _ => rfl⟩, .inl rfl⟩
  simp only [Builtin.append_, Sem.run_bind, run_underlying ht, Result.andThen_ok]
  have hu : ((TypeDesc.slice e) matches .int _) = false := rfl
  simp [sizeOf, typeInfo, hi, hs, Builtin.lenOf, h1, Builtin.firstCells, run_underlying ht]
  cases A <;> simp [storeCells]
structure RowTy (P : Program) (t e : TypeId) (k : IntKind) : Prop where
 ht : P.underlying t = some (.slice e)
 hi : ∃ bytes, bytes ≤ 8 ∧ (P.info? e).map (fun i => (i.zero, i.size, i.bytes)) = some (some (.int k 0), 1, bytes)
theorem ap_wp {w0 : World} {K : Act → World → Prop} {Q : Exit → Act → World → Prop} {o : Oper} {a : Act} {t : TypeId} (T : RowTy P t e k) (bd : Below w0.heap.size w0 w) (hown : OwnI k w w0.heap.size e v l) {X : Option Addr} {news : List Int} (hX : Rd k w X news) (hXn : X = none → news = [])
  (hb : l.length + news.length ≤ 17592186044416) (s x : Operand) (n c : Nat) (ho : o.op = .call { callee := .builtin .append, args := #[s, x], argTypes := #[t, t] }) (hs : a.eval s = v) (hx : a.eval x = .slice X n c) (hn : news.length = n)
  (h : ∀ v' w', OwnI k w' w0.heap.size e v' (l ++ news) → Below w0.heap.size w0 w' → w.grownBy w' v.ownBlock → (v'.ownBlock = v.ownBlock ∨ v'.ownBlock = some w.heap.size) → K (a.put o.dst v') w') : Oper.wp P o a w K Q := by
 obtain ⟨bytes, hle, hinfo⟩ := T.hi
 subst hn
 have hmul : (l.length + news.length) * bytes ≤ (l.length + news.length) * 8 := Nat.mul_le_mul_left _ hle
 obtain ⟨v', w', hr, h2, h3, h4⟩ := ap_run (P := P) t o.type (.int k 0) bytes T.ht hinfo rfl hown X news.length c news rfl hX (fun e => by rw [hXn e]; rfl) (by unfold maxLen; omega) (by omega) bd.size
 unfold Oper.wp execOp
 simp only [ho, resolve, invoke, builtin, Sem.run_bind, Sem.run_pure, Result.andThen_ok, List.map_toArray, List.map_cons, List.map_nil, hs, hx, hr]
 exact h v' w' h2 (bd.grown h3 bd.size fun k hk => (hown.lt k hk).1) h3 h4
theorem ap_list {w0 : World} {ops : Array Oper} {rest : List Oper} {Q : Exit → Act → World → Prop} {o : Oper} {a : Act} {t : TypeId} (hgd : o.guard = none) (T : RowTy P t e k) (bd : Below w0.heap.size w0 w) (hown : OwnI k w w0.heap.size e v l) {X : Option Addr} {news : List Int} (hX : Rd k w X news) (hXn : X = none → news = [])
  (hb : l.length + news.length ≤ 17592186044416) (s x : Operand) (n c : Nat) (ho : o.op = .call { callee := .builtin .append, args := #[s, x], argTypes := #[t, t] }) (hs : a.eval s = v) (hx : a.eval x = .slice X n c) (hn : news.length = n)
  (h : ∀ v' w', OwnI k w' w0.heap.size e v' (l ++ news) → Below w0.heap.size w0 w' → w.grownBy w' v.ownBlock → (v'.ownBlock = v.ownBlock ∨ v'.ownBlock = some w.heap.size) → wpList P ops Q rest (a.put o.dst v') w') : wpList P ops Q (o :: rest) a w :=
 wpList_plain hgd fun _ hK => ap_wp T bd hown hX hXn hb s x n c ho hs hx hn fun v' w' h1 h2 h3 h4 => hK _ _ (h v' w' h1 h2 h3 h4)
theorem copy_run {g c : Nat} (dT sT ty elem : TypeId) (hu : P.underlying dT = some (.slice elem)) (hs : (P.info? elem).map (·.size) = some 1) (h : OwnI k w B e (.slice (some ⟨g, 0, none⟩) l.length c) l) (off : Nat) (D : Option Addr) (dLen dCap : Nat) (X : Option Addr) (sLen sCap : Nat) (src : List Int)
  (hD : src ≠ [] → D = some ⟨g, off, none⟩) (hX : Rd k w X src) (hn : src.length = Nat.min sLen dLen) (hfit : off + src.length ≤ l.length) :
  ∃ w', (Builtin.copy_ #[dT, sT] ty #[.slice D dLen dCap, .slice X sLen sCap]).run P w = .ok (goInt src.length) w' ∧ OwnI k w' B e (.slice (some ⟨g, 0, none⟩) l.length c) (splice l off src) ∧ Chg (fun k => k = g) w w' := by
 by_cases h0 : src = []
 ·subst h0
  refine ⟨w, run_copy_none w dT sT ty elem D X dLen dCap sLen sCap hu hs (by simpa using hn.symm), ?_, Chg.refl _ _⟩
  have : splice l off ([] : List Int) = l := by simp [splice]
  rw [this]; exact h
 ·obtain rfl := hD h0
  obtain ⟨ad, rfl, h1, h2⟩ := hX h0
  rcases h.2 with ⟨h3, _⟩ | ⟨g', cap, cur, h3, hB, hg, h4, h5, h6, h7⟩
  ·cases h3
  ·injection h3 with h3 h8 h9
   injection h3 with h3
   injection h3 with h3
   subst h3 h9
   have hr := run_copy_row (P := P) w dT sT ty elem g off dLen dCap ad sLen sCap cur e (src.map (Value.int k)) hu hs hg (by rw [List.length_map]; exact hn) (fun j v hj => by
    have hjl : j < src.length := by
     rcases Nat.lt_or_ge j src.length with h | h
     ·exact h
     ·simp [List.getElem?_eq_none (show (src.map (Value.int k)).length ≤ j by simpa using h)] at hj
    rw [h2 j hjl]
    simp [List.getElem?_eq_getElem hjl] at hj
    subst hj
    simp [List.getD, List.getElem?_eq_getElem hjl]) (by rw [List.length_map]; omega) (fun v hv => by obtain ⟨x, _, rfl⟩ := List.mem_map.1 hv; rfl)
   rw [List.length_map] at hr
   have hsz : off + src.length ≤ cur.toList.length := by simp; omega
   refine ⟨_, hr, ⟨by simp, .inr ⟨g, c, _, by rw [length_splice _ _ _ hfit], hB, setRow_heap w g cur _ e _ hg, by rw [length_splice _ _ _ hfit]; exact h4, h5, ?_, ?_⟩⟩, ⟨rfl, rfl, rfl, by simp [World.setRow], fun j hj hn' => setRow_other w g j _ hn'⟩⟩
   ·simp; omega
   ·rw [length_splice _ _ _ hfit, Nat.mul_one]
    have h7' : cur.toList.take l.length = l.map (Value.int k) := by rw [← h7, Nat.mul_one]
    simp only [splice, List.map_append, List.map_take, List.map_drop]
    rw [← h7']
    simp only [List.take_append, List.length_take, List.length_append, List.length_map, List.length_drop, List.append_assoc, List.take_take, List.drop_take]
    rw [show min l.length off = off by omega, show min off cur.toList.length = off by omega, List.take_of_length_le (l := List.map (Value.int k) src) (by rw [List.length_map]; omega), show l.length - off - src.length = l.length - (off + src.length) by omega, show min off l.length = off by omega]
theorem copy_list {ops : Array Oper} {rest : List Oper} {Q : Exit → Act → World → Prop} {o : Oper} {a : Act} {g c : Nat} (hgd : o.guard = none) (d s : Operand) (dT sT elem : TypeId) (ho : o.op = .call { callee := .builtin .copy, args := #[d, s], argTypes := #[dT, sT] })
  (hu : P.underlying dT = some (.slice elem)) (hs : (P.info? elem).map (·.size) = some 1) (h : OwnI k w B e (.slice (some ⟨g, 0, none⟩) l.length c) l) (off : Nat) (D : Option Addr) (dLen dCap : Nat) (X : Option Addr) (sLen sCap : Nat) (src : List Int)
  (hd : a.eval d = .slice D dLen dCap) (hss : a.eval s = .slice X sLen sCap)
  (hD : src ≠ [] → D = some ⟨g, off, none⟩) (hX : Rd k w X src) (hn : src.length = Nat.min sLen dLen) (hfit : off + src.length ≤ l.length)
  (hK : ∀ w', OwnI k w' B e (.slice (some ⟨g, 0, none⟩) l.length c) (splice l off src) → Chg (fun k => k = g) w w' → wpList P ops Q rest (a.put o.dst (goInt src.length)) w') : wpList P ops Q (o :: rest) a w := by
 obtain ⟨w', hr, h1, h2⟩ := copy_run (P := P) dT sT o.type elem hu hs h off D dLen dCap X sLen sCap src hD hX hn hfit
 refine wpList_plain hgd fun K hK' => ?_
 unfold Oper.wp
 simp [execOp, ho, resolve, invoke, builtin, hd, hss, hr, Result.andThen]
 exact hK' _ _ (hK w' h1 h2)
theorem copy_list_m {ops : Array Oper} {rest : List Oper} {Q : Exit → Act → World → Prop} {o : Oper} {a : Act} {g c m : Nat} (hm : l.length = m) (hgd : o.guard = none) (d s : Operand) (dT sT elem : TypeId) (ho : o.op = .call { callee := .builtin .copy, args := #[d, s], argTypes := #[dT, sT] })
  (hu : P.underlying dT = some (.slice elem)) (hs : (P.info? elem).map (·.size) = some 1) (h : OwnI k w B e (.slice (some ⟨g, 0, none⟩) m c) l) (off : Nat) (D : Option Addr) (dLen dCap : Nat) (X : Option Addr) (sLen sCap : Nat) (src : List Int)
  (hd : a.eval d = .slice D dLen dCap) (hss : a.eval s = .slice X sLen sCap)
  (hD : src ≠ [] → D = some ⟨g, off, none⟩) (hX : Rd k w X src) (hn : src.length = Nat.min sLen dLen) (hfit : off + src.length ≤ m)
  (hK : ∀ w', OwnI k w' B e (.slice (some ⟨g, 0, none⟩) m c) (splice l off src) → Chg (fun k => k = g) w w' → wpList P ops Q rest (a.put o.dst (goInt src.length)) w') : wpList P ops Q (o :: rest) a w := by
 subst hm
 exact copy_list hgd d s dT sT elem ho hu hs h off D dLen dCap X sLen sCap src hd hss hD hX hn hfit hK
end
end Go.Proofs.YticnjkdaccacaaaGreat.Oq
end
section
namespace Go.Proofs.YticnjkdaccacaaaGreat.Sx
open Go Go.RowKit Base Oq
abbrev Env := List (Nat × Value)
def vok1 : Value → Bool
 | .int k x => (Lit.int k x).wf
 | .slice _ n c => decide (n ≤ c) && decide (c ≤ maxLen)
 | _ => true
def vokC : Value → Bool
 | .agg cs => cs.toList.all vok1
 | v => vok1 v
def vok : Value → Bool
 | .tuple vs => vs.toList.all vokC
 | v => vokC v
structure FrD (Df : List Deferred) (N : Nat) (a : Act) (L : Env) : Prop where
 size : a.tmps.size = N
 defers : a.defers = Df
 get : ∀ d v, L.lookup d = some v → a.tmps[d]? = some v ∧ vok v = true
abbrev Fr (N : Nat) (a : Act) (L : Env) : Prop := FrD [] N a L
def ev (L : Env) : Operand → Option Value
 | .tmp t => L.lookup t
 | .const v => if vok v then some v else none
 | .func f => some (.func (.func f) #[] #[])
 | .global g => some (.pointer (some ⟨g, 0, none⟩))
section
variable {Df : List Deferred} {N : Nat} {a : Act} {L L' : Env} {d : Nat} {v : Value}
theorem lookup_cons (L : Env) (d e : Nat) (v : Value) : ((d, v) :: L).lookup e = if e = d then some v else L.lookup e := by
 rw [List.lookup_cons]
 by_cases h : e = d
 ·subst h; simp
 ·have : (e == d) = false := by simpa using h
  simp [this, h]
theorem FrD.put (h : FrD Df N a L) (hd : d < N) (hv : vok v = true) : FrD Df N (a.put (some d) v) ((d, v) :: L) := by
 refine ⟨by simp [Act.put, h.size], h.defers, fun e u he => ?_⟩
 rw [lookup_cons] at he
 simp only [Act.put]
 rw [Array.getElem?_setIfInBounds]
 by_cases hed : e = d
 ·subst hed
  rw [if_pos rfl] at he
  injection he with he
  subst he
  rw [if_pos rfl, if_pos (by rw [h.size]; exact hd)]
  exact ⟨rfl, hv⟩
 ·rw [if_neg hed] at he
  rw [if_neg (fun e => hed e.symm)]
  exact h.get e u he
def Subs (L : Env) : Env → Prop
 | [] => True
 | p :: r => L.lookup p.1 = some p.2 ∧ Subs L r
theorem Subs.mem : ∀ {L' : Env}, Subs L L' → ∀ d v, L'.lookup d = some v → L.lookup d = some v := by
 intro L'
 induction L' with
 | nil => intro _ d v h; cases h
 | cons p r ih =>
  intro h d v hd
  obtain ⟨e, u⟩ := p
  rw [lookup_cons] at hd
  by_cases hed : d = e
  ·subst hed; rw [if_pos rfl] at hd; injection hd with hd; subst hd; exact h.1
  ·rw [if_neg hed] at hd; exact ih h.2 d v hd
theorem FrD.sub (h : FrD Df N a L) (hs : Subs L L') : FrD Df N a L' := ⟨h.size, h.defers, fun d v hd => h.get d v (hs.mem d v hd)⟩
theorem FrD.ev (h : FrD Df N a L) {o : Operand} (he : Sx.ev L o = some v) : a.eval o = v ∧ vok v = true := by
 cases o with
 | tmp t =>
  have := h.get t v he
  exact ⟨by show a.tmps.getD t undef = v; rw [Array.getD_eq_getD_getElem?, this.1]; rfl, this.2⟩
 | const u =>
  have he : (if vok u then some u else none) = some v := he
  by_cases hu : vok u = true
  ·rw [if_pos hu] at he; injection he with he; subst he; exact ⟨rfl, hu⟩
  ·rw [if_neg hu] at he; cases he
 | global g => injection he with he; subst he; exact ⟨rfl, rfl⟩
 | func f => injection he with he; subst he; exact ⟨rfl, rfl⟩
theorem FrD.bool (h : FrD Df N a L) {b c : Bool} (hd : L.lookup d = some (.bool b)) (hb : b = c) : FrD Df N a ((d, .bool c) :: L) := by
 subst hb
 refine ⟨h.size, h.defers, fun e u he => ?_⟩
 rw [lookup_cons] at he
 by_cases hed : e = d
 ·subst hed; rw [if_pos rfl] at he; injection he with he; subst he; exact h.get _ _ hd
 ·rw [if_neg hed] at he; exact h.get e u he
theorem FrD.spell (h : FrD Df N a L) {v' : Value} (hd : L.lookup d = some v) (hb : v = v') : FrD Df N a ((d, v') :: L) := by
 subst hb
 refine ⟨h.size, h.defers, fun e u he => ?_⟩
 rw [lookup_cons] at he
 by_cases hed : e = d
 ·subst hed; rw [if_pos rfl] at he; injection he with he; subst he; exact h.get _ _ hd
 ·rw [if_neg hed] at he; exact h.get e u he
theorem FrD.int (h : FrD Df N a L) {k : IntKind} {x : Int} (hd : L.lookup d = some (.int k x)) : (Lit.int k x).wf = true := (h.get _ _ hd).2
theorem FrD.slice (h : FrD Df N a L) {A : Option Addr} {n c : Nat} (hd : L.lookup d = some (.slice A n c)) : n ≤ c ∧ c ≤ maxLen := by
 have := (h.get _ _ hd).2
 simpa [vok, vokC, vok1] using this
def EnvOf : Nat → List Value → Env
 | _, [] => []
 | i, v :: r => (i, v) :: EnvOf (i + 1) r
theorem envOf_get : ∀ (vs : List Value) (i d : Nat) (v : Value), (EnvOf i vs).lookup d = some v → i ≤ d ∧ vs[d - i]? = some v := by
 intro vs
 induction vs with
 | nil => intro i d v h; cases h
 | cons u r ih =>
  intro i d v h
  unfold EnvOf at h
  rw [lookup_cons] at h
  by_cases hd : d = i
  ·subst hd; rw [if_pos rfl] at h; exact ⟨Nat.le_refl _, by rw [Nat.sub_self]; exact h⟩
  ·rw [if_neg hd] at h
   obtain ⟨h1, h2⟩ := ih _ _ _ h
   exact ⟨by omega, by rw [show d - i = (d - (i + 1)) + 1 by omega]; exact h2⟩
theorem Fr.start (N : Nat) (args : List Value) (hn : args.length ≤ N) (hv : args.all vok = true) :
  Fr N { tmps := args.toArray ++ Array.replicate (N - args.length) undef, defers := [] } (EnvOf 0 args) := by
 refine ⟨by simp; omega, rfl, fun d v h => ?_⟩
 obtain ⟨-, h2⟩ := envOf_get _ _ _ _ h
 have hlt := (List.getElem?_eq_some_iff.1 h2).1
 refine ⟨?_, ?_⟩
 ·rw [Array.getElem?_append_left (by simpa using hlt)]
  simpa using h2
 ·rw [List.all_eq_true] at hv
  exact hv v (List.mem_of_getElem? h2)
end
structure Orc where
 ty : List (Nat × TypeDesc)
 sz : List (Nat × Nat)
def allTy (P : Program) : List (Nat × TypeDesc) → Prop
 | [] => True
 | p :: r => P.underlying p.1 = some p.2 ∧ allTy P r
def allSz (P : Program) : List (Nat × Nat) → Prop
 | [] => True
 | p :: r => (P.info? p.1).map (·.size) = some p.2 ∧ allSz P r
structure Orc.Ok (T : Orc) (P : Program) : Prop where
 ty : allTy P T.ty
 sz : allSz P T.sz
section
variable {P : Program} {T : Orc}
theorem lookup_consG {β : Type} (L : List (Nat × β)) (d e : Nat) (v : β) : ((d, v) :: L).lookup e = if e = d then some v else L.lookup e := by
 rw [List.lookup_cons]
 by_cases h : e = d
 ·subst h; simp
 ·have : (e == d) = false := by simpa using h
  simp [this, h]
theorem allTy.get : ∀ {l : List (Nat × TypeDesc)}, allTy P l → ∀ t d, l.lookup t = some d → P.underlying t = some d := by
 intro l
 induction l with
 | nil => intro _ t d h; cases h
 | cons p r ih =>
  intro h t d hd
  obtain ⟨e, u⟩ := p
  rw [lookup_consG] at hd
  by_cases hed : t = e
  ·subst hed; rw [if_pos rfl] at hd; injection hd with hd; subst hd; exact h.1
  ·rw [if_neg hed] at hd; exact ih h.2 t d hd
theorem allSz.get : ∀ {l : List (Nat × Nat)}, allSz P l → ∀ t d, l.lookup t = some d → (P.info? t).map (·.size) = some d := by
 intro l
 induction l with
 | nil => intro _ t d h; cases h
 | cons p r ih =>
  intro h t d hd
  obtain ⟨e, u⟩ := p
  rw [lookup_consG] at hd
  by_cases hed : t = e
  ·subst hed; rw [if_pos rfl] at hd; injection hd with hd; subst hd; exact h.1
  ·rw [if_neg hed] at hd; exact ih h.2 t d hd
theorem Orc.Ok.und (h : T.Ok P) {t : Nat} {d : TypeDesc} (hd : T.ty.lookup t = some d) : P.underlying t = some d := h.ty.get _ _ hd
theorem Orc.Ok.size (h : T.Ok P) {t n : Nat} (hd : T.sz.lookup t = some n) : (P.info? t).map (·.size) = some n := h.sz.get _ _ hd
def bitv (op : BinOp) (k : IntKind) (a b : Int) : Int :=
 match op with
 | .and => k.wrap (BitVec.ofInt k.bits a &&& BitVec.ofInt k.bits b).toNat
 | .or => k.wrap (BitVec.ofInt k.bits a ||| BitVec.ofInt k.bits b).toNat
 | .xor => k.wrap (BitVec.ofInt k.bits a ^^^ BitVec.ofInt k.bits b).toNat
 | _ => k.wrap (BitVec.ofInt k.bits a &&& ~~~(BitVec.ofInt k.bits b)).toNat
def binI (op : BinOp) (k : IntKind) (a b : Int) : Option Value :=
 match op with
 | .add => some (.int k (k.wrap (a + b)))
 | .sub => some (.int k (k.wrap (a - b)))
 | .mul => some (.int k (k.wrap (a * b)))
 | .quo => if b = 0 then none else some (.int k (k.wrap (a.tdiv b)))
 | .rem => if b = 0 then none else some (.int k (a.tmod b))
 | .and => some (.int k (bitv .and k a b))
 | .or => some (.int k (bitv .or k a b))
 | .xor => some (.int k (bitv .xor k a b))
 | .andNot => some (.int k (bitv .andNot k a b))
 | .eql => some (.bool (a == b))
 | .neq => some (.bool (a != b))
 | .lss => some (.bool (decide (a < b)))
 | .leq => some (.bool (decide (a ≤ b)))
 | .gtr => some (.bool (decide (a > b)))
 | .geq => some (.bool (decide (a ≥ b)))
 | _ => none
def shI (op : BinOp) (k : IntKind) (a b : Int) : Option Value :=
 match op with
 | .shl => if b < 0 then none else some (.int k (k.wrap (a * 2 ^ min b.toNat k.bits)))
 | .shr => if b < 0 then none else some (.int k (a.fdiv (2 ^ min b.toNat k.bits)))
 | _ => none
def eqV (d : TypeDesc) (x y : Value) : Option Bool :=
 match d, x, y with
 | .bool, .bool a, .bool b => some (a == b)
 | .pointer _, .pointer none, .pointer b => some b.isNone
 | .pointer _, .pointer (some _), .pointer none => some false
 | .slice _, .slice none _ _, .slice b _ _ => some b.isNone
 | .slice _, .slice (some _) _ _, .slice none _ _ => some false
 | .map _ _, .map none, .map b => some b.isNone
 | .map _ _, .map (some _), .map none => some false
 | .func _ _ _, .nilFunc, .nilFunc => some true
 | _, _, _ => none
def binV (T : Orc) (op : BinOp) (t : TypeId) (x y : Value) : Option Value :=
 match x, y with
 | .int k a, .int k' b =>
  match op with
  | .shl => shI .shl k a b
  | .shr => shI .shr k a b
  | op => if k = k' then binI op k a b else none
 | .string a, .string b =>
  match op with
  | .eql => some (.bool (a.toList == b.toList))
  | .neq => some (.bool (!(a.toList == b.toList)))
  | _ => none
 | x, y =>
  match op with
  | .eql => (T.ty.lookup t).bind fun d => (eqV d x y).map .bool
  | .neq => (T.ty.lookup t).bind fun d => (eqV d x y).map fun b => .bool (!b)
  | _ => none
def unV (op : UnOp) (x : Value) : Option Value :=
 match op, x with
 | .not, .bool b => some (.bool (!b))
 | .neg, .int k n => some (.int k (k.wrap (0 - n)))
 | .xor, .int k n => some (.int k (bitv .xor k (if k.signed then -1 else k.max) n))
 | _, _ => none
def convV (T : Orc) (src dst : TypeId) (x : Value) : Option Value :=
 match x with
 | .int _ n => match T.ty.lookup src, T.ty.lookup dst with
  | some _, some (.int k) => some (.int k (k.wrap n))
  | _, _ => none
 | .string s => match T.ty.lookup src, T.ty.lookup dst with
  | some .string, some .string => some (.string s)
  | _, _ => none
 | _ => none
def aggD : TypeDesc → Bool
 | .struct _ | .array _ _ => true
 | _ => false
def partV (T : Orc) (t : TypeId) (cs : Array Value) (off : Nat) : Option Value :=
 match T.ty.lookup t with
 | some (.struct _) | some (.array _ _) => (T.sz.lookup t).map fun n => .agg (cs.extract off (off + n))
 | some _ => (cs[off]?).bind fun v => if vok v then some v else none
 | none => none
def lenV (d : TypeDesc) (x : Value) : Option Value :=
 match d, x with
 | .slice _, .slice _ n _ => some (.int .i64 n)
 | .array n _, _ => if n ≤ maxLen then some (.int .i64 n) else none
 | _, _ => none
def minV (x y : Value) : Option Value :=
 match x, y with
 | .int k a, .int k' b => if k = k' then some (.int k (if b < a then b else a)) else none
 | _, _ => none
def maxV (x y : Value) : Option Value :=
 match x, y with
 | .int k a, .int k' b => if k = k' then some (.int k (if b > a then b else a)) else none
 | _, _ => none
def builtinV (T : Orc) (b : Builtin) (ts : List TypeId) (xs : List Value) : Option Value :=
 match b, ts, xs with
 | .len, [t], [x] => (T.ty.lookup t).bind fun d => lenV d x
 | .min, _, [x, y] => minV x y
 | .max, _, [x, y] => maxV x y
 | _, _, _ => none
def evs (L : Env) : List Operand → Option (List Value)
 | [] => some []
 | o :: r => (ev L o).bind fun v => (evs L r).map (v :: ·)
def callOp (T : Orc) (L : Env) (c : Call) : Option Value :=
 match c.callee with
 | .builtin b => (evs L c.args.toList).bind fun xs => builtinV T b c.argTypes.toList xs
 | _ => none
def notTup : Value → Bool
 | .tuple _ => false
 | _ => true
def pureOp (T : Orc) (L : Env) : Op → Option Value
 | .move x | .assign x => ev L x
 | .pick c x y => match ev L c with
  | some (.bool true) => ev L x
  | some (.bool false) => ev L y
  | _ => none
 | .binOp op t x y _ => (ev L x).bind fun x => (ev L y).bind fun y => binV T op t x y
 | .unOp op _ x => (ev L x).bind fun x => unV op x
 | .convert s d x => (ev L x).bind fun x => convV T s d x
 | .extract t i => match ev L t with
  | some (.tuple vs) => (vs[i]?).bind fun v => if notTup v then some v else none
  | _ => none
 | .nilCheck x => match ev L x with
  | some (.pointer (some p)) => some (.pointer (some p))
  | _ => none
 | .field t x f => match ev L x, T.ty.lookup t with
  | some (.agg cs), some (.struct fs) => (fs[f]?).bind fun fd => partV T fd.type cs fd.offset
  | _, _ => none
 | .fieldAddr t x f => match ev L x, T.ty.lookup t with
  | some (.pointer (some p)), some (.struct fs) => (fs[f]?).bind fun fd => match T.sz.lookup fd.type with
   | some (_ + 1) => some (.pointer (some (p.add fd.offset)))
   | _ => none
  | _, _ => none
 | .call c => callOp T L c
 | _ => none
theorem wf_int {k : IntKind} {x : Int} : (Lit.int k x).wf = true ↔ k.min ≤ x ∧ x ≤ k.max := by simp [Lit.wf]
theorem wf_bitv (op : BinOp) (k : IntKind) (a b : Int) : (Lit.int k (bitv op k a b)).wf = true := by unfold bitv; split <;> exact wf_wrap _ _
theorem wf_tmod {k : IntKind} {a b : Int} (h : (Lit.int k a).wf = true) : (Lit.int k (a.tmod b)).wf = true := by
 rw [wf_int] at h ⊢
 rcases Int.le_total 0 a with ha | ha
 ·have h1 : 0 ≤ a.tmod b := Int.tmod_nonneg _ ha
  have h2 : a.tmod b ≤ a := by
   have e := Int.mul_tdiv_add_tmod a b
   have h3 := Int.natAbs_tmod a b
   have h4 : (a.tmod b).natAbs ≤ a.natAbs := by rw [h3]; exact Nat.mod_le _ _
   omega
  have hm : k.min ≤ 0 := by cases k <;> decide
  exact ⟨by omega, by omega⟩
 ·have h1 : a.tmod b ≤ 0 := by
   have := Int.tmod_nonneg (a := -a) b (by omega)
   rw [Int.neg_tmod] at this; omega
  have h2 : a ≤ a.tmod b := by
   have h4 : (a.tmod b).natAbs ≤ a.natAbs := by rw [Int.natAbs_tmod]; exact Nat.mod_le _ _
   omega
  have hm : 0 ≤ k.max := by cases k <;> decide
  exact ⟨by omega, by omega⟩
theorem wf_shr {k : IntKind} {a : Int} (n : Nat) (h : (Lit.int k a).wf = true) : (Lit.int k (a.fdiv (2 ^ n))).wf = true := by
 rw [wf_int] at h ⊢
 have hp : (0 : Int) < 2 ^ n := Int.pow_pos (by decide)
 rw [Int.fdiv_eq_ediv_of_nonneg _ (by omega)]
 have hm : k.min ≤ 0 := by cases k <;> decide
 have hx : 0 ≤ k.max := by cases k <;> decide
 rcases Int.le_total 0 a with ha | ha
 ·have h1 : 0 ≤ a / 2 ^ n := Int.ediv_nonneg ha (by omega)
  have h2 : a / 2 ^ n ≤ a := Int.ediv_le_self _ ha
  exact ⟨by omega, by omega⟩
 ·have h1 : a ≤ a / 2 ^ n := by
   rw [Int.le_ediv_iff_mul_le hp]
   have : a * 2 ^ n ≤ a * 1 := Int.mul_le_mul_of_nonpos_left ha (by omega)
   omega
  have h2 : a / 2 ^ n ≤ 0 := by
   have := Int.ediv_le_ediv hp ha
   simpa using this
  exact ⟨by omega, by omega⟩
theorem binI_ok {op : BinOp} {k : IntKind} {a b : Int} {v : Value} (ha : (Lit.int k a).wf = true) (h : binI op k a b = some v) : vok v = true := by
 unfold binI at h
 split at h <;> first
  | (injection h with h; subst h; first | exact wf_wrap _ _ | exact wf_bitv _ _ _ _ | rfl)
  | (split at h; (cases h); (injection h with h; subst h; first | exact wf_wrap _ _ | exact wf_tmod ha))
  | cases h
theorem shI_ok {op : BinOp} {k : IntKind} {a b : Int} {v : Value} (ha : (Lit.int k a).wf = true) (h : shI op k a b = some v) : vok v = true := by
 unfold shI at h
 split at h <;> first
  | (split at h; (cases h); (injection h with h; subst h; first | exact wf_wrap _ _ | exact wf_shr _ ha))
  | cases h
theorem binV_ok {op : BinOp} {t : TypeId} {x y v : Value} (hx : vok x = true) (h : binV T op t x y = some v) : vok v = true := by
 unfold binV at h
 split at h
 ·split at h
  ·exact shI_ok hx h
  ·exact shI_ok hx h
  ·split at h
   ·exact binI_ok hx h
   ·cases h
 ·split at h <;> first | (injection h with h; subst h; rfl) | cases h
 ·split at h
  ·simp only [Option.bind_eq_some_iff, Option.map_eq_some_iff] at h
   obtain ⟨_, _, _, _, rfl⟩ := h; rfl
  ·simp only [Option.bind_eq_some_iff, Option.map_eq_some_iff] at h
   obtain ⟨_, _, _, _, rfl⟩ := h; rfl
  ·cases h
theorem unV_ok {op : UnOp} {x v : Value} (h : unV op x = some v) : vok v = true := by
 unfold unV at h
 split at h <;> first | (injection h with h; subst h; first | rfl | exact wf_wrap _ _ | exact wf_bitv _ _ _ _) | cases h
theorem convV_ok {s d : TypeId} {x v : Value} (h : convV T s d x = some v) : vok v = true := by
 unfold convV at h
 split at h
 ·split at h
  ·injection h with h; subst h; exact wf_wrap _ _
  ·cases h
 ·split at h
  ·injection h with h; subst h; rfl
  ·cases h
 ·cases h
theorem vok_extract {cs : Array Value} {i j : Nat} (h : vok (.agg cs) = true) : vok (.agg (cs.extract i j)) = true := by
 simp only [vok, vokC, List.all_eq_true] at h ⊢
 intro x hx
 refine h x ?_
 rw [Array.toList_extract] at hx
 exact List.mem_of_mem_drop (List.mem_of_mem_take hx)
theorem partV_ok {t off : Nat} {cs : Array Value} {v : Value} (hx : vok (.agg cs) = true) (h : partV T t cs off = some v) : vok v = true := by
 unfold partV at h
 split at h
 ·simp only [Option.map_eq_some_iff] at h; obtain ⟨n, _, rfl⟩ := h; exact vok_extract hx
 ·simp only [Option.map_eq_some_iff] at h; obtain ⟨n, _, rfl⟩ := h; exact vok_extract hx
 ·simp only [Option.bind_eq_some_iff] at h
  obtain ⟨u, _, h⟩ := h
  split at h
  ·injection h with h; subst h; assumption
  ·cases h
 ·cases h
theorem vok_len {n : Nat} (h : n ≤ maxLen) : vok (.int .i64 (n : Int)) = true := by
 have h : (Lit.int .i64 (n : Int)).wf = true := by
  rw [wf_int]
  have hm : (maxLen : Int) = 9223372036854775807 := by decide
  have h1 : IntKind.i64.min = -9223372036854775808 := by decide
  have h2 : IntKind.i64.max = 9223372036854775807 := by decide
  omega
 exact h
theorem lenV_ok {d : TypeDesc} {x v : Value} (hx : vok x = true) (h : lenV d x = some v) : vok v = true := by
 unfold lenV at h
 split at h
 ·injection h with h; subst h
  simp only [vok, vokC, vok1, Bool.and_eq_true, decide_eq_true_eq] at hx
  exact vok_len (by omega)
 ·split at h
  ·injection h with h; subst h
   exact vok_len (by assumption)
  ·cases h
 ·cases h
theorem binI_run {op : BinOp} {t : TypeId} {k : IntKind} {a b : Int} {v : Value} (h1 : op ≠ .shl) (h2 : op ≠ .shr) (h : binI op k a b = some v) (w : World) : (binOp op t (.int k a) (.int k b)).run P w = .ok v w := by
 unfold binI at h
 split at h <;> first
  | (injection h with h; subst h; simp [binOp, Op.intArith, Op.intBits, Op.intCmp, bitv]; done)
  | (split at h; (cases h); (injection h with h; subst h; simp [binOp, Op.intDiv, *]; done))
  | (cases op <;> first | (cases h) | (exact absurd rfl h1) | (exact absurd rfl h2) | simp_all)
theorem shI_run {op : BinOp} {t : TypeId} {k k' : IntKind} {a b : Int} {v : Value} (h : shI op k a b = some v) (w : World) : (binOp op t (.int k a) (.int k' b)).run P w = .ok v w := by
 unfold shI at h
 split at h <;> first
  | (split at h; (cases h); (injection h with h; subst h; simp [binOp, Op.shift, *]; done))
  | cases h
theorem eqV_run {t : TypeId} {d : TypeDesc} {x y : Value} {b : Bool} (hd : P.underlying t = some d) (h : eqV d x y = some b) (w : World) : (Op.equal t x y).run P w = .ok b w := by
 show (Op.equalIn (9999 + 1) t x y).run P w = .ok b w
 unfold Op.equalIn
 rw [Sem.run_bind, run_underlying hd, Result.andThen_ok]
 unfold eqV at h
 split at h <;> first
  | (injection h with h; subst h; rfl)
  | cases h
theorem eqGuard_run {op : BinOp} {t : TypeId} {x y : Value} {xo yo : Operand} (h1 : ∀ c d, x = .agg c → y = .agg d → False) (h2 : x = .nilIface → y = .nilIface → False) (w : World) : (eqGuard op t xo yo x y).run P w = .ok () w := by
 unfold eqGuard
 split
 ·rw [if_neg (by decide)]
  split
  ·exact (h2 rfl rfl).elim
  ·exact (h1 _ _ rfl rfl).elim
  ·rfl
 ·rw [if_neg (by decide)]
  split
  ·exact (h2 rfl rfl).elim
  ·exact (h1 _ _ rfl rfl).elim
  ·rfl
 ·rfl
theorem eqV_kinds {d : TypeDesc} {x y : Value} {b : Bool} (h : eqV d x y = some b) : (∀ c e, x = .agg c → y = .agg e → False) ∧ (x = .nilIface → y = .nilIface → False) ∧
  (∀ op t, op = .eql ∨ op = .neq → (binOp op t x y : Sem Value) = (if op = .eql then (do pure (.bool (← Op.equal t x y))) else (do pure (.bool (!(← Op.equal t x y)))))) := by
 unfold eqV at h
 split at h <;> first
  | (refine ⟨(by intro c e h; cases h), (by intro h; cases h), ?_⟩; rintro op t (rfl | rfl) <;> rfl)
  | cases h
theorem binV_run (hT : T.Ok P) {op : BinOp} {t : TypeId} {x y : Value} {xo yo : Operand} {v : Value} (h : binV T op t x y = some v) (w : World) :
  (do eqGuard op t xo yo x y; binOp op t x y : Sem Value).run P w = .ok v w := by
 unfold binV at h
 split at h
 ·rw [Sem.run_bind, eqGuard_run (by intro c d h; cases h) (by intro h; cases h), Result.andThen_ok]
  split at h
  ·exact shI_run h w
  ·exact shI_run h w
  ·split at h
   ·rename_i k a k' b op' h1 h2 hk
    subst hk
    exact binI_run (fun e => h1 e) (fun e => h2 e) h w
   ·cases h
 ·rw [Sem.run_bind, eqGuard_run (by intro c d h; cases h) (by intro h; cases h), Result.andThen_ok]
  split at h
  ·injection h with h; subst h; rfl
  ·injection h with h; subst h; rfl
  ·cases h
 ·split at h
  ·simp only [Option.bind_eq_some_iff, Option.map_eq_some_iff] at h
   obtain ⟨d, hd, b, hb, rfl⟩ := h
   obtain ⟨h1, h2, h3⟩ := eqV_kinds hb
   rw [Sem.run_bind, eqGuard_run h1 h2, Result.andThen_ok, h3 _ _ (.inl rfl), if_pos rfl, Sem.run_bind, eqV_run (hT.und hd) hb]; rfl
  ·simp only [Option.bind_eq_some_iff, Option.map_eq_some_iff] at h
   obtain ⟨d, hd, b, hb, rfl⟩ := h
   obtain ⟨h1, h2, h3⟩ := eqV_kinds hb
   rw [Sem.run_bind, eqGuard_run h1 h2, Result.andThen_ok, h3 _ _ (.inr rfl), if_neg (by decide), Sem.run_bind, eqV_run (hT.und hd) hb]; rfl
  ·cases h
theorem unV_run {op : UnOp} {x v : Value} (h : unV op x = some v) (w : World) : (Op.unary op x).run P w = .ok v w := by
 unfold unV at h
 split at h <;> first | (injection h with h; subst h; rfl) | cases h
theorem convV_run (hT : T.Ok P) {s d : TypeId} {x v : Value} (h : convV T s d x = some v) (w : World) : (convert s d x).run P w = .ok v w := by
 unfold convV at h
 unfold convert
 split at h
 ·split at h
  ·rename_i ds k hs hd
   injection h with h; subst h
   rw [Sem.run_bind, run_underlying (hT.und hs), Result.andThen_ok, Sem.run_bind, run_underlying (hT.und hd), Result.andThen_ok]
   cases ds <;> rfl
  ·cases h
 ·split at h
  ·rename_i hs hd
   injection h with h; subst h
   rw [Sem.run_bind, run_underlying (hT.und hs), Result.andThen_ok, Sem.run_bind, run_underlying (hT.und hd), Result.andThen_ok]
   rfl
  ·cases h
 ·cases h
theorem size_run (hT : T.Ok P) {t n : Nat} (h : T.sz.lookup t = some n) (w : World) : (sizeOf t).run P w = .ok n w := by
 have := hT.size h
 cases hi : P.info? t with
 | none => simp [hi] at this
 | some i =>
  have e : i.size = n := by simpa [hi] using this
  subst e
  unfold sizeOf typeInfo
  simp [hi]
theorem isAgg_run {t : TypeId} {d : TypeDesc} (h : P.underlying t = some d) (w : World) : (isAgg t).run P w = .ok (aggD d) w := by
 unfold isAgg
 rw [Sem.run_bind, run_underlying h, Result.andThen_ok]
 unfold aggD
 cases d <;> rfl
theorem partV_run (hT : T.Ok P) {t off : Nat} {cs : Array Value} {v : Value} (h : partV T t cs off = some v) (w : World) : (part t cs off).run P w = .ok v w := by
 unfold partV at h
 unfold part
 split at h
 ·rename_i hd
  simp only [Option.map_eq_some_iff] at h
  obtain ⟨n, hn, rfl⟩ := h
  rw [Sem.run_bind, isAgg_run (hT.und hd), Result.andThen_ok]
  simp [aggD, size_run hT hn]
 ·rename_i hd
  simp only [Option.map_eq_some_iff] at h
  obtain ⟨n, hn, rfl⟩ := h
  rw [Sem.run_bind, isAgg_run (hT.und hd), Result.andThen_ok]
  simp [aggD, size_run hT hn]
 ·rename_i d h1 h2 hd
  simp only [Option.bind_eq_some_iff] at h
  obtain ⟨u, hu, h⟩ := h
  split at h
  ·injection h with h; subst h
   rw [Sem.run_bind, isAgg_run (hT.und hd), Result.andThen_ok]
   have : aggD d = false := by
    unfold aggD
    split
    ·exact (h1 _ rfl).elim
    ·exact (h2 _ _ rfl).elim
    ·rfl
   rw [this, if_neg (by decide), hu]; rfl
  ·cases h
 ·cases h
theorem evs_run {Df : List Deferred} {N : Nat} {a : Act} {L : Env} (fr : FrD Df N a L) : ∀ {os : List Operand} {vs : List Value}, evs L os = some vs → os.map a.eval = vs ∧ vs.all vok = true := by
 intro os
 induction os with
 | nil => intro vs h; injection h with h; subst h; exact ⟨rfl, rfl⟩
 | cons o r ih =>
  intro vs h
  unfold evs at h
  simp only [Option.bind_eq_some_iff, Option.map_eq_some_iff] at h
  obtain ⟨v, h1, l, h2, rfl⟩ := h
  obtain ⟨h3, h4⟩ := ih h2
  exact ⟨by rw [List.map_cons, h3, (fr.ev h1).1], by simp [(fr.ev h1).2, h4]⟩
theorem minV_run {x y v : Value} (h : minV x y = some v) (w : World) : (Builtin.min2 x y).run P w = .ok v w := by
 unfold minV at h
 split at h
 ·split at h
  ·injection h with h; subst h; rfl
  ·cases h
 ·cases h
theorem maxV_run {x y v : Value} (h : maxV x y = some v) (w : World) : (Builtin.max2 x y).run P w = .ok v w := by
 unfold maxV at h
 split at h
 ·split at h
  ·injection h with h; subst h; rfl
  ·cases h
 ·cases h
theorem builtinV_run (hT : T.Ok P) {b : Builtin} {ts : Array TypeId} {ty : TypeId} {cs : Array Bool} {xs : Array Value} {v : Value} (h : builtinV T b ts.toList xs.toList = some v) (hx : xs.toList.all vok = true) (w : World) :
  (builtin b ts ty cs xs).run P w = .ok (.value v) w ∧ vok v = true := by
 obtain ⟨ts⟩ := ts
 obtain ⟨xs⟩ := xs
 simp only at h hx
 unfold builtinV at h
 split at h
 ·rename_i t x
  simp only [Option.bind_eq_some_iff] at h
  obtain ⟨d, hd, h⟩ := h
  have hx : vok x = true := by simpa using hx
  refine ⟨?_, lenV_ok hx h⟩
  have e : (Builtin.len_ #[t] ty #[x]).run P w = .ok v w := by
   simp only [Builtin.len_, List.getElem?_toArray, List.getElem?_cons_zero]
   rw [Sem.run_bind, run_underlying (hT.und hd), Result.andThen_ok]
   unfold lenV at h
   split at h
   ·injection h with h; subst h; rfl
   ·split at h
    ·injection h with h; subst h; rfl
    ·cases h
   ·cases h
  show (do pure (Next.value (← Builtin.len_ #[t] ty #[x])) : Sem Next).run P w = _
  rw [Sem.run_bind, e]; rfl
 ·rename_i x y
  have hx : vok x = true ∧ vok y = true := by simpa using hx
  have e : (Builtin.min_ ⟨ts⟩ ty #[x, y]).run P w = .ok v w := by
   simp [Builtin.min_, List.foldlM, minV_run h]
  refine ⟨by show (do pure (Next.value (← Builtin.min_ ⟨ts⟩ ty #[x, y])) : Sem Next).run P w = _; rw [Sem.run_bind, e]; rfl, ?_⟩
  unfold minV at h
  split at h
  ·split at h
   ·rename_i hk
    subst hk
    injection h with h; subst h
    split
    ·exact hx.2
    ·exact hx.1
   ·cases h
  ·cases h
 ·rename_i x y
  have hx : vok x = true ∧ vok y = true := by simpa using hx
  have e : (Builtin.max_ ⟨ts⟩ ty #[x, y]).run P w = .ok v w := by
   simp [Builtin.max_, List.foldlM, maxV_run h]
  refine ⟨by show (do pure (Next.value (← Builtin.max_ ⟨ts⟩ ty #[x, y])) : Sem Next).run P w = _; rw [Sem.run_bind, e]; rfl, ?_⟩
  unfold maxV at h
  split at h
  ·split at h
   ·rename_i hk
    subst hk
    injection h with h; subst h
    split
    ·exact hx.2
    ·exact hx.1
   ·cases h
  ·cases h
 ·cases h
theorem pure_run (hT : T.Ok P) {Df : List Deferred} {N : Nat} {a : Act} {L : Env} (fr : FrD Df N a L) {o : Oper} {v : Value} (h : pureOp T L o.op = some v) (w : World) : (execOp a.eval o).run P w = .ok (.value v) w ∧ vok v = true := by
 unfold execOp
 cases ho : o.op <;> rw [ho] at h <;> simp only [pureOp] at h <;> try (cases h; done)
 case move x => exact ⟨by rw [← (fr.ev h).1]; rfl, (fr.ev h).2⟩
 case assign x => exact ⟨by rw [← (fr.ev h).1]; rfl, (fr.ev h).2⟩
 case pick c x y =>
  split at h
  ·rename_i hc
   refine ⟨?_, (fr.ev h).2⟩
   simp [(fr.ev hc).1, asBool, (fr.ev h).1]
  ·rename_i hc
   refine ⟨?_, (fr.ev h).2⟩
   simp [(fr.ev hc).1, asBool, (fr.ev h).1]
  ·cases h
 case binOp op t x y ty =>
  simp only [Option.bind_eq_some_iff] at h
  obtain ⟨vx, h1, vy, h2, h3⟩ := h
  refine ⟨?_, binV_ok (fr.ev h1).2 h3⟩
  simp only [(fr.ev h1).1, (fr.ev h2).1]
  have := binV_run (P := P) hT (xo := x) (yo := y) h3 w
  rw [Sem.run_bind, this]; rfl
 case unOp op t x =>
  simp only [Option.bind_eq_some_iff] at h
  obtain ⟨vx, h1, h3⟩ := h
  refine ⟨?_, unV_ok h3⟩
  simp only [(fr.ev h1).1]
  rw [Sem.run_bind, unV_run h3]; rfl
 case convert s d x =>
  simp only [Option.bind_eq_some_iff] at h
  obtain ⟨vx, h1, h3⟩ := h
  refine ⟨?_, convV_ok h3⟩
  simp only [(fr.ev h1).1]
  rw [Sem.run_bind, convV_run hT h3]; rfl
 case nilCheck x =>
  split at h
  ·rename_i p hx
   injection h with h; subst h
   simp only [(fr.ev hx).1]
   exact ⟨rfl, rfl⟩
  ·cases h
 case extract t i =>
  split at h
  ·rename_i vs ht
   simp only [Option.bind_eq_some_iff] at h
   obtain ⟨u, hu, h⟩ := h
   obtain ⟨e1, e2⟩ := fr.ev ht
   by_cases hn : notTup u = true
   ·rw [if_pos hn] at h
    injection h with h; subst h
    refine ⟨?_, ?_⟩
    ·simp only [e1, Instr.extract, hu]; rfl
    ·have hm : u ∈ vs.toList := by
      rw [← Array.getElem?_toList] at hu
      exact List.mem_of_getElem? hu
     have := (List.all_eq_true.1 (show vs.toList.all vokC = true from e2)) u hm
     cases u <;> first | exact this | (cases hn)
   ·rw [if_neg hn] at h; cases h
  ·cases h
 case field t x f =>
  split at h
  ·rename_i cs fs hx ht
   simp only [Option.bind_eq_some_iff] at h
   obtain ⟨fd, hf, h⟩ := h
   obtain ⟨e1, e2⟩ := fr.ev hx
   refine ⟨?_, partV_ok e2 h⟩
   simp only [e1, Instr.field]
   rw [Sem.run_bind, Sem.run_bind, run_underlying (hT.und ht), Result.andThen_ok]
   simp only [hf, asAgg]
   rw [Sem.run_bind, Sem.run_pure, Result.andThen_ok, partV_run hT h]; rfl
  ·cases h
 case fieldAddr t x f =>
  split at h
  ·rename_i p fs hx ht
   simp only [Option.bind_eq_some_iff] at h
   obtain ⟨fd, hf, h⟩ := h
   obtain ⟨e1, e2⟩ := fr.ev hx
   split at h
   ·rename_i n hs
    injection h with h; subst h
    refine ⟨?_, rfl⟩
    simp only [e1, Instr.fieldAt, Instr.sureAddr, fieldPlace]
    rw [Sem.run_bind, Sem.run_bind, run_underlying (hT.und ht), Result.andThen_ok]
    simp only [hf]
    simp [size_run hT hs]
   ·cases h
  ·cases h
 case call c =>
  unfold callOp at h
  split at h
  ·rename_i b hb
   simp only [Option.bind_eq_some_iff] at h
   obtain ⟨xs, hx, h⟩ := h
   obtain ⟨h1, h2⟩ := evs_run fr hx
   have e : c.args.map a.eval = xs.toArray := by
    apply Array.toList_inj.1
    rw [Array.toList_map, h1]
   simp only [resolve, hb]
   rw [Sem.run_bind, Sem.run_pure, Result.andThen_ok]
   simp only [invoke, e]
   exact builtinV_run hT h h2 w
  ·cases h
end
end Go.Proofs.YticnjkdaccacaaaGreat.Sx
end
