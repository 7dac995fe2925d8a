/- Texts of this work, one behind the other. -/
import Derived.Test.YticnjkdaccacaaaGreatDoorVSectorsPlay1
import Derived.Scope
import Derived.Test.YticnjkdaccacaaaGreatDoorProg
import Derived.ProofKit
import Derived.OpenShut
import Derived.KernelRfl
import Derived.Lib.Hide
import Derived.Deep.LoopGhost
import Derived.Lib.SliceRun
import Derived.Laws.BytesArg
import Derived.Deep.MidRow
import Derived.Great.BuildSlice
section
/- Steps of a walk, by one lemma each: lists of operations, code, calls, loops. -/
namespace Go.Proofs.YticnjkdaccacaaaGreatDoor.Sx
open Go Go.RowKit Base Own

theorem blt_lt {d N : Nat} (h : Nat.blt d N = true) : d < N := Nat.le_of_ble_eq_true h
/-! ### 3. Lists of operations in their order -/
section
variable {P : Program} {T : Orc} {ops : Array Oper} {Q : Exit → Act → World → Prop} {Df : List Deferred} {N : Nat} {a : Act} {w : World} {L L' : Env}
/-- Is an operation wanted? -/
def wantL (ops : Array Oper) (L : Env) (o : Oper) : Option Bool :=
  match o.guard with
  | none => some true
  | some (j, want) => match (ops[j]?).bind (·.dst) with
    | some t => match L.lookup t with
      | some (.bool b) => some (b == want)
      | some (.tuple _) => some false
      | _ => none
    | none => none
theorem wantL_run (fr : FrD Df N a L) {o : Oper} {b : Bool} (h : wantL ops L o = some b) : Region.wanted o (yielded ops a.tmps) = b := by
  unfold wantL at h
  split at h
  · rename_i hg
    injection h with h; subst h
    simp [Region.wanted, hg]
  · rename_i j want hg
    split at h
    · rename_i t ht
      split at h
      · rename_i c hc
        injection h with h; subst h
        have := (fr.get _ _ hc).1
        simp only [Region.wanted, hg, yielded, ht, Option.bind_some]
        rw [this]; simp
      · rename_i c hc
        injection h with h; subst h
        have := (fr.get _ _ hc).1
        simp only [Region.wanted, hg, yielded, ht, Option.bind_some]
        rw [this]; rfl
      · cases h
    · cases h
def stepL (T : Orc) (N : Nat) (ops : Array Oper) (o : Oper) (L : Env) : Option Env :=
  match o.dst with
  | none => none
  | some d => if d < N then
      match wantL ops L o with
      | some true => match pureOp T L o.op with
        | some v => some ((d, v) :: L)
        | none => none
      | some false => some ((d, undef) :: L)
      | none => none
    else none
def runL (T : Orc) (N : Nat) (ops : Array Oper) : Nat → List Oper → Env → Option (List Oper × Env)
  | 0, l, L => some (l, L)
  | _ + 1, [], _ => none
  | n + 1, o :: r, L => match stepL T N ops o L with
    | some L' => runL T N ops n r L'
    | none => none
theorem wl_op {o : Oper} {rest : List Oper} (fr : FrD Df N a L) (hw : wantL ops L o = some true) (h : ∀ K : Act → World → Prop, (∀ a w, wpList P ops Q rest a w → K a w) → o.wp P a w K Q) : wpList P ops Q (o :: rest) a w :=
  wpList_step fun K hK => by rw [wantL_run fr hw, if_pos rfl]; exact h K hK
theorem wl_no {o : Oper} {rest : List Oper} (fr : FrD Df N a L) (hw : wantL ops L o = some false) (h : wpList P ops Q rest (a.put o.dst undef) w) : wpList P ops Q (o :: rest) a w :=
  wpList_step fun K hK => by rw [wantL_run fr hw, if_neg (by decide)]; exact hK _ _ h
theorem wl_run (hT : T.Ok P) : ∀ (n : Nat) {l rest : List Oper} {L L' : Env} {a : Act}, runL T N ops n l L = some (rest, L') → FrD Df N a L → (∀ a', FrD Df N a' L' → wpList P ops Q rest a' w) → wpList P ops Q l a w := by
  intro n
  induction n with
  | zero => intro l rest L L' a hr fr h; simp only [runL, Option.some.injEq, Prod.mk.injEq] at hr; obtain ⟨rfl, rfl⟩ := hr; exact h a fr
  | succ n ih =>
    intro l rest L L' a hr fr h
    cases l with
    | nil => simp [runL] at hr
    | cons o r =>
      simp only [runL] at hr
      split at hr
      · rename_i L1 h1
        unfold stepL at h1
        split at h1
        · cases h1
        · rename_i d hd
          split at h1
          · rename_i hlt
            split at h1
            · rename_i hw
              split at h1
              · rename_i v hv
                injection h1 with h1; subst h1
                obtain ⟨e1, e2⟩ := pure_run hT fr hv w
                refine wl_op fr hw fun K hK => ?_
                refine wp_value e1 (hK _ _ ?_)
                rw [hd]
                exact ih hr (fr.put hlt e2) h
              · cases h1
            · rename_i hw
              injection h1 with h1; subst h1
              refine wl_no fr hw ?_
              rw [hd]
              exact ih hr (fr.put hlt rfl) h
            · cases h1
          · cases h1
      · cases hr
theorem wl_val {o : Oper} {rest : List Oper} {d : Nat} {v : Value} {w' : World} (fr : FrD Df N a L) (hw : wantL ops L o = some true) (hd : o.dst = some d) (hlt : Nat.blt d N = true) (hrun : (execOp a.eval o).run P w = .ok (.value v) w') (hv : vok v = true)
    (h : ∀ a', FrD Df N a' ((d, v) :: L) → wpList P ops Q rest a' w') : wpList P ops Q (o :: rest) a w :=
  wl_op fr hw fun K hK => wp_value hrun (hK _ _ (by rw [hd]; exact h _ (fr.put (blt_lt hlt) hv)))
theorem wp_skipv {o : Oper} {K : Act → World → Prop} {Q' : Exit → Act → World → Prop} {w' : World} (h : (execOp a.eval o).run P w = .ok .skip w') (hK : K (a.put o.dst undef) w') : Oper.wp P o a w K Q' := by
  unfold Oper.wp
  rw [h, Oper.upon_skip]
  exact hK
theorem wl_skip {o : Oper} {rest : List Oper} {w' : World} (fr : FrD Df N a L) (hw : wantL ops L o = some true) (hd : o.dst = none) (hrun : (execOp a.eval o).run P w = .ok .skip w') (h : wpList P ops Q rest a w') : wpList P ops Q (o :: rest) a w :=
  wl_op fr hw fun K hK => wp_skipv hrun (hK _ _ (by rw [hd]; exact h))
/-- What a call asks for. -/
def callL (L : Env) (o : Oper) : Option (FuncId × List Value) :=
  match o.op with
  | .call c => match c.callee with
    | .value (.func f) => (evs L c.args.toList).map fun xs => (f, xs)
    | _ => none
  | _ => none
def Enters (P : Program) (f : FuncId) : Prop := ∀ xs W, (callFunc f xs).run P W = .ok (.enter f xs) W
theorem call_run (fr : FrD Df N a L) {o : Oper} {f : FuncId} {xs : List Value} (h : callL L o = some (f, xs)) (hin : Enters P f) (w : World) : (execOp a.eval o).run P w = .ok (.enter f xs.toArray) w := by
  unfold callL at h
  split at h
  · rename_i c hc
    split at h
    · rename_i g hg
      simp only [Option.map_eq_some_iff, Prod.mk.injEq] at h
      obtain ⟨ys, h1, rfl, rfl⟩ := h
      have e : c.args.map a.eval = ys.toArray := by
        apply Array.toList_inj.1
        rw [Array.toList_map, (evs_run fr h1).1]
      unfold execOp
      simp only [hc, resolve, hg, Act.eval, Deferred.ofValue]
      rw [Sem.run_bind, Sem.run_pure, Result.andThen_ok]
      simp only [invoke]
      have e3 := hin ys.toArray w
      rw [← e] at e3 ⊢
      simpa using e3
    · cases h
  · cases h
theorem wp_call {o : Oper} {f : FuncId} {args : Array Value} {K : Act → World → Prop} {Q' : Exit → Act → World → Prop} (hrun : (execOp a.eval o).run P w = .ok (.enter f args) w) (h : Calls P f args w fun e w' => ∃ v, e = .returned v ∧ K (a.put o.dst v) w') : Oper.wp P o a w K Q' := by
  unfold Oper.wp
  rw [hrun, Oper.upon_enter]
  refine h.mono fun e w'' hh => ?_
  obtain ⟨v, rfl, hk⟩ := hh
  exact hk
theorem wl_call {o : Oper} {rest : List Oper} {d : Nat} {f : FuncId} {xs : List Value} {R : Ending → World → Prop} (fr : FrD Df N a L) (hw : wantL ops L o = some true) (hd : o.dst = some d) (hlt : Nat.blt d N = true) (hc : callL L o = some (f, xs)) (hin : Enters P f) (hcon : Calls P f xs.toArray w R)
    (h : ∀ e w', R e w' → ∃ v, e = .returned v ∧ vok v = true ∧ ∀ a', FrD Df N a' ((d, v) :: L) → wpList P ops Q rest a' w') : wpList P ops Q (o :: rest) a w :=
  wl_op fr hw fun K hK => wp_call (call_run fr hc hin w) (hcon.mono fun e w' hR => by
    obtain ⟨v, he, hv, hk⟩ := h e w' hR
    exact ⟨v, he, hK _ _ (by rw [hd]; exact hk _ (fr.put (blt_lt hlt) hv))⟩)
theorem wl_call0 {o : Oper} {rest : List Oper} {f : FuncId} {xs : List Value} {R : Ending → World → Prop} (fr : FrD Df N a L) (hw : wantL ops L o = some true) (hd : o.dst = none) (hc : callL L o = some (f, xs)) (hin : Enters P f) (hcon : Calls P f xs.toArray w R)
    (h : ∀ e w', R e w' → ∃ v, e = .returned v ∧ wpList P ops Q rest a w') : wpList P ops Q (o :: rest) a w :=
  wl_op fr hw fun K hK => wp_call (call_run fr hc hin w) (hcon.mono fun e w' hR => by
    obtain ⟨v, he, hk⟩ := h e w' hR
    exact ⟨v, he, hK _ _ (by rw [hd]; exact hk)⟩)
theorem wl_split {l : List Oper} {ρ : Type} {E1 E2 : Option ρ} {r : ρ} {b : Bool} (d : Nat) (fr : FrD Df N a L) (hd : L.lookup d = some (.bool b)) (h : (if b = true then E1 else E2) = some r)
    (ht : FrD Df N a ((d, .bool true) :: L) → E1 = some r → wpList P ops Q l a w) (hf : FrD Df N a ((d, .bool false) :: L) → E2 = some r → wpList P ops Q l a w) : wpList P ops Q l a w := by
  by_cases hb : b = true
  · rw [if_pos hb] at h; exact ht (fr.bool hd hb) h
  · rw [if_neg hb] at h; exact hf (fr.bool hd (by simpa using hb)) h
end

/-! ### 4. Regions that draw their order -/
section
variable {P : Program} {T : Orc} {Q : Exit → Act → World → Prop} {S : World → Prop} {Df : List Deferred} {N : Nat} {a : Act} {w : World} {L L' : Env}
def wantS (L : Env) (s : SOp) : Option Bool :=
  match s.g with
  | none => some true
  | some (t, want) => match L.lookup t with
    | some (.bool b) => some (b == want)
    | some (.tuple _) => some false
    | _ => none
theorem wantS_run (fr : FrD Df N a L) {s : SOp} {b : Bool} (h : wantS L s = some b) : s.wanted a.tmps = b := by
  obtain ⟨q, dst, op, ty, g⟩ := s
  unfold wantS at h
  unfold SOp.wanted
  cases g with
  | none => injection h with h
  | some g =>
    obtain ⟨t, want⟩ := g
    simp only at h ⊢
    split at h
    · rename_i c hc
      injection h with h; subst h
      have := (fr.get _ _ hc).1
      rw [Array.getD_eq_getD_getElem?, this]; rfl
    · rename_i c hc
      injection h with h; subst h
      have := (fr.get _ _ hc).1
      rw [Array.getD_eq_getD_getElem?, this]; rfl
    · cases h
def stepS (T : Orc) (N : Nat) (s : SOp) (L : Env) : Option Env :=
  match s.dst with
  | none => none
  | some d => if d < N then
      match wantS L s with
      | some true => match pureOp T L s.op with
        | some v => some ((d, v) :: L)
        | none => none
      | some false => some ((d, undef) :: L)
      | none => none
    else none
def runS (T : Orc) (N : Nat) : Nat → List Itm → Env → Option (List Itm × Env)
  | 0, l, L => some (l, L)
  | n + 1, .one s :: r, L => if s.q then match stepS T N s L with
    | some L' => runS T N n r L'
    | none => none else none
  | _ + 1, _, _ => none
theorem sl_run (hT : T.Ok P) : ∀ (n : Nat) {l rest : List Itm} {L L' : Env} {a : Act}, runS T N n l L = some (rest, L') → FrD Df N a L → (∀ a', FrD Df N a' L' → SL P Q S rest a' w) → SL P Q S l a w := by
  intro n
  induction n with
  | zero => intro l rest L L' a hr fr h; simp only [runS, Option.some.injEq, Prod.mk.injEq] at hr; obtain ⟨rfl, rfl⟩ := hr; exact h a fr
  | succ n ih =>
    intro l rest L L' a hr fr h
    cases l with
    | nil => simp [runS] at hr
    | cons i r =>
      cases i with
      | two s t => simp [runS] at hr
      | one s =>
        simp only [runS] at hr
        split at hr
        · rename_i hq
          split at hr
          · rename_i L1 h1
            unfold stepS at h1
            split at h1
            · cases h1
            · rename_i d hd
              split at h1
              · rename_i hlt
                split at h1
                · rename_i hw
                  split at h1
                  · rename_i v hv
                    injection h1 with h1; subst h1
                    refine .inr (.inl ⟨wantS_run fr hw, hq, v, fun w' _ => (pure_run hT fr (o := s.oper) hv w').1, ?_⟩)
                    rw [hd]
                    exact ih hr (fr.put hlt (pure_run hT fr (o := s.oper) hv w).2) h
                  · cases h1
                · rename_i hw
                  injection h1 with h1; subst h1
                  refine .inl ⟨wantS_run fr hw, .inl hq, ?_⟩
                  rw [hd]
                  exact ih hr (fr.put hlt rfl) h
                · cases h1
              · cases h1
          · cases hr
        · cases hr
/-- An operation that only reads, under what holds all through the region. -/
theorem sl_q {s : SOp} {rest : List Itm} {d : Nat} {v : Value} (fr : FrD Df N a L) (hw : wantS L s = some true) (hq : s.q = true) (hd : s.dst = some d) (hlt : Nat.blt d N = true) (hrun : ∀ w', S w' → (execOp a.eval s.oper).run P w' = .ok (.value v) w') (hv : vok v = true)
    (h : ∀ a', FrD Df N a' ((d, v) :: L) → SL P Q S rest a' w) : SL P Q S (.one s :: rest) a w :=
  .inr (.inl ⟨wantS_run fr hw, hq, v, hrun, by rw [hd]; exact h _ (fr.put (blt_lt hlt) hv)⟩)
theorem sl_val {s : SOp} {rest : List Itm} {d : Nat} {v : Value} {w' : World} (fr : FrD Df N a L) (hw : wantS L s = some true) (hq : s.q = false) (hd : s.dst = some d) (hlt : Nat.blt d N = true) (hrun : (execOp a.eval s.oper).run P w = .ok (.value v) w') (hS : S w') (hv : vok v = true)
    (h : ∀ a', FrD Df N a' ((d, v) :: L) → SL P Q S rest a' w') : SL P Q S (.one s :: rest) a w :=
  .inr (.inr ⟨wantS_run fr hw, hq, fun _ hK => wp_value hrun (hK _ _ hS (by show SL P Q S rest (a.put s.dst v) w'; rw [hd]; exact h _ (fr.put (blt_lt hlt) hv)))⟩)
theorem sl_skip {s : SOp} {rest : List Itm} {w' : World} (fr : FrD Df N a L) (hw : wantS L s = some true) (hq : s.q = false) (hd : s.dst = none) (hrun : (execOp a.eval s.oper).run P w = .ok .skip w') (hS : S w') (h : SL P Q S rest a w') : SL P Q S (.one s :: rest) a w :=
  .inr (.inr ⟨wantS_run fr hw, hq, fun _ hK => wp_skipv hrun (hK _ _ hS (by show SL P Q S rest (a.put s.dst undef) w'; rw [hd]; exact h))⟩)
theorem sl_call {s : SOp} {rest : List Itm} {d : Nat} {f : FuncId} {xs : List Value} {R : Ending → World → Prop} (fr : FrD Df N a L) (hw : wantS L s = some true) (hq : s.q = false) (hd : s.dst = some d) (hlt : Nat.blt d N = true) (hc : callL L s.oper = some (f, xs)) (hin : Enters P f) (hcon : Calls P f xs.toArray w R)
    (h : ∀ e w', R e w' → ∃ v, e = .returned v ∧ vok v = true ∧ S w' ∧ ∀ a', FrD Df N a' ((d, v) :: L) → SL P Q S rest a' w') : SL P Q S (.one s :: rest) a w :=
  .inr (.inr ⟨wantS_run fr hw, hq, fun _ hK => wp_call (call_run fr hc hin w) (hcon.mono fun e w' hR => by
    obtain ⟨v, he, hv, hS, hk⟩ := h e w' hR
    exact ⟨v, he, hK _ _ hS (by show SL P Q S rest (a.put s.dst v) w'; rw [hd]; exact hk _ (fr.put (blt_lt hlt) hv))⟩)⟩)
/-- A loud one that its guard shuts out. -/
theorem sl_no {s : SOp} {rest : List Itm} {d : Nat} (fr : FrD Df N a L) (hw : wantS L s = some false) (hS : S w) (hd : s.dst = some d) (hlt : Nat.blt d N = true) (h : ∀ a', FrD Df N a' ((d, undef) :: L) → SL P Q S rest a' w) : SL P Q S (.one s :: rest) a w :=
  .inl ⟨wantS_run fr hw, .inr hS, by rw [hd]; exact h _ (fr.put (blt_lt hlt) rfl)⟩
theorem sl_split {l : List Itm} {ρ : Type} {E1 E2 : Option ρ} {r : ρ} {b : Bool} (d : Nat) (fr : FrD Df N a L) (hd : L.lookup d = some (.bool b)) (h : (if b = true then E1 else E2) = some r)
    (ht : FrD Df N a ((d, .bool true) :: L) → E1 = some r → SL P Q S l a w) (hf : FrD Df N a ((d, .bool false) :: L) → E2 = some r → SL P Q S l a w) : SL P Q S l a w := by
  by_cases hb : b = true
  · rw [if_pos hb] at h; exact ht (fr.bool hd hb) h
  · rw [if_neg hb] at h; exact hf (fr.bool hd (by simpa using hb)) h
end

/-! ### 5. Code -/
section
variable {P : Program} {Q : Exit → Act → World → Prop} {Df : List Deferred} {N : Nat} {a : Act} {w : World} {L : Env}
theorem then_n {K : Act → World → Prop} (h : K a w) : Exit.then K Q .normal a w := h
theorem then_e {K : Act → World → Prop} {id : Nat} (h : Q (.exit id) a w) : Exit.then K Q (.exit id) a w := h
theorem then_r {K : Act → World → Prop} (h : Q .ret a w) : Exit.then K Q .ret a w := h
theorem blk_n {id : Nat} (h : Q .normal a w) : Exit.inBlock id Q .normal a w := h
theorem blk_r {id : Nat} (h : Q .ret a w) : Exit.inBlock id Q .ret a w := h
theorem blk_y {id : Nat} (h : Q .normal a w) : Exit.inBlock id Q (.exit id) a w := by simp only [Exit.inBlock, if_true]; exact h
theorem blk_e {id j : Nat} (hj : (j == id) = false) (h : Q (.exit j) a w) : Exit.inBlock id Q (.exit j) a w := by
  have : ¬ j = id := by simpa using hj
  simp only [Exit.inBlock, if_neg this]; exact h
theorem cw_if {c : Operand} {x y : Code} {ρ : Type} {E1 E2 : Option ρ} {r : ρ} {b : Bool} (fr : FrD Df N a L) (hc : ev L c = some (.bool b)) (h : (if b = true then E1 else E2) = some r) (ht : E1 = some r → x.wp P Q a w) (hf : E2 = some r → y.wp P Q a w) : (Code.cond c x y).wp P Q a w := by
  refine wp_cond_split (fr.ev hc).1 (fun hb => ?_) (fun hb => ?_)
  · rw [if_pos hb] at h; exact ht h
  · rw [hb, if_neg (by decide)] at h; exact hf h
theorem cw_t {c : Operand} {x y : Code} (fr : FrD Df N a L) (hc : ev L c = some (.bool true)) (h : x.wp P Q a w) : (Code.cond c x y).wp P Q a w := wp_cond_true (fr.ev hc).1 h
theorem cw_f {c : Operand} {x y : Code} (fr : FrD Df N a L) (hc : ev L c = some (.bool false)) (h : y.wp P Q a w) : (Code.cond c x y).wp P Q a w := wp_cond_false (fr.ev hc).1 h
/-- Where ways meet again. -/
theorem cw_cut {x y : Code} (M : Act → World → Prop) (hx : x.wp P (Exit.then M Q) a w) (hy : ∀ a w, M a w → y.wp P Q a w) : (Code.seq x y).wp P Q a w :=
  wp_seq (wp_mono hx fun e a w h => by cases e <;> first | exact hy _ _ h | exact h)
/-- The same at a block. -/
theorem cw_blk {id : Nat} {c : Code} (M : Act → World → Prop) (hx : c.wp P (Exit.inBlock id (Exit.then M Q)) a w) (hy : ∀ a w, M a w → Q .normal a w) : (Code.block id c).wp P Q a w :=
  wp_block (wp_mono hx fun e a w h => by
    cases e <;> first | exact hy _ _ h | exact h | skip
    rename_i j
    simp only [Exit.inBlock] at h ⊢
    split
    · rename_i hj; rw [if_pos hj] at h; exact hy _ _ h
    · rename_i hj; rw [if_neg hj] at h; exact h)
theorem cw_scope {c : Code} (h : c.wp P (Exit.noGoto Q) a w) : (Code.scope c).wp P Q a w := wp_scope_straight h
theorem ng_n (h : Q .normal a w) : Exit.noGoto Q .normal a w := h
theorem ng_r (h : Q .ret a w) : Exit.noGoto Q .ret a w := h
theorem ng_e {id : Nat} (h : Q (.exit id) a w) : Exit.noGoto Q (.exit id) a w := h
theorem least {p : Nat → Prop} (h : ∃ n, p n) : ∃ n, p n ∧ ∀ m, p m → n ≤ m := by
  obtain ⟨n, hn⟩ := h
  induction n using Nat.strongRecOn with
  | _ n ih =>
    by_cases h2 : ∃ m, m < n ∧ p m
    · obtain ⟨m, h3, h4⟩ := h2; exact ih m h3 h4
    · exact ⟨n, hn, fun m hm => Nat.le_of_not_lt fun h => h2 ⟨m, h, hm⟩⟩
/-- A loop, by a number of rounds that suffices. -/
theorem cw_loop {c : Code} (I : Nat → Act → World → Prop) (k : Nat) (h0 : I k a w) (hz : ∀ a w, ¬ I 0 a w) (hs : ∀ k a w, I (k + 1) a w → c.wp P (Exit.then (I k) Q) a w) : (Code.loop c).wp P Q a w := by
  classical
  refine wp_loop (fun a w => ∃ k, I k a w) (fun a w => if h : ∃ k, I k a w then (least h).choose else 0) ⟨k, h0⟩ fun a w hI => ?_
  obtain ⟨h1, h2⟩ := (least hI).choose_spec
  generalize hn : (least hI).choose = n at h1 h2
  have hn' : (if h : ∃ k, I k a w then (least h).choose else 0) = n := by rw [dif_pos hI]; exact hn
  rw [hn']
  cases n with
  | zero => exact absurd h1 (hz _ _)
  | succ n =>
    refine wp_mono (hs _ _ _ h1) fun e a' w' h => ?_
    cases e <;> first | exact h | skip
    have h3 : I n a' w' := h
    refine ⟨⟨n, h3⟩, ?_⟩
    rw [dif_pos ⟨n, h3⟩]
    have := (least (p := fun k => I k a' w') ⟨n, h3⟩).choose_spec.2 n h3
    omega
theorem ret1 {fn : Func} {R : Ending → World → Prop} {t : Nat} {v : Value} (fr : Fr N a L) (hres : fn.results = #[.tmp t]) (hv : L.lookup t = some v) (hR : R (.returned v) w) : bodyPost P fn R .ret a w :=
  bodyPost_ret (v := v) (by rw [results_tmp hres, Array.getD_eq_getD_getElem?, (fr.get _ _ hv).1]; rfl) fr.defers hR
theorem ret2 {fn : Func} {R : Ending → World → Prop} {t u : Nat} {v z : Value} (fr : Fr N a L) (hres : fn.results = #[.tmp t, .tmp u]) (hv : L.lookup t = some v) (hz : L.lookup u = some z) (hR : R (.returned (.tuple #[v, z])) w) : bodyPost P fn R .ret a w :=
  bodyPost_ret (v := .tuple #[v, z]) (by rw [results_tmp2 hres, Array.getD_eq_getD_getElem?, Array.getD_eq_getD_getElem?, (fr.get _ _ hv).1, (fr.get _ _ hz).1]; rfl) fr.defers hR
theorem ret3 {fn : Func} {R : Ending → World → Prop} {t u s : Nat} {v z y : Value} (fr : Fr N a L) (hres : fn.results = #[.tmp t, .tmp u, .tmp s]) (hv : L.lookup t = some v) (hz : L.lookup u = some z) (hy : L.lookup s = some y) (hR : R (.returned (.tuple #[v, z, y])) w) : bodyPost P fn R .ret a w :=
  bodyPost_ret (v := .tuple #[v, z, y]) (by
    have e : (results fn a.tmps).run P w = .ok (.tuple #[a.tmps.getD t undef, a.tmps.getD u undef, a.tmps.getD s undef]) w := by simp [results, hres]
    rw [e, Array.getD_eq_getD_getElem?, Array.getD_eq_getD_getElem?, Array.getD_eq_getD_getElem?, (fr.get _ _ hv).1, (fr.get _ _ hz).1, (fr.get _ _ hy).1]; rfl) fr.defers hR
theorem ret0 {fn : Func} {R : Ending → World → Prop} (fr : Fr N a L) (hres : fn.results = #[]) (hR : R (.returned (.tuple #[])) w) : bodyPost P fn R .ret a w :=
  bodyPost_ret (v := .tuple #[]) (results_none hres _ _ _) fr.defers hR
theorem end_ret {fn : Func} {R : Ending → World → Prop} (h : bodyPost P fn R .ret a w) : bodyPost P fn R .normal a w := h
theorem calls_start {f : FuncId} {fn : Func} {c : Code} {R : Ending → World → Prop} (xs : List Value) (hf : P.funcs[f]? = some fn) (hb : fn.body = some c) (hN : fn.ntmps = N) (hl : Nat.ble xs.length N = true) (hv : xs.all vok = true)
    (h : ∀ a, Fr N a (EnvOf 0 xs) → c.wp P (bodyPost P fn R) a w) : Calls P f xs.toArray w R := by
  refine calls_of_wp hf hb (h _ ?_)
  subst hN
  have := Fr.start fn.ntmps xs (Nat.le_of_ble_eq_true hl) hv
  simpa using this
theorem ifs {ρ : Type} {c : Prop} [Decidable c] {E : Option ρ} {r : ρ} (h : (if c then E else none) = some r) : c ∧ E = some r := by
  split at h
  · exact ⟨by assumption, h⟩
  · cases h
/-- A value under a name. -/
def lt {α ρ : Type} (e : α) (f : α → Option ρ) : Option ρ := f e
theorem lt_h {α ρ : Type} {e : α} {f : α → Option ρ} {r : ρ} (h : lt e f = some r) : ∃ x, e = x ∧ f x = some r := ⟨e, rfl, h⟩
theorem lt_is {α ρ : Type} {e v : α} {f : α → Option ρ} (h : e = v) : lt e f = f v := by subst h; rfl
theorem lt_all {α ρ : Type} {e : α} {f : α → Option ρ} {r : Option ρ} (h : ∀ x, e = x → f x = r) : lt e f = r := h e rfl
theorem bnd {α ρ : Type} {x : Option α} {f : α → Option ρ} {r : ρ} (h : x.bind f = some r) : ∃ y, x = some y ∧ f y = some r := Option.bind_eq_some_iff.1 h
end
end Go.Proofs.YticnjkdaccacaaaGreatDoor.Sx
end
section
/- Memory as a list of things that lie apart. -/
namespace Go.Proofs.YticnjkdaccacaaaGreatDoor.Sx
open Go Go.RowKit Base Own

/-- A thing in memory, with the blocks that it is in. -/
structure Asn where
  holds : World → Nat → (Nat → Prop) → Prop
  keep : ∀ {w w' : World} {B : Nat} {F G : Nat → Prop}, holds w B F → Chg G w w' → (∀ k, F k → ¬ G k) → (∀ k, k < B → ¬ G k) → holds w' B F
  dom : ∀ {w : World} {B : Nat} {F : Nat → Prop}, holds w B F → ∀ k, F k → B ≤ k ∧ k < w.heap.size
def SatF (w : World) (B : Nat) : (Nat → Prop) → List Asn → Prop
  | _, [] => True
  | U, A :: L => ∃ F, A.holds w B F ∧ (∀ k, F k → ¬ U k) ∧ SatF w B (fun k => U k ∨ F k) L
structure Sat (w0 w : World) (L : List Asn) : Prop where
  below : Below w0.heap.size w0 w
  parts : SatF w w0.heap.size (fun _ => False) L
section
variable {w0 w w' : World} {B : Nat} {U V : Nat → Prop} {A A' : Asn} {L M X Y : List Asn}
theorem SatF.weak : ∀ {L : List Asn} {U V : Nat → Prop}, SatF w B U L → (∀ k, V k → U k) → SatF w B V L := by
  intro L
  induction L with
  | nil => intro _ _ _ _; trivial
  | cons A L ih =>
    rintro U V ⟨F, h1, h2, h3⟩ hv
    exact ⟨F, h1, fun k hk hv' => h2 k hk (hv k hv'), ih h3 fun k hk => hk.imp (hv k) id⟩
theorem SatF.swap {A A' : Asn} (h : SatF w B U (A :: A' :: L)) : SatF w B U (A' :: A :: L) := by
  obtain ⟨F, h1, h2, F', h3, h4, h5⟩ := h
  exact ⟨F', h3, fun k hk hu => h4 k hk (.inl hu), F, h1, fun k hk hu => hu.elim (h2 k hk) (fun hf => h4 k hf (.inr hk)), h5.weak fun k hk => by
    rcases hk with (h | h) | h
    · exact .inl (.inl h)
    · exact .inr h
    · exact .inl (.inr h)⟩
theorem SatF.front : ∀ {X : List Asn} {U : Nat → Prop}, SatF w B U (X ++ A :: Y) → SatF w B U (A :: (X ++ Y)) := by
  intro X
  induction X with
  | nil => intro U h; exact h
  | cons C X ih =>
    rintro U ⟨F, h1, h2, h3⟩
    exact SatF.swap ⟨F, h1, h2, ih h3⟩
/-- The thing number i stands first. -/
theorem Sat.front (X : List Asn) {A : Asn} {Y : List Asn} (h : Sat w0 w (X ++ A :: Y)) : Sat w0 w (A :: (X ++ Y)) := ⟨h.below, h.parts.front⟩
theorem Sat.tl (h : Sat w0 w (A :: L)) : Sat w0 w L := by
  obtain ⟨F, _, _, h3⟩ := h.parts
  exact ⟨h.below, h3.weak fun _ hk => hk.elim⟩
theorem SatF.kept {G : Nat → Prop} (hc : Chg G w w') (hB : ∀ k, k < B → ¬ G k) : ∀ {L : List Asn} {U : Nat → Prop}, (∀ k, G k → U k) → SatF w B U L → SatF w' B U L := by
  intro L
  induction L with
  | nil => intro _ _ _; trivial
  | cons A L ih =>
    rintro U hG ⟨F, h1, h2, h3⟩
    exact ⟨F, A.keep h1 hc (fun k hk hg => h2 k hk (hG k hg)) hB, h2, ih (fun k hk => .inl (hG k hk)) h3⟩
theorem Sat.start (w : World) : Sat w w [] := ⟨Below.refl _ _, trivial⟩
theorem SatF.keptU {G : Nat → Prop} (hc : Chg G w w') (hB : ∀ k, k < B → ¬ G k) (h0 : ∀ k, k < w.heap.size → ¬ G k) : ∀ {L : List Asn} {U : Nat → Prop}, SatF w B U L → SatF w' B U L := by
  intro L
  induction L with
  | nil => intro _ _; trivial
  | cons A L ih =>
    rintro U ⟨F, h1, h2, h3⟩
    exact ⟨F, A.keep h1 hc (fun k hk hg => h0 k (A.dom h1 k hk).2 hg) hB, h2, ih h3⟩
theorem Sat.new (h : Sat w0 w L) (hb : Below w.heap.size w w') : Sat w0 w' L :=
  ⟨h.below.trans (below_weak h.below.size hb), h.parts.keptU (Chg.of_new hb) (fun _ _ h => h) (fun _ _ h => h)⟩
theorem Sat.drew (h : Sat w0 w L) : Sat w0 w.drew L := h.new (Below.refl _ _).drew
theorem Sat.alloc (h : Sat w0 w L) (o : Obj) : Sat w0 (w.alloc o) L := h.new ((Below.refl _ _).alloc (Nat.le_refl _) o)
theorem Sat.lower (h : Sat w w' L) (h0 : Below w0.heap.size w0 w) (hd : ∀ A ∈ L, ∀ F, A.holds w' w.heap.size F → A.holds w' w0.heap.size F) : Sat w0 w' L := by
  refine ⟨h0.trans (below_weak h0.size h.below), ?_⟩
  have key : ∀ {L : List Asn} {U : Nat → Prop}, (∀ A ∈ L, ∀ F, A.holds w' w.heap.size F → A.holds w' w0.heap.size F) → SatF w' w.heap.size U L → SatF w' w0.heap.size U L := by
    intro L
    induction L with
    | nil => intro _ _ _; trivial
    | cons A L ih =>
      rintro U hd ⟨F, h1, h2, h3⟩
      exact ⟨F, hd A (List.mem_cons_self) F h1, h2, ih (fun A hA => hd A (List.mem_cons_of_mem _ hA)) h3⟩
  exact key hd h.parts
/-- Something new. -/
theorem Sat.add {F : Nat → Prop} (h : Sat w0 w L) (hb : Below w.heap.size w w') (hA : A.holds w' w0.heap.size F) (hF : ∀ k, F k → w.heap.size ≤ k) : Sat w0 w' (A :: L) := by
  have h2 := h.new hb
  refine ⟨h2.below, F, hA, fun _ _ h => h, ?_⟩
  have key : ∀ {L : List Asn} {U : Nat → Prop}, SatF w w0.heap.size U L → SatF w' w0.heap.size (fun k => U k ∨ F k) L := by
    intro L
    induction L with
    | nil => intro _ _; trivial
    | cons C L ih =>
      rintro U ⟨G, h1, h2, h3⟩
      refine ⟨G, C.keep h1 (Chg.of_new hb) (fun _ _ h => h) (fun _ _ h => h), fun k hk hu => ?_, (ih h3).weak fun k hk => ?_⟩
      · rcases hu with hu | hu
        · exact h2 k hk hu
        · have := (C.dom h1 k hk).2; have := hF k hu; omega
      · rcases hk with (h | h) | h
        · exact .inl (.inl h)
        · exact .inr h
        · exact .inl (.inr h)
  exact key h.parts
/-- The first thing changes. -/
theorem Sat.opened (h : Sat w0 w (A :: L)) : ∃ F, A.holds w w0.heap.size F ∧ (∀ k, F k → w0.heap.size ≤ k ∧ k < w.heap.size) ∧
    ∀ {A' : Asn} {w' : World} {F' G : Nat → Prop}, A'.holds w' w0.heap.size F' → Chg G w w' → (∀ k, k < w.heap.size → G k → F k) → (∀ k, F' k → F k ∨ w.heap.size ≤ k) → Sat w0 w' (A' :: L) := by
  obtain ⟨F, h1, h2, h3⟩ := h.parts
  refine ⟨F, h1, A.dom h1, fun {A' w' F' G} hA' hc hG hF' => ?_⟩
  have hc' : Chg F w w' := hc.mono hG
  have hB : ∀ k, k < w0.heap.size → ¬ F k := fun k hk hf => by have := (A.dom h1 k hf).1; omega
  refine ⟨hc'.below h.below h.below.size (fun k hk => (A.dom h1 k hk).1), F', hA', fun _ _ h => h, ?_⟩
  have key : ∀ {L : List Asn} {U : Nat → Prop}, (∀ k, F k → U k) → SatF w w0.heap.size U L → SatF w' w0.heap.size (fun k => U k ∨ F' k) L := by
    intro L
    induction L with
    | nil => intro _ _ _; trivial
    | cons C L ih =>
      rintro U hU ⟨H, h1, h2, h3⟩
      refine ⟨H, C.keep h1 hc' (fun k hk hf => h2 k hk (hU k hf)) hB, fun k hk hu => ?_, (ih (fun k hk => .inl (hU k hk)) h3).weak fun k hk => ?_⟩
      · rcases hu with hu | hu
        · exact h2 k hk hu
        · rcases hF' k hu with h | h
          · exact h2 k hk (hU k h)
          · have := (C.dom h1 k hk).2; omega
      · rcases hk with (h | h) | h
        · exact .inl (.inl h)
        · exact .inr h
        · exact .inl (.inr h)
  exact (key (U := fun k => False ∨ F k) (fun k hk => .inr hk) h3).weak fun k hk => hk.elim (fun h => h.elim) .inr
theorem erase_split : ∀ {L : List Asn} {i : Nat}, L[i]? = some A → L = L.take i ++ A :: L.drop (i + 1) ∧ L.eraseIdx i = L.take i ++ L.drop (i + 1) := by
  intro L
  induction L with
  | nil => intro i h; simp at h
  | cons C L ih =>
    intro i h
    cases i with
    | zero => simp at h; subst h; exact ⟨rfl, rfl⟩
    | succ i =>
      obtain ⟨h1, h2⟩ := ih (by simpa using h)
      exact ⟨by simp only [List.take_succ_cons, List.drop_succ_cons, List.cons_append]; rw [← h1], by simp [h2]⟩
theorem Sat.frontAt (h : Sat w0 w L) (i : Nat) (hi : L[i]? = some A) : Sat w0 w (A :: L.eraseIdx i) := by
  obtain ⟨h1, h2⟩ := erase_split hi
  rw [h2]
  rw [h1] at h
  exact h.front _
def maskL : List Bool → List Asn → List Asn
  | [], L => L
  | _ :: _, [] => []
  | true :: m, A :: L => A :: maskL m L
  | false :: m, _ :: L => maskL m L
theorem Sat.mask (h : Sat w0 w L) (m : List Bool) : Sat w0 w (maskL m L) := by
  refine ⟨h.below, ?_⟩
  have key : ∀ {m : List Bool} {L : List Asn} {U : Nat → Prop}, SatF w w0.heap.size U L → SatF w w0.heap.size U (maskL m L) := by
    intro m
    induction m with
    | nil => intro L U h; exact h
    | cons b m ih =>
      intro L U h
      cases L with
      | nil => trivial
      | cons A L =>
        obtain ⟨F, h1, h2, h3⟩ := h
        cases b with
        | true => exact ⟨F, h1, h2, ih h3⟩
        | false => exact ih (h3.weak fun k hk => .inl hk)
  exact key h.parts
/-- What a call made for itself joins the rest. -/
theorem Sat.join {w1 : World} {M : List Asn} (h : Sat w0 w L) (h2 : Sat w w1 M) (hd : ∀ A ∈ M, ∀ F, A.holds w1 w.heap.size F → A.holds w1 w0.heap.size F) : Sat w0 w1 (M ++ L) := by
  have h3 := h.new h2.below
  refine ⟨h3.below, ?_⟩
  have key : ∀ {M : List Asn} {U : Nat → Prop}, (∀ A ∈ M, ∀ F, A.holds w1 w.heap.size F → A.holds w1 w0.heap.size F) → (∀ k, U k → w.heap.size ≤ k) → SatF w1 w.heap.size U M → SatF w1 w0.heap.size U (M ++ L) := by
    intro M
    induction M with
    | nil =>
      intro U _ hU _
      have : ∀ {L : List Asn} {U V : Nat → Prop}, (∀ k, U k → w.heap.size ≤ k) → SatF w w0.heap.size V L → SatF w1 w0.heap.size (fun k => U k ∨ V k) L := by
        intro L
        induction L with
        | nil => intro _ _ _ _; trivial
        | cons C L ih =>
          rintro U V hU ⟨G, g1, g2, g3⟩
          refine ⟨G, C.keep g1 (Chg.of_new h2.below) (fun _ _ h => h) (fun _ _ h => h), fun k hk hu => ?_, (ih hU g3).weak fun k hk => ?_⟩
          · rcases hu with hu | hu
            · have := (C.dom g1 k hk).2; have := hU k hu; omega
            · exact g2 k hk hu
          · rcases hk with (h | h) | h
            · exact .inl h
            · exact .inr (.inl h)
            · exact .inr (.inr h)
      exact (this hU h.parts).weak fun k hk => .inl hk
    | cons A M ih =>
      rintro U hd hU ⟨F, h1, h2, h3⟩
      exact ⟨F, hd A (List.mem_cons_self) F h1, h2, ih (fun A hA => hd A (List.mem_cons_of_mem _ hA)) (fun k hk => hk.elim (hU k) fun hf => (A.dom h1 k hf).1) h3⟩
  exact key hd (fun _ h => h.elim) h2.parts
theorem Sat.hd (h : Sat w0 w (A :: L)) : ∃ F, A.holds w w0.heap.size F := by
  obtain ⟨F, h1, _⟩ := h.parts
  exact ⟨F, h1⟩
end

/-! ### Rows of whole numbers -/
/-- What a slice reads as, and that its numbers are of its kind. -/
structure Rk (k : IntKind) (w : World) (A : Option Addr) (l : List Int) : Prop where
  rd : Rd k w A l
  wf : ∀ z ∈ l, (Lit.int k z).wf = true
section
variable {k : IntKind} {w w0 w' : World} {A : Option Addr} {l : List Int}
theorem Rk.below (h : Rk k w A l) (hb : Below w.heap.size w w') : Rk k w' A l := ⟨h.rd.below hb, h.wf⟩
theorem Rk.at {L : List Asn} (h : Rk k w0 A l) (S : Sat w0 w L) : Rk k w A l := h.below S.below
theorem Rk.take (h : Rk k w A l) (n : Nat) : Rk k w A (l.take n) := ⟨h.rd.take n, fun z hz => h.wf z (List.mem_of_mem_take hz)⟩
theorem Rk.drop (h : Rk k w A l) {n c : Nat} (hc : l.length ≤ c) : Rk k w (dropA A c n) (l.drop n) := ⟨h.rd.drop hc, fun z hz => h.wf z (List.mem_of_mem_drop hz)⟩
theorem Rk.nil : Rk k w A [] := ⟨Rd.nil, fun z hz => by cases hz⟩
theorem Rk.bytes (h : Rk .u8 w A l) : ∀ z ∈ l, 0 ≤ z ∧ z < 256 := fun z hz => by
  have := h.wf z hz
  rw [wf_int] at this
  have h1 : IntKind.u8.min = 0 := by decide
  have h2 : IntKind.u8.max = 255 := by decide
  omega
/-- A row of the call's own. -/
def ownA (k : IntKind) (e : TypeId) (A : Option Addr) (c : Nat) (l : List Int) : Asn where
  holds := fun w B F => OwnI k w B e (.slice A l.length c) l ∧ (∀ z ∈ l, (Lit.int k z).wf = true) ∧ ∀ g, F g ↔ (Value.slice A l.length c).ownBlock = some g
  keep := fun ⟨h1, h2, h3⟩ hc hF _ => ⟨h1.kept hc fun g hg => hF g ((h3 g).2 hg), h2, h3⟩
  dom := fun ⟨h1, _, h3⟩ g hg => h1.lt g ((h3 g).1 hg)
variable {e : TypeId} {c : Nat} {R : List Asn}
theorem Sat.own (S : Sat w0 w (ownA k e A c l :: R)) : Rk k w A l ∧ l.length ≤ c ∧ c ≤ maxLen := by
  obtain ⟨F, h1, h2, _⟩ := S.hd
  obtain ⟨A', c', e', h3, h4, h5, _⟩ := h1.slice
  injection e' with e1 e2 e3
  subst e1 e3
  exact ⟨⟨h5, h2⟩, h3, h4⟩
theorem Sat.ownAt {L : List Asn} (S : Sat w0 w L) (i : Nat) (hi : L[i]? = some (ownA k e A c l)) : Rk k w A l := (S.frontAt i hi).own.1
theorem own_lower {w : World} {B B' : Nat} (hB : B' ≤ B) : ∀ F, (ownA k e A c l).holds w B F → (ownA k e A c l).holds w B' F := fun _ ⟨h1, h2, h3⟩ => ⟨h1.lower hB, h2, h3⟩
theorem Sat.nilRow (k : IntKind) (e : TypeId) (S : Sat w0 w R) : Sat w0 w (ownA k e none 0 [] :: R) :=
  S.add (F := fun _ => False) (Below.refl _ _) ⟨OwnI.nil k w _ e, fun z hz => (by cases hz), fun g => by simp [Value.ownBlock]⟩ fun _ h => h.elim
/-- A row that a call made. -/
theorem Sat.row {v : Value} (S : Sat w0 w R) (hb : Below w.heap.size w w') (h : OwnI k w' w.heap.size e v l) (hwf : ∀ z ∈ l, (Lit.int k z).wf = true) : ∃ A c, v = .slice A l.length c ∧ vok (.slice A l.length c) = true ∧ Sat w0 w' (ownA k e A c l :: R) := by
  obtain ⟨A, c, rfl, h1, h2, _, _⟩ := h.slice
  refine ⟨A, c, rfl, by simp [vok, vokC, vok1, h1, h2], S.add (F := fun g => (Value.slice A l.length c).ownBlock = some g) hb ⟨h.lower S.below.size, hwf, fun g => Iff.rfl⟩ fun g hg => (h.lt g hg).1⟩
end
section
variable {P : Program} {T : Orc} {ops : Array Oper} {Q : Exit → Act → World → Prop} {Df : List Deferred} {N : Nat} {a : Act} {w w0 : World} {L : Env} {k : IntKind}
theorem indexAddr_run (hT : T.Ok P) (fr : FrD Df N a L) {o : Oper} {t : TypeId} {x ix : Operand} (ho : o.op = .indexAddr t x ix) {A : Addr} {n c : Nat} {e s : Nat} {ki : IntKind} {i : Int} (hx : ev L x = some (.slice (some A) n c)) (hi : ev L ix = some (.int ki i))
    (ht : T.ty.lookup t = some (.slice e)) (hs : T.sz.lookup e = some s) (h0 : 0 ≤ i) (hlt : i < n) (w : World) : (execOp a.eval o).run P w = .ok (.value (.pointer (some (A.add (i.toNat * s))))) w := by
  unfold execOp
  simp only [ho, (fr.ev hx).1, (fr.ev hi).1, Instr.indexAt, asIntOf]
  simp [run_underlying (hT.und ht), size_run hT hs, h0, hlt]
theorem load_run (hT : T.Ok P) (fr : FrD Df N a L) {o : Oper} {t : TypeId} {x : Operand} (ho : o.op = .load t x) {A : Addr} {v : Value} {d : TypeDesc} (hx : ev L x = some (.pointer (some A))) (ht : T.ty.lookup t = some d) (hd : aggD d = false) (hc : w.cell? A = some v) : (execOp a.eval o).run P w = .ok (.value v) w := by
  unfold execOp
  simp only [ho, (fr.ev hx).1, Instr.loadAt, Instr.sureAddr, loadVar]
  simp [isAgg_run (hT.und ht), hd, run_load, hc]
theorem FrD.skip {d : Nat} {v : Value} (fr : FrD Df N a ((d, v) :: L)) (h : L.lookup d = none) : FrD Df N a L := ⟨fr.size, fr.defers, fun e u he => fr.get e u (by
  rw [lookup_cons]
  by_cases hd : e = d
  · subst hd; rw [h] at he; cases he
  · rw [if_neg hd]; exact he)⟩
/-- An element of a slice of whole numbers. -/
theorem wl_ld (hT : T.Ok P) {o1 o2 : Oper} {rest : List Oper} {t te : TypeId} {x ix : Operand} {d1 d2 : Nat} {A : Option Addr} {l : List Int} {n c e : Nat} {ki : IntKind} {i : Int} {de : TypeDesc}
    (hr : Rk k w A l) (fr : FrD Df N a L) (hw : wantL ops L o1 = some true) (ho1 : o1.op = .indexAddr t x ix) (hd1 : o1.dst = some d1) (hw2 : wantL ops L o2 = some true) (ho2 : o2.op = .load te (.tmp d1)) (hd2 : o2.dst = some d2) (hl1 : Nat.blt d1 N = true) (hl2 : Nat.blt d2 N = true)
    (hx : ev L x = some (.slice A n c)) (hi : ev L ix = some (.int ki i)) (ht : T.ty.lookup t = some (.slice e)) (hs : T.sz.lookup e = some 1) (hte : T.ty.lookup te = some de) (hde : aggD de = false) (hn : n = l.length) (hf : L.lookup d1 = none) (hb : 0 ≤ i ∧ i < (l.length : Int))
    (h : ∀ a', FrD Df N a' ((d2, .int k (l.getD i.toNat 0)) :: L) → wpList P ops Q rest a' w) : wpList P ops Q (o1 :: o2 :: rest) a w := by
  subst hn
  obtain ⟨j, rfl⟩ : ∃ j : Nat, i = j := ⟨i.toNat, by omega⟩
  have hj : j < l.length := by omega
  obtain ⟨ad, rfl, -, hc⟩ := hr.rd.cell hj
  refine wl_val fr hw hd1 hl1 (indexAddr_run hT fr ho1 hx hi ht hs (by omega) hb.2 w) rfl fun a1 fr1 => ?_
  have hw3 : wantL ops ((d1, .pointer (some (ad.add ((j : Int).toNat * 1)))) :: L) o2 = some true := by
    have hk := hw2
    unfold wantL at hk ⊢
    split at hk
    · exact hk
    · rename_i j' want hg'
      split at hk
      · rename_i t' ht'
        split at hk
        · rename_i b hb'
          have hne : t' ≠ d1 := fun e => by subst e; rw [hf] at hb'; cases hb'
          rw [lookup_cons, if_neg hne, hb']; exact hk
        · cases hk
        · cases hk
      · cases hk
  refine wl_val (v := .int k (l.getD j 0)) fr1 hw3 hd2 hl2 (load_run hT fr1 ho2 (by show ((d1, _) :: L).lookup d1 = _; rw [lookup_cons, if_pos rfl]) hte hde (by rw [Int.toNat_natCast, Nat.mul_one]; exact hc)) ?_ fun a2 fr2 => h a2 ?_
  · have hm : l.getD j 0 ∈ l := by rw [List.getD_eq_getElem?_getD, List.getElem?_eq_getElem hj]; exact List.getElem_mem hj
    exact hr.wf _ hm
  · refine ⟨fr2.size, fr2.defers, fun e u he => fr2.get e u ?_⟩
    rw [lookup_cons] at he ⊢
    by_cases h1 : e = d2
    · rw [if_pos h1] at he ⊢; rw [Int.toNat_natCast] at he; exact he
    · rw [if_neg h1] at he ⊢
      rw [lookup_cons]
      by_cases h2 : e = d1
      · subst h2; rw [hf] at he; cases he
      · rw [if_neg h2]; exact he
end
theorem ite_h {ρ : Type} {c : Prop} [Decidable c] {E1 E2 : Option ρ} {r : ρ} {G : Prop} (h : (if c then E1 else E2) = some r) (h1 : c → E1 = some r → G) (h2 : ¬ c → E2 = some r → G) : G := by
  by_cases hc : c
  · rw [if_pos hc] at h; exact h1 hc h
  · rw [if_neg hc] at h; exact h2 hc h
end Go.Proofs.YticnjkdaccacaaaGreatDoor.Sx
end
section
/- Bytes: made, compared, cloned, read as text. -/
namespace Go.Proofs.YticnjkdaccacaaaGreatDoor.Bytes
open Go.RowKit Base Own

def Bts (l : List Int) : Prop := ∀ x ∈ l, 0 ≤ x ∧ x < 256
theorem Bts.take {l : List Int} (h : Bts l) (k : Nat) : Bts (l.take k) := fun x hx => h x (List.mem_of_mem_take hx)
theorem Bts.drop {l : List Int} (h : Bts l) (k : Nat) : Bts (l.drop k) := fun x hx => h x (List.mem_of_mem_drop hx)
theorem Bts.append {l m : List Int} (h : Bts l) (h' : Bts m) : Bts (l ++ m) := fun x hx => (List.mem_append.1 hx).elim (h x) (h' x)
theorem Bts.zeros (n : Nat) : Bts (List.replicate n 0) := by intro x hx; rw [List.eq_of_mem_replicate hx]; decide
def bts (l : List Int) : Bool := l.all fun x => decide (0 ≤ x) && decide (x < 256)
theorem bts_of {l : List Int} (h : bts l = true) : Bts l := by
  unfold bts at h; rw [List.all_eq_true] at h
  intro x hx; have := h x hx; simpa using this
theorem tyB : RowTy Tryz.prog 45 5 .u8 := ⟨Tryz.underlying45, 1, by decide, by kernel_rfl⟩
theorem info1 : (Tryz.prog.info? 5).map (·.size) = some 1 := by kernel_rfl
theorem mk (M : Nat) (x : Int) (hx : x = M) (hn : M ≤ 1000000000000) : ∀ W : World, (Instr.makeSlice 45 (.int .i64 x) (.int .i64 x)).run Tryz.prog W = .ok (.slice (some ⟨W.heap.size, 0, none⟩) M M) (W.alloc (.cells (Array.replicate M (.int .u8 0)) 5)) := by
  intro W
  subst hx
  exact mk_run 45 5 (.int .u8 0) 1 Tryz.underlying45 (by kernel_rfl) rfl .i64 .i64 M (by omega) (by omega) W
theorem made_own (M B : Nat) (w : World) (hB : B ≤ w.heap.size) (hM : M ≤ 100000) : OwnI .u8 (w.alloc (.cells (Array.replicate M (.int .u8 0)) 5)) B 5 (.slice (some ⟨w.heap.size, 0, none⟩) M M) (List.replicate M 0) := by
  have h := OwnI.made (B := B) w .u8 (List.replicate M (0 : Int)) 5 (Array.replicate M (.int .u8 0)) (by simp) hB (by simp [maxLen]; omega)
  rwa [List.length_replicate] at h
theorem take_next {a b : List Int} {k : Nat} (hl : a.length = b.length) (hk : k < a.length) (h : a.take k = b.take k) (he : a.getD k 0 = b.getD k 0) : a.take (k + 1) = b.take (k + 1) := by
  rw [List.take_succ_eq_append_getElem hk, List.take_succ_eq_append_getElem (by omega), h]
  rw [List.getD_eq_getElem?_getD, List.getD_eq_getElem?_getD, List.getElem?_eq_getElem hk, List.getElem?_eq_getElem (by omega)] at he
  simp only [Option.getD_some] at he
  rw [he]
theorem ne_of_cell {a b : List Int} {k : Nat} (he : ¬ a.getD k 0 = b.getD k 0) : decide (a = b) = false := by
  rw [decide_eq_false_iff_not]
  rintro rfl
  exact he rfl

theorem conv_str (P : Program) (w : World) (src e : TypeId) (hs : P.underlying src = some (.slice e)) (he : P.underlying e = some (.int .u8)) (A : Option Addr) (n c : Nat) (l : List Int) (hn : l.length = n) (h : Rd .u8 w A l) (dst : TypeId) (hd : P.underlying dst = some .string) :
    (convert src dst (.slice A n c)).run P w = .ok (.string (strOfNums l)) w := by
  cases A with
  | none =>
    obtain rfl := h.empty rfl
    exact run_convert_bytes_nil w src e hs he n c dst hd
  | some ad =>
    have hl : (loadCells ad n).run P w = .ok (l.map (Value.int .u8)).toArray w := by
      have := run_loadCells_list (P := P) w ad (l.map (Value.int .u8)) (fun j v hj => by
        have hjl : j < l.length := by
          rcases Nat.lt_or_ge j l.length with h | h
          · exact h
          · simp [List.getElem?_eq_none (show (l.map (Value.int .u8)).length ≤ j by simpa using h)] at hj
        obtain ⟨ad', e', _, hc⟩ := h.cell hjl
        cases e'
        rw [hc]
        simp [List.getElem?_eq_getElem hjl] at hj
        subst hj
        simp [List.getD, List.getElem?_eq_getElem hjl])
      simpa [hn] using this
    rw [run_convert_bytes_string w src dst e _ n c hs he hd, run_bytesToString w _ n c l hl, foldl_push_bytes]
    simp [strOfNums, ByteArray.empty, ByteArray.emptyWithCapacity]
    rfl
theorem str_inj : ∀ (l m : List Int), Bts l → Bts m → strOfNums l = strOfNums m → l = m := by
  intro l m hl hm h
  have h1 := congrArg (fun s : ByteArray => s.data.toList) h
  simp only [strOfNums_data] at h1
  clear h
  induction l generalizing m with
  | nil => cases m with
    | nil => rfl
    | cons y m => simp at h1
  | cons x l ih => cases m with
    | nil => simp at h1
    | cons y m =>
      simp only [List.map_cons, List.cons.injEq] at h1
      have hx := hl x (List.mem_cons_self)
      have hy := hm y (List.mem_cons_self)
      have h2 := congrArg UInt8.toNat h1.1
      rw [UInt8.toNat_ofNat', UInt8.toNat_ofNat'] at h2
      rw [ih m (fun z hz => hl z (List.mem_cons_of_mem _ hz)) (fun z hz => hm z (List.mem_cons_of_mem _ hz)) h1.2]
      congr 1
      omega
set_option maxRecDepth 100000 in
theorem sameBytes (A B : Option Addr) (ca cb : Nat) (a b : List Int) (w : World) (hla : a.length ≤ 1000000000) (hlb : b.length ≤ 1000000000) (ha : Rd .u8 w A a) (hb : Rd .u8 w B b) :
    Calls Tryz.prog 18 #[.slice A a.length ca, .slice B b.length cb] w fun e w' => e = .returned (.bool (decide (a = b))) ∧ Below w.heap.size w w' := by
  have HA := Lib.hid ha
  have HB := Lib.hid hb
  clear ha hb
  by_cases hlen : a.length = b.length
  · have hz : ((a.length : Int) == b.length) = true := by rw [beq_iff_eq]; omega
    have HL := Lib.hid hlen
    obtain ⟨n, hn⟩ : ∃ n, n = a.length := ⟨_, rfl⟩
    have HN := Lib.hid hn
    rw [← hlen, ← hn]
    rw [← hn] at hla
    clear hlen hlb hz hn
    go_enter Tryz.func18, Tryz.ntmps18
    go_wp2
    go_loopw [5] (fun i wr => ∃ k : Nat, k ≤ n ∧ i = .int .i64 k ∧ Hid (a.take k = b.take k) ∧ Hid (Below w.heap.size w wr)) (fun i _ => n - (intOf i).toNat)
    case atStart => exact ⟨0, by omega, rfl, by simp [Hid], Below.refl _ _⟩
    case round =>
      obtain ⟨k, hk, rfl, hat, hbd⟩ := hrel
      by_cases hlt : k < n
      · obtain ⟨x, rfl, hxb, hxc⟩ := (HA.out.below hbd.out).cell (j := k) (by rw [← HN.out]; exact hlt)
        obtain ⟨y, rfl, hyb, hyc⟩ := (HB.out.below hbd.out).cell (j := k) (by rw [← HL.out, ← HN.out]; exact hlt)
        by_cases he : a.getD k 0 = b.getD k 0
        · have HE := Lib.hid he
          rw [← he] at hyc
          clear he
          obtain ⟨z, hz⟩ : ∃ z, z = a.getD k 0 := ⟨_, rfl⟩
          rw [← hz] at hxc hyc
          clear hz
          go_wp2
          refine wp_region_sl [.one (0, true, some 17), .one (1, true, some 18), .one (2, true, some 19), .one (3, true, some 20), .one (4, true, some 21), .one (5, true, some 22), .one (6, true, some 23), .one (7, true, some 24), .one (8, true, some 25)]
                [.one ⟨true, some 17, (Go.Op.move (Go.Operand.tmp 0)), 45, none⟩,
                .one ⟨true, some 18, (Go.Op.move (Go.Operand.tmp 5)), 3, none⟩,
                .one ⟨true, some 19, (Go.Op.indexAddr 45 (Go.Operand.tmp 17) (Go.Operand.tmp 18)), 0, none⟩,
                .one ⟨true, some 20, (Go.Op.load 5 (Go.Operand.tmp 19)), 5, none⟩,
                .one ⟨true, some 21, (Go.Op.move (Go.Operand.tmp 1)), 45, none⟩,
                .one ⟨true, some 22, (Go.Op.move (Go.Operand.tmp 5)), 3, none⟩,
                .one ⟨true, some 23, (Go.Op.indexAddr 45 (Go.Operand.tmp 21) (Go.Operand.tmp 22)), 0, none⟩,
                .one ⟨true, some 24, (Go.Op.load 5 (Go.Operand.tmp 23)), 5, none⟩,
                .one ⟨true, some 25, (Go.Op.binOp Go.BinOp.neq 5 (Go.Operand.tmp 20) (Go.Operand.tmp 24) 5), 4, none⟩]
                (fun w' => w'.cell? (x.add k) = some (.int .u8 z) ∧ w'.cell? (y.add k) = some (.int .u8 z)) rfl (by kernel_rfl) (by kernel_rfl) ?_ ?_
          · exact ⟨hxc, hyc⟩
          (repeat (first | ((with_reducible refine sq (v := ?_) (a' := ?_) ?_ ?_ ?_); rotate_left 2; (focus (intro w' hS; go_simp; (first | done | with_reducible rfl | rfl))); (simp only [Act.put, List.setIfInBounds_toArray, List.set_cons_zero, List.set_cons_succ]; rfl)) | ((with_reducible refine sn (a' := ?_) ?_ ?_ ?_); rotate_left; (focus rfl); (simp only [Act.put, List.setIfInBounds_toArray, List.set_cons_zero, List.set_cons_succ]; rfl)) | ((with_reducible refine sf trivial (a' := ?_) ?_ ?_ ?_); rotate_left; (focus rfl); (simp only [Act.put, List.setIfInBounds_toArray, List.set_cons_zero, List.set_cons_succ]; rfl)) | ((with_reducible refine sqg (v := ?_) (a' := ?_) ?_ ?_ ?_ ?_); rotate_left 2; (focus rfl); (focus (intro w' hS; go_simp; (first | done | with_reducible rfl | rfl))); (simp only [Act.put, List.setIfInBounds_toArray, List.set_cons_zero, List.set_cons_succ]; rfl)))); (repeat ((go_bits; (first | ((with_reducible refine sq (v := ?_) (a' := ?_) ?_ ?_ ?_); rotate_left 2; (focus (intro w' hS; go_simp; (first | done | with_reducible rfl | rfl))); (simp only [Act.put, List.setIfInBounds_toArray, List.set_cons_zero, List.set_cons_succ]; rfl)) | ((with_reducible refine sn (a' := ?_) ?_ ?_ ?_); rotate_left; (focus rfl); (simp only [Act.put, List.setIfInBounds_toArray, List.set_cons_zero, List.set_cons_succ]; rfl)) | ((with_reducible refine sf trivial (a' := ?_) ?_ ?_ ?_); rotate_left; (focus rfl); (simp only [Act.put, List.setIfInBounds_toArray, List.set_cons_zero, List.set_cons_succ]; rfl)) | ((with_reducible refine sqg (v := ?_) (a' := ?_) ?_ ?_ ?_ ?_); rotate_left 2; (focus rfl); (focus (intro w' hS; go_simp; (first | done | with_reducible rfl | rfl))); (simp only [Act.put, List.setIfInBounds_toArray, List.set_cons_zero, List.set_cons_succ]; rfl)))); (repeat (first | ((with_reducible refine sq (v := ?_) (a' := ?_) ?_ ?_ ?_); rotate_left 2; (focus (intro w' hS; go_simp; (first | done | with_reducible rfl | rfl))); (simp only [Act.put, List.setIfInBounds_toArray, List.set_cons_zero, List.set_cons_succ]; rfl)) | ((with_reducible refine sn (a' := ?_) ?_ ?_ ?_); rotate_left; (focus rfl); (simp only [Act.put, List.setIfInBounds_toArray, List.set_cons_zero, List.set_cons_succ]; rfl)) | ((with_reducible refine sf trivial (a' := ?_) ?_ ?_ ?_); rotate_left; (focus rfl); (simp only [Act.put, List.setIfInBounds_toArray, List.set_cons_zero, List.set_cons_succ]; rfl)) | ((with_reducible refine sqg (v := ?_) (a' := ?_) ?_ ?_ ?_ ?_); rotate_left 2; (focus rfl); (focus (intro w' hS; go_simp; (first | done | with_reducible rfl | rfl))); (simp only [Act.put, List.setIfInBounds_toArray, List.set_cons_zero, List.set_cons_succ]; rfl)))))); (try go_bits)
          refine sl_end ?_
          go_wp2
          go_roundw
          case rel => exact ⟨k + 1, by omega, rfl, take_next HL.out (by rw [← HN.out]; exact hlt) hat.out HE.out, hbd.out.drew⟩
          case measure => simp [intOf]; omega
        · have HE := Lib.hid he
          obtain ⟨z, hz⟩ : ∃ z, z = a.getD k 0 := ⟨_, rfl⟩
          obtain ⟨z2, hz2⟩ : ∃ z, z = b.getD k 0 := ⟨_, rfl⟩
          rw [← hz, ← hz2] at he
          rw [← hz] at hxc
          rw [← hz2] at hyc
          clear hz hz2
          have hne : (z == z2) = false := by rw [beq_eq_false_iff_ne]; exact he
          clear he
          go_wp2
          refine wp_region_sl [.one (0, true, some 17), .one (1, true, some 18), .one (2, true, some 19), .one (3, true, some 20), .one (4, true, some 21), .one (5, true, some 22), .one (6, true, some 23), .one (7, true, some 24), .one (8, true, some 25)]
                [.one ⟨true, some 17, (Go.Op.move (Go.Operand.tmp 0)), 45, none⟩,
                .one ⟨true, some 18, (Go.Op.move (Go.Operand.tmp 5)), 3, none⟩,
                .one ⟨true, some 19, (Go.Op.indexAddr 45 (Go.Operand.tmp 17) (Go.Operand.tmp 18)), 0, none⟩,
                .one ⟨true, some 20, (Go.Op.load 5 (Go.Operand.tmp 19)), 5, none⟩,
                .one ⟨true, some 21, (Go.Op.move (Go.Operand.tmp 1)), 45, none⟩,
                .one ⟨true, some 22, (Go.Op.move (Go.Operand.tmp 5)), 3, none⟩,
                .one ⟨true, some 23, (Go.Op.indexAddr 45 (Go.Operand.tmp 21) (Go.Operand.tmp 22)), 0, none⟩,
                .one ⟨true, some 24, (Go.Op.load 5 (Go.Operand.tmp 23)), 5, none⟩,
                .one ⟨true, some 25, (Go.Op.binOp Go.BinOp.neq 5 (Go.Operand.tmp 20) (Go.Operand.tmp 24) 5), 4, none⟩]
                (fun w' => w'.cell? (x.add k) = some (.int .u8 z) ∧ w'.cell? (y.add k) = some (.int .u8 z2)) rfl (by kernel_rfl) (by kernel_rfl) ?_ ?_
          · exact ⟨hxc, hyc⟩
          (repeat (first | ((with_reducible refine sq (v := ?_) (a' := ?_) ?_ ?_ ?_); rotate_left 2; (focus (intro w' hS; go_simp; (first | done | with_reducible rfl | rfl))); (simp only [Act.put, List.setIfInBounds_toArray, List.set_cons_zero, List.set_cons_succ]; rfl)) | ((with_reducible refine sn (a' := ?_) ?_ ?_ ?_); rotate_left; (focus rfl); (simp only [Act.put, List.setIfInBounds_toArray, List.set_cons_zero, List.set_cons_succ]; rfl)) | ((with_reducible refine sf trivial (a' := ?_) ?_ ?_ ?_); rotate_left; (focus rfl); (simp only [Act.put, List.setIfInBounds_toArray, List.set_cons_zero, List.set_cons_succ]; rfl)) | ((with_reducible refine sqg (v := ?_) (a' := ?_) ?_ ?_ ?_ ?_); rotate_left 2; (focus rfl); (focus (intro w' hS; go_simp; (first | done | with_reducible rfl | rfl))); (simp only [Act.put, List.setIfInBounds_toArray, List.set_cons_zero, List.set_cons_succ]; rfl)))); (repeat ((go_bits; (first | ((with_reducible refine sq (v := ?_) (a' := ?_) ?_ ?_ ?_); rotate_left 2; (focus (intro w' hS; go_simp; (first | done | with_reducible rfl | rfl))); (simp only [Act.put, List.setIfInBounds_toArray, List.set_cons_zero, List.set_cons_succ]; rfl)) | ((with_reducible refine sn (a' := ?_) ?_ ?_ ?_); rotate_left; (focus rfl); (simp only [Act.put, List.setIfInBounds_toArray, List.set_cons_zero, List.set_cons_succ]; rfl)) | ((with_reducible refine sf trivial (a' := ?_) ?_ ?_ ?_); rotate_left; (focus rfl); (simp only [Act.put, List.setIfInBounds_toArray, List.set_cons_zero, List.set_cons_succ]; rfl)) | ((with_reducible refine sqg (v := ?_) (a' := ?_) ?_ ?_ ?_ ?_); rotate_left 2; (focus rfl); (focus (intro w' hS; go_simp; (first | done | with_reducible rfl | rfl))); (simp only [Act.put, List.setIfInBounds_toArray, List.set_cons_zero, List.set_cons_succ]; rfl)))); (repeat (first | ((with_reducible refine sq (v := ?_) (a' := ?_) ?_ ?_ ?_); rotate_left 2; (focus (intro w' hS; go_simp; (first | done | with_reducible rfl | rfl))); (simp only [Act.put, List.setIfInBounds_toArray, List.set_cons_zero, List.set_cons_succ]; rfl)) | ((with_reducible refine sn (a' := ?_) ?_ ?_ ?_); rotate_left; (focus rfl); (simp only [Act.put, List.setIfInBounds_toArray, List.set_cons_zero, List.set_cons_succ]; rfl)) | ((with_reducible refine sf trivial (a' := ?_) ?_ ?_ ?_); rotate_left; (focus rfl); (simp only [Act.put, List.setIfInBounds_toArray, List.set_cons_zero, List.set_cons_succ]; rfl)) | ((with_reducible refine sqg (v := ?_) (a' := ?_) ?_ ?_ ?_ ?_); rotate_left 2; (focus rfl); (focus (intro w' hS; go_simp; (first | done | with_reducible rfl | rfl))); (simp only [Act.put, List.setIfInBounds_toArray, List.set_cons_zero, List.set_cons_succ]; rfl)))))); (try go_bits)
          refine sl_end ?_
          go_wp2
          go_ret
          exact ⟨by rw [ne_of_cell HE.out]; rfl, hbd.out.drew⟩
      · obtain rfl : k = n := by omega
        go_wp2
        go_ret
        have e : a = b := by
          have h := hat.out
          rw [HN.out, List.take_length, HL.out, List.take_length] at h
          exact h
        exact ⟨by rw [decide_eq_true e]; rfl, hbd.out⟩
  · have hz : ((a.length : Int) == b.length) = false := by rw [beq_eq_false_iff_ne]; omega
    have e : decide (a = b) = false := by rw [decide_eq_false_iff_not]; rintro rfl; exact hlen rfl
    rw [e]
    go_enter Tryz.func18, Tryz.ntmps18
    go_wp2
    go_ret
    exact ⟨rfl, Below.refl _ _⟩
theorem sameBytes_m (A B : Option Addr) (n m ca cb : Nat) (a b : List Int) (w : World) (hn : a.length = n) (hm : b.length = m) (hla : n ≤ 1000000000) (hlb : m ≤ 1000000000) (ha : Rd .u8 w A a) (hb : Rd .u8 w B b) :
    Calls Tryz.prog 18 #[.slice A n ca, .slice B m cb] w fun e w' => e = .returned (.bool (decide (a = b))) ∧ Below w.heap.size w w' := by
  subst hn hm
  exact sameBytes A B ca cb a b w hla hlb ha hb
set_option maxRecDepth 100000 in
theorem equal (A B : Option Addr) (ca cb : Nat) (a b : List Int) (w : World) (hla : a.length ≤ 1000000000) (hlb : b.length ≤ 1000000000) (ha : Rd .u8 w A a) (hb : Rd .u8 w B b) :
    Calls Tryz.prog 248 #[.slice A a.length ca, .slice B b.length cb] w fun e w' => e = .returned (.bool (decide (a = b))) ∧ Below w.heap.size w w' := by
  have HA := Lib.hid ha
  have HB := Lib.hid hb
  clear ha hb
  by_cases hlen : a.length = b.length
  · have hz : ((a.length : Int) == b.length) = true := by rw [beq_iff_eq]; omega
    have HL := Lib.hid hlen
    obtain ⟨n, hn⟩ : ∃ n, n = a.length := ⟨_, rfl⟩
    have HN := Lib.hid hn
    rw [← hlen, ← hn]
    rw [← hn] at hla
    clear hlen hlb hz hn
    go_enter Tryz.func248, Tryz.ntmps248
    go_wp2
    go_loopw [13] (fun i wr => ∃ k : Nat, k ≤ n ∧ i = .int .i64 k ∧ Hid (a.take k = b.take k) ∧ Hid (Below w.heap.size w wr)) (fun i _ => n - (intOf i).toNat)
    case atStart => exact ⟨0, by omega, rfl, by simp [Hid], Below.refl _ _⟩
    case round =>
      obtain ⟨k, hk, rfl, hat, hbd⟩ := hrel
      by_cases hlt : k < n
      · obtain ⟨x, rfl, hxb, hxc⟩ := (HA.out.below hbd.out).cell (j := k) (by rw [← HN.out]; exact hlt)
        obtain ⟨y, rfl, hyb, hyc⟩ := (HB.out.below hbd.out).cell (j := k) (by rw [← HL.out, ← HN.out]; exact hlt)
        by_cases he : a.getD k 0 = b.getD k 0
        · have HE := Lib.hid he
          rw [← he] at hyc
          clear he
          obtain ⟨z, hz⟩ : ∃ z, z = a.getD k 0 := ⟨_, rfl⟩
          rw [← hz] at hxc hyc
          clear hz
          go_wp2
          refine wp_region_sl [.one (0, true, some 16), .one (1, true, some 17), .one (2, true, some 18), .one (3, true, some 19), .one (4, true, some 20), .one (5, true, some 21), .one (6, true, some 22), .one (7, true, some 23), .one (8, true, some 24)]
                [.one ⟨true, some 16, (Go.Op.move (Go.Operand.tmp 0)), 45, none⟩,
                .one ⟨true, some 17, (Go.Op.move (Go.Operand.tmp 5)), 3, none⟩,
                .one ⟨true, some 18, (Go.Op.indexAddr 45 (Go.Operand.tmp 16) (Go.Operand.tmp 17)), 0, none⟩,
                .one ⟨true, some 19, (Go.Op.load 5 (Go.Operand.tmp 18)), 5, none⟩,
                .one ⟨true, some 20, (Go.Op.move (Go.Operand.tmp 1)), 45, none⟩,
                .one ⟨true, some 21, (Go.Op.move (Go.Operand.tmp 5)), 3, none⟩,
                .one ⟨true, some 22, (Go.Op.indexAddr 45 (Go.Operand.tmp 20) (Go.Operand.tmp 21)), 0, none⟩,
                .one ⟨true, some 23, (Go.Op.load 5 (Go.Operand.tmp 22)), 5, none⟩,
                .one ⟨true, some 24, (Go.Op.binOp Go.BinOp.neq 5 (Go.Operand.tmp 19) (Go.Operand.tmp 23) 5), 4, none⟩]
                (fun w' => w'.cell? (x.add k) = some (.int .u8 z) ∧ w'.cell? (y.add k) = some (.int .u8 z)) rfl (by kernel_rfl) (by kernel_rfl) ?_ ?_
          · exact ⟨hxc, hyc⟩
          (repeat (first | ((with_reducible refine sq (v := ?_) (a' := ?_) ?_ ?_ ?_); rotate_left 2; (focus (intro w' hS; go_simp; (first | done | with_reducible rfl | rfl))); (simp only [Act.put, List.setIfInBounds_toArray, List.set_cons_zero, List.set_cons_succ]; rfl)) | ((with_reducible refine sn (a' := ?_) ?_ ?_ ?_); rotate_left; (focus rfl); (simp only [Act.put, List.setIfInBounds_toArray, List.set_cons_zero, List.set_cons_succ]; rfl)) | ((with_reducible refine sf trivial (a' := ?_) ?_ ?_ ?_); rotate_left; (focus rfl); (simp only [Act.put, List.setIfInBounds_toArray, List.set_cons_zero, List.set_cons_succ]; rfl)) | ((with_reducible refine sqg (v := ?_) (a' := ?_) ?_ ?_ ?_ ?_); rotate_left 2; (focus rfl); (focus (intro w' hS; go_simp; (first | done | with_reducible rfl | rfl))); (simp only [Act.put, List.setIfInBounds_toArray, List.set_cons_zero, List.set_cons_succ]; rfl)))); (repeat ((go_bits; (first | ((with_reducible refine sq (v := ?_) (a' := ?_) ?_ ?_ ?_); rotate_left 2; (focus (intro w' hS; go_simp; (first | done | with_reducible rfl | rfl))); (simp only [Act.put, List.setIfInBounds_toArray, List.set_cons_zero, List.set_cons_succ]; rfl)) | ((with_reducible refine sn (a' := ?_) ?_ ?_ ?_); rotate_left; (focus rfl); (simp only [Act.put, List.setIfInBounds_toArray, List.set_cons_zero, List.set_cons_succ]; rfl)) | ((with_reducible refine sf trivial (a' := ?_) ?_ ?_ ?_); rotate_left; (focus rfl); (simp only [Act.put, List.setIfInBounds_toArray, List.set_cons_zero, List.set_cons_succ]; rfl)) | ((with_reducible refine sqg (v := ?_) (a' := ?_) ?_ ?_ ?_ ?_); rotate_left 2; (focus rfl); (focus (intro w' hS; go_simp; (first | done | with_reducible rfl | rfl))); (simp only [Act.put, List.setIfInBounds_toArray, List.set_cons_zero, List.set_cons_succ]; rfl)))); (repeat (first | ((with_reducible refine sq (v := ?_) (a' := ?_) ?_ ?_ ?_); rotate_left 2; (focus (intro w' hS; go_simp; (first | done | with_reducible rfl | rfl))); (simp only [Act.put, List.setIfInBounds_toArray, List.set_cons_zero, List.set_cons_succ]; rfl)) | ((with_reducible refine sn (a' := ?_) ?_ ?_ ?_); rotate_left; (focus rfl); (simp only [Act.put, List.setIfInBounds_toArray, List.set_cons_zero, List.set_cons_succ]; rfl)) | ((with_reducible refine sf trivial (a' := ?_) ?_ ?_ ?_); rotate_left; (focus rfl); (simp only [Act.put, List.setIfInBounds_toArray, List.set_cons_zero, List.set_cons_succ]; rfl)) | ((with_reducible refine sqg (v := ?_) (a' := ?_) ?_ ?_ ?_ ?_); rotate_left 2; (focus rfl); (focus (intro w' hS; go_simp; (first | done | with_reducible rfl | rfl))); (simp only [Act.put, List.setIfInBounds_toArray, List.set_cons_zero, List.set_cons_succ]; rfl)))))); (try go_bits)
          refine sl_end ?_
          go_wp2
          go_roundw
          case rel => exact ⟨k + 1, by omega, rfl, take_next HL.out (by rw [← HN.out]; exact hlt) hat.out HE.out, hbd.out.drew⟩
          case measure => simp [intOf]; omega
        · have HE := Lib.hid he
          obtain ⟨z, hz⟩ : ∃ z, z = a.getD k 0 := ⟨_, rfl⟩
          obtain ⟨z2, hz2⟩ : ∃ z, z = b.getD k 0 := ⟨_, rfl⟩
          rw [← hz, ← hz2] at he
          rw [← hz] at hxc
          rw [← hz2] at hyc
          clear hz hz2
          have hne : (z == z2) = false := by rw [beq_eq_false_iff_ne]; exact he
          clear he
          go_wp2
          refine wp_region_sl [.one (0, true, some 16), .one (1, true, some 17), .one (2, true, some 18), .one (3, true, some 19), .one (4, true, some 20), .one (5, true, some 21), .one (6, true, some 22), .one (7, true, some 23), .one (8, true, some 24)]
                [.one ⟨true, some 16, (Go.Op.move (Go.Operand.tmp 0)), 45, none⟩,
                .one ⟨true, some 17, (Go.Op.move (Go.Operand.tmp 5)), 3, none⟩,
                .one ⟨true, some 18, (Go.Op.indexAddr 45 (Go.Operand.tmp 16) (Go.Operand.tmp 17)), 0, none⟩,
                .one ⟨true, some 19, (Go.Op.load 5 (Go.Operand.tmp 18)), 5, none⟩,
                .one ⟨true, some 20, (Go.Op.move (Go.Operand.tmp 1)), 45, none⟩,
                .one ⟨true, some 21, (Go.Op.move (Go.Operand.tmp 5)), 3, none⟩,
                .one ⟨true, some 22, (Go.Op.indexAddr 45 (Go.Operand.tmp 20) (Go.Operand.tmp 21)), 0, none⟩,
                .one ⟨true, some 23, (Go.Op.load 5 (Go.Operand.tmp 22)), 5, none⟩,
                .one ⟨true, some 24, (Go.Op.binOp Go.BinOp.neq 5 (Go.Operand.tmp 19) (Go.Operand.tmp 23) 5), 4, none⟩]
                (fun w' => w'.cell? (x.add k) = some (.int .u8 z) ∧ w'.cell? (y.add k) = some (.int .u8 z2)) rfl (by kernel_rfl) (by kernel_rfl) ?_ ?_
          · exact ⟨hxc, hyc⟩
          (repeat (first | ((with_reducible refine sq (v := ?_) (a' := ?_) ?_ ?_ ?_); rotate_left 2; (focus (intro w' hS; go_simp; (first | done | with_reducible rfl | rfl))); (simp only [Act.put, List.setIfInBounds_toArray, List.set_cons_zero, List.set_cons_succ]; rfl)) | ((with_reducible refine sn (a' := ?_) ?_ ?_ ?_); rotate_left; (focus rfl); (simp only [Act.put, List.setIfInBounds_toArray, List.set_cons_zero, List.set_cons_succ]; rfl)) | ((with_reducible refine sf trivial (a' := ?_) ?_ ?_ ?_); rotate_left; (focus rfl); (simp only [Act.put, List.setIfInBounds_toArray, List.set_cons_zero, List.set_cons_succ]; rfl)) | ((with_reducible refine sqg (v := ?_) (a' := ?_) ?_ ?_ ?_ ?_); rotate_left 2; (focus rfl); (focus (intro w' hS; go_simp; (first | done | with_reducible rfl | rfl))); (simp only [Act.put, List.setIfInBounds_toArray, List.set_cons_zero, List.set_cons_succ]; rfl)))); (repeat ((go_bits; (first | ((with_reducible refine sq (v := ?_) (a' := ?_) ?_ ?_ ?_); rotate_left 2; (focus (intro w' hS; go_simp; (first | done | with_reducible rfl | rfl))); (simp only [Act.put, List.setIfInBounds_toArray, List.set_cons_zero, List.set_cons_succ]; rfl)) | ((with_reducible refine sn (a' := ?_) ?_ ?_ ?_); rotate_left; (focus rfl); (simp only [Act.put, List.setIfInBounds_toArray, List.set_cons_zero, List.set_cons_succ]; rfl)) | ((with_reducible refine sf trivial (a' := ?_) ?_ ?_ ?_); rotate_left; (focus rfl); (simp only [Act.put, List.setIfInBounds_toArray, List.set_cons_zero, List.set_cons_succ]; rfl)) | ((with_reducible refine sqg (v := ?_) (a' := ?_) ?_ ?_ ?_ ?_); rotate_left 2; (focus rfl); (focus (intro w' hS; go_simp; (first | done | with_reducible rfl | rfl))); (simp only [Act.put, List.setIfInBounds_toArray, List.set_cons_zero, List.set_cons_succ]; rfl)))); (repeat (first | ((with_reducible refine sq (v := ?_) (a' := ?_) ?_ ?_ ?_); rotate_left 2; (focus (intro w' hS; go_simp; (first | done | with_reducible rfl | rfl))); (simp only [Act.put, List.setIfInBounds_toArray, List.set_cons_zero, List.set_cons_succ]; rfl)) | ((with_reducible refine sn (a' := ?_) ?_ ?_ ?_); rotate_left; (focus rfl); (simp only [Act.put, List.setIfInBounds_toArray, List.set_cons_zero, List.set_cons_succ]; rfl)) | ((with_reducible refine sf trivial (a' := ?_) ?_ ?_ ?_); rotate_left; (focus rfl); (simp only [Act.put, List.setIfInBounds_toArray, List.set_cons_zero, List.set_cons_succ]; rfl)) | ((with_reducible refine sqg (v := ?_) (a' := ?_) ?_ ?_ ?_ ?_); rotate_left 2; (focus rfl); (focus (intro w' hS; go_simp; (first | done | with_reducible rfl | rfl))); (simp only [Act.put, List.setIfInBounds_toArray, List.set_cons_zero, List.set_cons_succ]; rfl)))))); (try go_bits)
          refine sl_end ?_
          go_wp2
          go_ret
          exact ⟨by rw [ne_of_cell HE.out]; rfl, hbd.out.drew⟩
      · obtain rfl : k = n := by omega
        go_wp2
        go_ret
        have e : a = b := by
          have h := hat.out
          rw [HN.out, List.take_length, HL.out, List.take_length] at h
          exact h
        exact ⟨by rw [decide_eq_true e]; rfl, hbd.out⟩
  · have hz : ((a.length : Int) == b.length) = false := by rw [beq_eq_false_iff_ne]; omega
    have e : decide (a = b) = false := by rw [decide_eq_false_iff_not]; rintro rfl; exact hlen rfl
    rw [e]
    go_enter Tryz.func248, Tryz.ntmps248
    go_wp2
    go_ret
    exact ⟨rfl, Below.refl _ _⟩
theorem equal_m (A B : Option Addr) (n m ca cb : Nat) (a b : List Int) (w : World) (hn : a.length = n) (hm : b.length = m) (hla : n ≤ 1000000000) (hlb : m ≤ 1000000000) (ha : Rd .u8 w A a) (hb : Rd .u8 w B b) :
    Calls Tryz.prog 248 #[.slice A n ca, .slice B m cb] w fun e w' => e = .returned (.bool (decide (a = b))) ∧ Below w.heap.size w w' := by
  subst hn hm
  exact equal A B ca cb a b w hla hlb ha hb
/-- slices.Clone. -/
theorem clone (A : Option Addr) (n c : Nat) (l : List Int) (w : World) (hn : l.length = n) (hl : n ≤ 1000000000) (hA : A ≠ none ∨ n = 0 ∧ c = 0) (hr : Rd .u8 w A l) :
    Calls Tryz.prog 80 #[.slice A n c] w fun e w' => ∃ v, e = .returned v ∧ OwnI .u8 w' w.heap.size 5 v l ∧ Below w.heap.size w w' := by
  have hq : ∀ (W : World) (a : Option Addr) (n c n' c' : Nat), (binOp .eql 45 (.slice a n c) (.slice none n' c')).run Tryz.prog W = .ok (.bool a.isNone) W := fun W a n c n' c' => Lib.run_eql_slice_nil W _ _ a n c n' c' Tryz.underlying45
  cases A with
  | none =>
    obtain rfl := hr.empty rfl
    obtain ⟨rfl, rfl⟩ : n = 0 ∧ c = 0 := hA.elim (fun h => absurd rfl h) id
    go_enter Tryz.func80, Tryz.ntmps80
    go_wp2
    go_ret
    exact ⟨_, rfl, OwnI.nil _ _ _ _, Below.refl _ _⟩
  | some ad =>
    have HR := Lib.hid hr
    clear hr
    go_enter Tryz.func80, Tryz.ntmps80
    have H0 := Lib.hid (show Below w.heap.size w (w.alloc (.cells #[] 5)) ∧ OwnI .u8 (w.alloc (.cells #[] 5)) w.heap.size 5 (.slice (some ⟨w.heap.size, 0, none⟩) 0 0) [] from
      ⟨(Below.refl _ _).alloc (Nat.le_refl _) _, OwnI.made w .u8 [] 5 #[] rfl (Nat.le_refl _) (Nat.zero_le _)⟩)
    go_wp2_with (at_builtin; refine ap_list rfl tyB H0.out.1 H0.out.2 (HR.out.below H0.out.1) (fun e => by cases e) (by simp; omega) (.tmp 5) (.tmp 6) n c rfl rfl rfl hn ?_; intro v2 w2 own2 bd2 _ _; have H2 := Lib.hid (And.intro own2 bd2); clear own2 bd2)
    go_ret
    refine ⟨_, rfl, ?_, H2.out.2⟩
    have h := H2.out.1
    rwa [List.nil_append] at h
end Go.Proofs.YticnjkdaccacaaaGreatDoor.Bytes
end
section
/- Own rows of elements of more cells than one. -/
namespace Go.Proofs.YticnjkdaccacaaaGreatDoor.OwnV
open Go Go.RowKit Base Own

def RowV (w : World) (B : Nat) (e : TypeId) (z : Nat) (v : Value) (n : Nat) (xs : List Value) : Prop := w.ownsRow B e z v n xs
section
variable {w w' : World} {B : Nat} {e : TypeId} {z : Nat} {v : Value} {n : Nat} {xs : List Value}
theorem RowV.nil (w : World) (B : Nat) (e : TypeId) (z : Nat) : RowV w B e z (.slice none 0 0) 0 [] := ⟨by simp, .inl ⟨rfl, rfl⟩⟩
theorem RowV.len (h : RowV w B e z v n xs) : xs.length = n * z := h.1
theorem RowV.slice (h : RowV w B e z v n xs) : ∃ A c, v = .slice A n c ∧ n ≤ c ∧ c ≤ maxLen ∧ (A = none → n = 0) ∧ ∀ ad, A = some ad → ∃ g, ad = ⟨g, 0, none⟩ ∧ B ≤ g ∧ g < w.heap.size ∧ w.rangeAt g 0 xs ∧ w.there g 0 (n * z) := by
  rcases h.2 with ⟨rfl, rfl⟩ | ⟨g, cap, cur, rfl, hB, hg, h1, h2, h3, h4⟩
  · exact ⟨none, 0, rfl, Nat.le_refl _, Nat.zero_le _, fun _ => rfl, fun ad e => by cases e⟩
  · refine ⟨some ⟨g, 0, none⟩, cap, rfl, h1, h2, fun e => absurd e (by simp), fun ad e => ?_⟩
    injection e with e; subst e
    have hsz : n * z ≤ cur.size := by rw [h3]; exact Nat.mul_le_mul_right _ h1
    refine ⟨g, rfl, hB, (Array.getElem?_eq_some_iff.1 hg).1, fun j u hj => ?_, fun j hj => ⟨?_, ?_⟩⟩
    · rw [Nat.zero_add, cell_of_row _ _ _ _ _ _ hg]
      rw [← h4, List.getElem?_take] at hj
      split at hj
      · rw [← hj]; simp
      · cases hj
    · rw [Nat.zero_add, cell_of_row _ _ _ _ _ _ hg, Array.getElem?_eq_getElem (by omega)]; rfl
    · rw [Nat.zero_add]; exact frozen_of_row _ _ _ _ _ hg
theorem RowV.kept {F : Nat → Prop} (h : RowV w B e z v n xs) (hc : Chg F w w') (hF : ∀ g, v.ownBlock = some g → ¬ F g) : RowV w' B e z v n xs := by
  refine ⟨h.1, ?_⟩
  rcases h.2 with hn | ⟨g, cap, cur, rfl, hb, hgg, rest⟩
  · exact .inl hn
  · refine .inr ⟨g, cap, cur, rfl, hb, ?_, rest⟩
    rw [hc.block g (Array.getElem?_eq_some_iff.1 hgg).1 (hF g rfl)]
    exact hgg
theorem RowV.new (h : RowV w B e z v n xs) (hb : Below w.heap.size w w') : RowV w' B e z v n xs := h.kept (Chg.of_new hb) (fun _ _ hf => hf)
theorem RowV.alloc (h : RowV w B e z v n xs) (o : Obj) : RowV (w.alloc o) B e z v n xs := h.kept (Chg.alloc w o) (fun _ _ hf => hf)
theorem RowV.lower {B' : Nat} (h : RowV w B e z v n xs) (hB : B' ≤ B) : RowV w B' e z v n xs := by
  refine ⟨h.1, ?_⟩
  rcases h.2 with hn | ⟨g, cap, cur, rfl, hb, rest⟩
  · exact .inl hn
  · exact .inr ⟨g, cap, cur, rfl, Nat.le_trans hB hb, rest⟩
theorem RowV.lt (h : RowV w B e z v n xs) : ∀ g, v.ownBlock = some g → B ≤ g ∧ g < w.heap.size := World.ownsRow.lt h
/-- A block that was just laid. -/
theorem RowV.made (w : World) (e : TypeId) (z n : Nat) (cs : Array Value) (hB : B ≤ w.heap.size) (hl : cs.size = n * z) (hn : n ≤ maxLen) :
    RowV (w.alloc (.cells cs e)) B e z (.slice (some ⟨w.heap.size, 0, none⟩) n n) n cs.toList := by
  refine ⟨by simp [hl], .inr ⟨_, _, cs, rfl, hB, heap_alloc_new _ _, Nat.le_refl _, hn, hl, ?_⟩⟩
  exact List.take_of_length_le (by simp [hl])
theorem splice_get {α : Type} (L : List α) (o : Nat) (vs : List α) (h : o + vs.length ≤ L.length) (k : Nat) : (splice L o vs)[k]? = if o ≤ k ∧ k < o + vs.length then vs[k - o]? else L[k]? := by
  unfold splice
  rw [List.getElem?_append, List.length_take, show min o L.length = o by omega]
  by_cases h1 : k < o
  · rw [if_pos h1, if_neg (by omega), List.getElem?_take, if_pos h1]
  · rw [if_neg h1, List.getElem?_append]
    by_cases h2 : k - o < vs.length
    · rw [if_pos h2, if_pos (by omega)]
    · rw [if_neg h2, if_neg (by omega), List.getElem?_drop]
      congr 1; omega
theorem heap_setCells (b : Nat) : ∀ (vs : List Value) (o : Nat) (w : World) (cur : Array Value) (t : TypeId), w.heap[b]? = some (.cells cur t (0, 0)) → o + vs.length ≤ cur.size →
    (w.setCells b o vs).heap[b]? = some (.cells (splice cur.toList o vs).toArray t (0, 0)) := by
  intro vs
  induction vs with
  | nil => intro o w cur t hg _; simpa [World.setCells, splice] using hg
  | cons u vs ih =>
    intro o w cur t hg hl
    simp only [List.length_cons] at hl
    have h1 := heap_setCell_same w b o cur t u hg
    have h2 := ih (o + 1) (w.setCell ⟨b, o, none⟩ u) (cur.setIfInBounds o u) t h1 (by simp; omega)
    show ((w.setCell ⟨b, o, none⟩ u).setCells b (o + 1) vs).heap[b]? = _
    rw [h2]
    congr 3
    rw [Array.toList_setIfInBounds]
    apply List.ext_getElem?
    intro k
    rw [splice_get _ _ _ (by simp; omega), splice_get _ _ _ (by simp; omega), List.length_cons, List.getElem?_set]
    by_cases h3 : k = o
    · subst h3
      rw [if_neg (by omega), if_pos rfl, if_pos (by simp; omega), if_pos (by omega)]; simp
    · by_cases h4 : o + 1 ≤ k ∧ k < o + 1 + vs.length
      · rw [if_pos h4, if_pos (by omega), show k - o = (k - (o + 1)) + 1 by omega, List.getElem?_cons_succ]
      · rw [if_neg h4, if_neg (fun h => h3 h.symm), if_neg (by omega)]
theorem chg_setCells (b : Nat) : ∀ (vs : List Value) (o : Nat) (w : World), Chg (fun k => k = b) w (w.setCells b o vs) := by
  intro vs
  induction vs with
  | nil => intro o w; exact Chg.refl _ _
  | cons u vs ih => intro o w; exact (Chg.setCell w ⟨b, o, none⟩ u).trans (ih (o + 1) _) (fun _ _ h => h)
/-- Some cells are written over. -/
theorem RowV.set {g c : Nat} (h : RowV w B e z (.slice (some ⟨g, 0, none⟩) n c) n xs) (o : Nat) (vs : List Value) (ho : o + vs.length ≤ n * z) :
    RowV (w.setCells g o vs) B e z (.slice (some ⟨g, 0, none⟩) n c) n (splice xs o vs) := by
  rcases h.2 with ⟨h1, _⟩ | ⟨g', cap, cur, h1, hB, hg, h2, h3, h4, h5⟩
  · cases h1
  · injection h1 with h1 h6 h7
    injection h1 with h1
    injection h1 with h1
    subst h1 h7
    have hx : xs.length = n * z := h.1
    have hsz : n * z ≤ cur.size := by rw [h4]; exact Nat.mul_le_mul_right _ h2
    refine ⟨by rw [length_splice _ _ _ (by rw [hx]; exact ho), hx], .inr ⟨g, c, _, rfl, hB, heap_setCells g vs o w cur e hg (by omega), h2, h3, ?_, ?_⟩⟩
    · rw [List.size_toArray, length_splice _ _ _ (by simp; omega)]; simpa using h4
    · rw [← h5]
      apply List.ext_getElem?
      intro k
      rw [List.getElem?_take, splice_get _ _ _ (by simp; omega), splice_get _ _ _ (by rw [List.length_take]; simp; omega), List.getElem?_take]
      split <;> split <;> first | rfl | omega
end
theorem exec_load_mid {P : Program} {a : Act} {w : World} {N : Option Tmp} {tt : TypeId} (ty : TypeId) (x : Operand) (b o : Nat) (hx : a.eval x = .pointer (some ⟨b, o, none⟩)) (cs : List Value) (d : TypeDesc) (hc : w.rangeAt b o cs)
    (hu : P.underlying ty = some d) (hd : d.isRow = true) (hi : (P.info? ty).map (·.size) = some cs.length) : (execOp a.eval ⟨N, .load ty x, tt, "", #[], none⟩).run P w = .ok (.value (.agg cs.toArray)) w := by
  unfold execOp
  simp only [hx, Instr.loadAt, Instr.sureAddr, Sem.run_bind, Sem.run_pure, Result.andThen_ok, run_loadVar_mid w b o ty cs d hc hu hd hi]
theorem fold_splice : ∀ (vs : List Value) (k off : Nat) (cs : Array Value), off + k + vs.length ≤ cs.size →
    ((vs.zipIdx k).foldl (fun cs (x : Value × Nat) => cs.setIfInBounds (off + x.2) x.1) cs).toList = splice cs.toList (off + k) vs := by
  intro vs
  induction vs with
  | nil => intro k off cs _; simp [splice]
  | cons v vs ih =>
    intro k off cs h
    simp only [List.length_cons] at h
    rw [List.zipIdx_cons, List.foldl_cons, ih (k + 1) off _ (by simp; omega)]
    apply List.ext_getElem?
    intro j
    rw [Array.toList_setIfInBounds, splice_get _ _ _ (by simp; omega), splice_get _ _ _ (by simp; omega), List.length_cons, List.getElem?_set]
    by_cases h3 : j = off + k
    · subst h3
      rw [if_neg (by omega), if_pos rfl, if_pos (by simp; omega), if_pos (by omega)]; simp
    · by_cases h4 : off + (k + 1) ≤ j ∧ j < off + (k + 1) + vs.length
      · rw [if_pos h4, if_pos (by omega), show j - (off + k) = (j - (off + (k + 1))) + 1 by omega, List.getElem?_cons_succ]
      · rw [if_neg h4, if_neg (fun h => h3 h.symm), if_neg (by omega)]
theorem fill_step (place : Nat → Option (Nat × Nat)) (cells : Array Value) (i off size : Nat) (v : Value) (rest : List (Nat × Value)) (hp : place i = some (off, size)) (hv : v.cells.size = size) (hf : off + size ≤ cells.size) :
    Instr.fill place cells ((i, v) :: rest) = Instr.fill place (splice cells.toList off v.cells.toList).toArray rest := by
  rw [Instr.fill, hp]
  simp only
  rw [if_neg (by simp; omega)]
  congr 1
  apply Array.toList_inj.1
  rw [← Array.foldl_toList, Array.toList_zipIdx, fold_splice _ _ _ _ (by simp; omega)]
  rfl
theorem fill_all (cells c : Array Value) (s : Nat) (hc : c.size = s) (hs : cells.size = s) : Instr.fill (fun i => some (i * s, s)) cells [(0, .agg c)] = some c := by
  rw [fill_step _ _ 0 0 s _ _ (by simp) (by simpa [Value.cells] using hc) (by omega), Instr.fill]
  congr 1
  apply Array.toList_inj.1
  simp only [splice, Value.cells]
  rw [List.take_zero, List.nil_append, List.drop_eq_nil_of_le (by simp; omega)]
  simp
theorem exec_build {P : Program} {a : Act} {w : World} {N : Option Tmp} {tt : TypeId} (t : TypeId) (parts : Array (Nat × Operand)) (cells : Array Value) (h : P.built t (parts.map fun (i, x) => (i, a.eval x)).toList = some cells) :
    (execOp a.eval ⟨N, .build t parts, tt, "", #[], none⟩).run P w = .ok (.value (.agg cells)) w := by
  unfold execOp
  simp only [Sem.run_bind, run_build w t _ cells h, Result.andThen_ok]
  rfl
/-- A slice of one element that is a struct or an array. -/
theorem one_slice {P : Program} {o : Oper} {a : Act} {w : World} {K : Act → World → Prop} {Q : Exit → Act → World → Prop} (t e : TypeId) (x : Operand) (ho : o.op = .buildSlice t 1 #[(0, x)]) (c : Array Value) (s : Nat) (hx : a.eval x = .agg c) (hc : c.size = s)
    (hu : P.underlying t = some (.slice e)) (hi : (P.info? e).map (fun i => (i.zero.isSome, i.size)) = some (true, s)) (h0 : 0 < s) (h1 : s ≤ 16777216)
    (h : K (a.put o.dst (.slice (some ⟨w.heap.size, 0, none⟩) 1 1)) (w.alloc (.cells c e))) : o.wp P a w K Q := by
  obtain ⟨ie, hie, hzz⟩ := Option.map_eq_some_iff.1 hi
  simp only [Prod.mk.injEq] at hzz
  obtain ⟨z, hz⟩ := Option.isSome_iff_exists.1 hzz.1
  refine wp_buildSlice t e 1 _ ho c ie z hu hie hz (by rw [hzz.2]; omega) (by rw [hzz.2]; omega) ?_ h
  rw [hzz.2]
  simp only [List.map_toArray, List.map_cons, List.map_nil, hx]
  exact fill_all _ c s hc (by simp)
/-- append of elements of any size to an own row. -/
theorem apv_wp {P : Program} {B : Nat} {w : World} {e : TypeId} {z bytes : Nat} {v : Value} {n : Nat} {xs : List Value} {K : Act → World → Prop} {Q : Exit → Act → World → Prop} {o : Oper} {a : Act} {t : TypeId}
    (ht : P.underlying t = some (.slice e)) (hinfo : (P.info? e).map (fun i => (i.zero.map (·.cells.size), i.size, i.bytes)) = some (some z, z, bytes)) (hz0 : 0 < z) (hown : RowV w B e z v n xs) (hbase : B ≤ w.heap.size)
    (ad : Addr) (m c : Nat) (news : List Value) (hl : news.length = m * z) (hnews : ∀ j u, news[j]? = some u → w.cell? (ad.add j) = some u) (h1 : ∀ u ∈ news, u.oneCell' = true) (h63 : n + m ≤ maxLen) (hbytes : (n + m) * bytes ≤ 140737488355328)
    (s x : Operand) (ho : o.op = .call { callee := .builtin .append, args := #[s, x], argTypes := #[t, t] }) (hs : a.eval s = v) (hx : a.eval x = .slice (some ad) m c)
    (h : ∀ v' w', RowV w' B e z v' (n + m) (xs ++ news) → w.grownBy w' v.ownBlock → (v'.ownBlock = v.ownBlock ∨ v'.ownBlock = some w.heap.size) → K (a.put o.dst v') w') : Oper.wp P o a w K Q := by
  obtain ⟨i, hi, hzz⟩ := Option.map_eq_some_iff.1 hinfo
  simp only [Prod.mk.injEq] at hzz
  obtain ⟨hz1, hsz, hby⟩ := hzz
  obtain ⟨z0, hz, hzc⟩ := Option.map_eq_some_iff.1 hz1
  obtain ⟨v', w', hr, h2, h3, _, h5⟩ := run_append_own_at (P := P) w B t o.type e i z0 z bytes ht hi hz hsz hby hzc hz0 v n xs hown ad m c news hl hnews h1 h63 hbytes hbase
  unfold Oper.wp execOp
  simp only [ho, resolve, invoke, builtin, Sem.run_bind, Sem.run_pure, Result.andThen_ok, List.map_toArray, List.map_cons, List.map_nil, hs, hx, hr]
  exact h v' w' h2 h3 h5
theorem exec_one_slice {P : Program} {a : Act} {w : World} {N : Option Tmp} {tt : TypeId} (t e : TypeId) (x : Operand) (c : Array Value) (s : Nat) (hx : a.eval x = .agg c) (hc : c.size = s)
    (hu : P.underlying t = some (.slice e)) (hi : (P.info? e).map (fun i => (i.zero.isSome, i.size)) = some (true, s)) (h0 : 0 < s) (h1 : s ≤ 16777216) :
    (execOp a.eval ⟨N, .buildSlice t 1 #[(0, x)], tt, "", #[], none⟩).run P w = .ok (.value (.slice (some ⟨w.heap.size, 0, none⟩) 1 1)) (w.alloc (.cells c e)) := by
  obtain ⟨ie, hie, hzz⟩ := Option.map_eq_some_iff.1 hi
  simp only [Prod.mk.injEq] at hzz
  obtain ⟨z, hz⟩ := Option.isSome_iff_exists.1 hzz.1
  have hf : Instr.fill (fun i => some (i * ie.size, ie.size)) ((Array.range (1 * ie.size)).map (z.cells[· % z.cells.size]!)) (#[(0, x)].map fun (i, x) => (i, a.eval x)).toList = some c := by
    rw [hzz.2]
    simp only [List.map_toArray, List.map_cons, List.map_nil, hx]
    exact fill_all _ c s hc (by simp)
  unfold execOp
  simp only [Sem.run_bind, run_buildSlice w t e 1 _ c ie z hu hie hz (by rw [hzz.2]; omega) (by rw [hzz.2]; omega) hf, Result.andThen_ok]
  rfl
/-- A load of one cell. -/
theorem exec_load_cell {P : Program} {a : Act} {w : World} {N : Option Tmp} {tt : TypeId} (ty : TypeId) (x : Operand) (ad : Addr) (v : Value) (hx : a.eval x = .pointer (some ad)) (hc : w.cell? ad = some v) (hag : ∀ W, (isAgg ty).run P W = .ok false W) :
    (execOp a.eval ⟨N, .load ty x, tt, "", #[], none⟩).run P w = .ok (.value v) w := by
  unfold execOp
  simp [hx, Instr.loadAt, Instr.sureAddr, loadVar, Sem.run_bind, Sem.run_pure, Result.andThen_ok, hag, run_load, hc]
theorem run_copy_v {P : Program} (w : World) (dT sT ty elem : TypeId) (z b o dLen dCap : Nat) (a : Addr) (sLen sCap n : Nat) (cs : List Value) (hu : P.underlying dT = some (.slice elem)) (hs : (P.info? elem).map (·.size) = some z) (hn : n = Nat.min sLen dLen) (hl : cs.length = n * z)
    (hsrc : ∀ j v, cs[j]? = some v → w.cell? (a.add j) = some v) (hth : w.there b o cs.length) (h1 : ∀ v ∈ cs, v.oneCell' = true) :
    (Builtin.copy_ #[dT, sT] ty #[.slice (some ⟨b, o, none⟩) dLen dCap, .slice (some a) sLen sCap]).run P w = .ok (goInt n) (w.setCells b o cs) := by
  have hld := run_loadCells_list (P := P) w a cs hsrc
  have hst := run_storeCells_cells (P := P) b o cs 0 w (fun j hj => by simpa using (hth j hj).1) (fun j hj => by simpa using (hth j hj).2) h1
  rw [hl] at hld
  cases hq : P.info? elem with
  | none => simp [hq] at hs
  | some i =>
    have hi : i.size = z := by simpa [hq] using hs
    simp [Builtin.copy_, run_underlying hu, Builtin.lenOf, Builtin.firstCells, sizeOf, typeInfo, hq, hi, ← hn, hld, hst]
theorem wp_copy_v {P : Program} {o : Oper} {a : Act} {w : World} {K : Act → World → Prop} {Q : Exit → Act → World → Prop} (d s : Operand) (dT sT elem : TypeId) (z g off dLen dCap : Nat) (ad : Addr) (sLen sCap n : Nat) (cs : List Value)
    (ho : o.op = .call { callee := .builtin .copy, args := #[d, s], argTypes := #[dT, sT] }) (hd : a.eval d = .slice (some ⟨g, off, none⟩) dLen dCap) (hss : a.eval s = .slice (some ad) sLen sCap)
    (hu : P.underlying dT = some (.slice elem)) (hs : (P.info? elem).map (·.size) = some z) (hn : n = Nat.min sLen dLen) (hl : cs.length = n * z)
    (hsrc : ∀ j v, cs[j]? = some v → w.cell? (ad.add j) = some v) (hth : w.there g off cs.length) (h1 : ∀ v ∈ cs, v.oneCell' = true) (hK : K (a.put o.dst (goInt n)) (w.setCells g off cs)) : Oper.wp P o a w K Q := by
  have hr := run_copy_v (P := P) w dT sT o.type elem z g off dLen dCap ad sLen sCap n cs hu hs hn hl hsrc hth h1
  unfold Oper.wp
  simp [execOp, ho, resolve, invoke, builtin, hd, hss, hr, Result.andThen]
  exact hK
end Go.Proofs.YticnjkdaccacaaaGreatDoor.OwnV
end
section
/- A disk: what it is in memory, and its simple calls. -/
namespace Go.Proofs.YticnjkdaccacaaaGreatDoor.Disk
open Go.RowKit Base Own OwnV Bytes

def Pc (p : List Int) : Prop := p.length = 64 ∧ Bts p
def pcs (l : List (List Int)) : List Value := l.flatten.map (Value.int .u8)
def wcs (l : List (Int × List Int)) : List Value := l.flatMap fun x => .int .i64 x.1 :: x.2.map (Value.int .u8)
structure Dk where
  sure : List (List Int)
  seen : List (List Int)
  waits : List (Int × List Int)
structure Dk.ok (D : Dk) : Prop where
  same : D.sure.length = D.seen.length
  pos : 1 ≤ D.seen.length
  most : D.seen.length ≤ 4096
  sure : ∀ p ∈ D.sure, Pc p
  seen : ∀ p ∈ D.seen, Pc p
  waits : ∀ x ∈ D.waits, Pc x.2 ∧ 0 ≤ x.1 ∧ x.1 < D.seen.length
/-- The blocks of a disk. -/
structure Lies (w : World) (B d : Nat) (S E W : Value) (D : Dk) : Prop where
  cells : w.heap[d]? = some (.cells #[S, E, W] 142 (0, 0))
  base : B ≤ d
  sure : RowV w B 148 64 S D.sure.length (pcs D.sure)
  seen : RowV w B 148 64 E D.seen.length (pcs D.seen)
  waits : RowV w B 150 65 W D.waits.length (wcs D.waits)
  s0 : S.ownBlock ≠ some d
  e0 : E.ownBlock ≠ some d
  w0 : W.ownBlock ≠ some d
  se : S.ownBlock ≠ E.ownBlock
  sw : Sep W S
  ew : Sep W E
  ok : D.ok
def blocks (d : Nat) (S E W : Value) (k : Nat) : Prop := k = d ∨ some k = S.ownBlock ∨ some k = E.ownBlock ∨ some k = W.ownBlock
def Disk (w : World) (B d : Nat) (F : Nat → Prop) (D : Dk) : Prop := ∃ S E W, Lies w B d S E W D ∧ ∀ k, F k ↔ blocks d S E W k
section
variable {w w' : World} {B d : Nat} {S E W : Value} {D : Dk} {F G : Nat → Prop}
theorem Lies.kept (h : Lies w B d S E W D) (hc : Chg G w w') (hG : ∀ k, blocks d S E W k → ¬ G k) : Lies w' B d S E W D :=
  { h with
    cells := by rw [hc.block d (Array.getElem?_eq_some_iff.1 h.cells).1 (hG d (.inl rfl))]; exact h.cells
    sure := h.sure.kept hc fun g hg => hG g (.inr (.inl hg.symm))
    seen := h.seen.kept hc fun g hg => hG g (.inr (.inr (.inl hg.symm)))
    waits := h.waits.kept hc fun g hg => hG g (.inr (.inr (.inr hg.symm))) }
theorem Disk.kept (h : Disk w B d F D) (hc : Chg G w w') (hG : ∀ k, F k → ¬ G k) : Disk w' B d F D := by
  obtain ⟨S, E, W, h1, h2⟩ := h
  exact ⟨S, E, W, h1.kept hc fun k hk => hG k ((h2 k).2 hk), h2⟩
theorem Disk.new (h : Disk w B d F D) (hb : Below w.heap.size w w') : Disk w' B d F D := h.kept (Chg.of_new hb) fun _ _ h => h
theorem Disk.lt (h : Disk w B d F D) : ∀ k, F k → B ≤ k ∧ k < w.heap.size := by
  obtain ⟨S, E, W, h1, h2⟩ := h
  intro k hk
  rcases (h2 k).1 hk with rfl | e | e | e
  · exact ⟨h1.base, (Array.getElem?_eq_some_iff.1 h1.cells).1⟩
  · exact h1.sure.lt k e.symm
  · exact h1.seen.lt k e.symm
  · exact h1.waits.lt k e.symm
theorem Disk.ok (h : Disk w B d F D) : D.ok := by obtain ⟨S, E, W, h1, _⟩ := h; exact h1.ok
theorem Disk.lower {B' : Nat} (h : Disk w B d F D) (hB : B' ≤ B) : Disk w B' d F D := by
  obtain ⟨S, E, W, h1, h2⟩ := h
  exact ⟨S, E, W, { h1 with base := Nat.le_trans hB h1.base, sure := h1.sure.lower hB, seen := h1.seen.lower hB, waits := h1.waits.lower hB }, h2⟩
theorem Lies.cell (h : Lies w B d S E W D) : w.cell? ⟨d, 0, none⟩ = some S ∧ w.cell? ⟨d, 1, none⟩ = some E ∧ w.cell? ⟨d, 2, none⟩ = some W := by
  refine ⟨?_, ?_, ?_⟩ <;> (rw [cell_of_row _ _ _ _ _ _ h.cells]; rfl)
end
theorem size {w : World} {B d : Nat} {F : Nat → Prop} {D : Dk} (h : Disk w B d F D) : Calls Tryz.prog 79 #[.pointer (some ⟨d, 0, none⟩)] w fun e w' => e = .returned (.int .i64 D.seen.length) ∧ w' = w := by
  obtain ⟨S, E, W, h1, _⟩ := h
  obtain ⟨A, c, rfl, -, -, -, -⟩ := h1.sure.slice
  have hc := h1.cell.1
  have he := h1.ok.same
  clear h1
  go_enter Tryz.func79, Tryz.ntmps79
  go_wp2
  go_ret
  exact ⟨rfl, rfl⟩
theorem waits {w : World} {B d : Nat} {F : Nat → Prop} {D : Dk} (h : Disk w B d F D) : Calls Tryz.prog 23 #[.pointer (some ⟨d, 0, none⟩)] w fun e w' => e = .returned (.int .i64 D.waits.length) ∧ w' = w := by
  obtain ⟨S, E, W, h1, _⟩ := h
  obtain ⟨A, c, rfl, -, -, -, -⟩ := h1.waits.slice
  have hc := h1.cell.2.2
  clear h1
  go_enter Tryz.func23, Tryz.ntmps23
  go_wp2
  go_ret
  exact ⟨rfl, rfl⟩
def mayOk (n : Nat) (x : Int) : Int := if 0 ≤ x ∧ x < n then 0 else 1
theorem may {w : World} {B d : Nat} {F : Nat → Prop} {D : Dk} (h : Disk w B d F D) (x : Int) : Calls Tryz.prog 78 #[.pointer (some ⟨d, 0, none⟩), .int .i64 x] w fun e w' => e = .returned (.int .i64 (mayOk D.seen.length x)) ∧ w' = w := by
  have H := Lib.hid h
  have hp := h.ok.pos
  clear h
  obtain ⟨n, hn⟩ : ∃ n, n = D.seen.length := ⟨_, rfl⟩
  have hsz : ∀ W, W = w → Calls Tryz.prog 79 #[.pointer (some ⟨d, 0, none⟩)] W fun e w' => e = .returned (.int .i64 n) ∧ w' = w := fun W e => by rw [e, hn]; exact size H.out
  rw [← hn] at hp ⊢
  have hz : ((n : Int) == 0) = false := by rw [beq_eq_false_iff_ne]; omega
  have HS := Lib.hid hsz
  clear hn hsz hp
  by_cases h0 : x < 0
  · have : mayOk n x = 1 := by unfold mayOk; rw [if_neg (by omega)]
    rw [this]
    clear this
    go_enter Tryz.func78, Tryz.ntmps78
    go_wp2_with fail
    refine (HS.out _ rfl).mono ?_
    rintro e w' ⟨rfl, rfl⟩
    go_wp2
    go_ret
    exact ⟨rfl, rfl⟩
  · by_cases h1 : x < n
    · have : mayOk n x = 0 := by unfold mayOk; rw [if_pos (by omega)]
      rw [this]
      clear this
      go_enter Tryz.func78, Tryz.ntmps78
      go_wp2_with fail
      refine (HS.out _ rfl).mono ?_
      rintro e w' ⟨rfl, rfl⟩
      go_wp2_with fail
      refine (HS.out _ rfl).mono ?_
      rintro e w' ⟨rfl, rfl⟩
      go_wp2
      go_ret
      exact ⟨rfl, rfl⟩
    · have : mayOk n x = 1 := by unfold mayOk; rw [if_neg (by omega)]
      rw [this]
      clear this
      go_enter Tryz.func78, Tryz.ntmps78
      go_wp2_with fail
      refine (HS.out _ rfl).mono ?_
      rintro e w' ⟨rfl, rfl⟩
      go_wp2_with fail
      refine (HS.out _ rfl).mono ?_
      rintro e w' ⟨rfl, rfl⟩
      go_wp2
      go_ret
      exact ⟨rfl, rfl⟩
theorem pcs_length {l : List (List Int)} (h : ∀ p ∈ l, Pc p) : (pcs l).length = l.length * 64 := by
  unfold pcs
  rw [List.length_map]
  induction l with
  | nil => rfl
  | cons p l ih =>
    rw [List.flatten_cons, List.length_append, ih (fun q hq => h q (List.mem_cons_of_mem _ hq)), (h p (List.mem_cons_self)).1, List.length_cons]; omega
theorem flat_get : ∀ (l : List (List Int)) (i j : Nat), (∀ p ∈ l, p.length = 64) → i < l.length → j < 64 → l.flatten[i * 64 + j]? = (l.getD i [])[j]? := by
  intro l
  induction l with
  | nil => intro i j _ h; simp at h
  | cons p l ih =>
    intro i j hp hi hj
    have h64 := hp p (List.mem_cons_self)
    rw [List.flatten_cons, List.getElem?_append, h64]
    cases i with
    | zero => rw [if_pos (by omega)]; simp
    | succ i =>
      rw [if_neg (by omega), show (i + 1) * 64 + j - 64 = i * 64 + j by omega, ih i j (fun q hq => hp q (List.mem_cons_of_mem _ hq)) (by simpa using hi) hj]; rfl
/-- One piece of a row of them reads as its bytes. -/
theorem piece_rd {w : World} {g : Nat} {l : List (List Int)} (hg : g < w.heap.size) (h : w.rangeAt g 0 (pcs l)) (hp : ∀ p ∈ l, Pc p) {i : Nat} (hi : i < l.length) : Rd .u8 w (some ⟨g, i * 64, none⟩) (l.getD i []) := by
  intro _
  have h64 : (l.getD i []).length = 64 := by rw [List.getD_eq_getElem?_getD, List.getElem?_eq_getElem hi]; exact (hp _ (List.getElem_mem hi)).1
  refine ⟨_, rfl, hg, fun j hj => ?_⟩
  rw [h64] at hj
  have h1 := flat_get l i j (fun p hp' => (hp p hp').1) hi hj
  have h2 := h (i * 64 + j) (.int .u8 ((l.getD i []).getD j 0)) (by
    unfold pcs
    rw [List.getElem?_map, h1, List.getElem?_eq_getElem (by omega), List.getD_eq_getElem?_getD (l := l.getD i []), List.getElem?_eq_getElem (by omega)]; rfl)
  rw [Nat.zero_add] at h2
  have e : (⟨g, i * 64, none⟩ : Addr).add j = ⟨g, i * 64 + j, none⟩ := Addr.add_mid _ _ _
  rw [e]; exact h2
theorem read {w : World} {B d : Nat} {F : Nat → Prop} {D : Dk} (h : Disk w B d F D) (x : Int) :
    Calls Tryz.prog 16 #[.pointer (some ⟨d, 0, none⟩), .int .i64 x] w fun e w' => (∃ v, e = .returned (.tuple #[v, .int .i64 (mayOk D.seen.length x)]) ∧ (mayOk D.seen.length x = 1 → v = .slice none 0 0) ∧ (mayOk D.seen.length x = 0 → OwnI .u8 w' w.heap.size 5 v (D.seen.getD x.toNat []))) ∧ Below w.heap.size w w' := by
  have H := Lib.hid h
  clear h
  by_cases hx : 0 ≤ x ∧ x < D.seen.length
  · have hm : mayOk D.seen.length x = 0 := by unfold mayOk; rw [if_pos hx]
    rw [hm]
    obtain ⟨S, E, W, h1, h2⟩ := H.out
    obtain ⟨A, c, rfl, -, -, hA, hA2⟩ := h1.seen.slice
    cases A with
    | none => have := hA rfl; omega
    | some ad =>
      obtain ⟨g, rfl, hB, hg, hr, -⟩ := hA2 _ rfl
      obtain ⟨i, rfl⟩ : ∃ i : Nat, x = i := ⟨x.toNat, by omega⟩
      have hi : i < D.seen.length := by omega
      have hrd := piece_rd hg hr h1.ok.seen hi
      have h64 : (D.seen.getD i []).length = 64 := by rw [List.getD_eq_getElem?_getD, List.getElem?_eq_getElem hi]; exact (h1.ok.seen _ (List.getElem_mem hi)).1
      have HR := Lib.hid (And.intro hrd h64)
      have hc1 := h1.cell.2.1
      have hmost := h1.ok.most
      clear hrd h64 hr hA hA2 h1 h2
      go_enter Tryz.func16, Tryz.ntmps16
      go_wp2_with fail
      refine (may H.out (i : Int)).mono ?_
      rw [hm]
      clear hm
      rintro e w' ⟨rfl, h⟩
      subst h
      go_wp2_with fail
      refine (clone (some ⟨g, i * 64, none⟩) 64 64 (D.seen.getD i []) w' HR.out.2 (by decide) (.inl (by simp)) HR.out.1).mono ?_
      rintro e w2 ⟨v, rfl, o2, b2⟩
      have H2 := Lib.hid (And.intro o2 b2)
      clear o2 b2 hc1
      go_wp2
      go_ret2
      exact ⟨⟨_, rfl, fun h => absurd h (by decide), fun _ => H2.out.1⟩, H2.out.2⟩
  · have hm : mayOk D.seen.length x = 1 := by unfold mayOk; rw [if_neg hx]
    rw [hm]
    clear hx
    go_enter Tryz.func16, Tryz.ntmps16
    go_wp2_with fail
    refine (may H.out x).mono ?_
    rw [hm]
    clear hm
    rintro e w' ⟨rfl, h⟩
    subst h
    go_wp2
    go_ret2
    exact ⟨⟨_, rfl, fun _ => rfl, fun h => by cases h⟩, Below.refl _ _⟩
/-- Bytes with noughts behind them. -/
def pad (b : List Int) : List Int := b ++ List.replicate (64 - b.length) 0
theorem pad_pc {b : List Int} (h : b.length ≤ 64) (hb : Bts b) : Pc (pad b) := ⟨by unfold pad; simp; omega, hb.append (Bts.zeros _)⟩
theorem pad_splice {b : List Int} (h : b.length ≤ 64) : splice (List.replicate 64 0) 0 b = pad b := by
  unfold splice pad
  rw [List.take_zero, List.nil_append, Nat.zero_add, List.drop_replicate]
def Dk.write (D : Dk) (x : Int) (p : List Int) : Dk := { D with seen := D.seen.set x.toNat p, waits := D.waits ++ [(x, p)] }
theorem Dk.ok.write {D : Dk} (h : D.ok) {x : Int} {p : List Int} (hx : 0 ≤ x ∧ x < D.seen.length) (hp : Pc p) : (D.write x p).ok where
  same := by simp [Dk.write, h.same]
  pos := by simp [Dk.write]; exact h.pos
  most := by simp [Dk.write]; exact h.most
  sure := h.sure
  seen := fun q hq => by
    rcases List.mem_or_eq_of_mem_set hq with h1 | h1
    · exact h.seen q h1
    · subst h1; exact hp
  waits := fun y hy => by
    rcases List.mem_append.1 hy with h1 | h1
    · have := h.waits y h1
      simp [Dk.write]; exact this
    · simp at h1; subst h1; simp [Dk.write]; exact ⟨hp, hx⟩
theorem pcs_set {l : List (List Int)} (h : ∀ p ∈ l, Pc p) {i : Nat} (hi : i < l.length) {q : List Int} (hq : Pc q) : splice (pcs l) (i * 64) (q.map (Value.int .u8)) = pcs (l.set i q) := by
  have hl := pcs_length h
  apply List.ext_getElem?
  intro k
  rw [splice_get _ _ _ (by rw [hl, List.length_map, hq.1]; omega), List.length_map, hq.1]
  have h2 : ∀ p ∈ l.set i q, Pc p := fun p hp => by
    rcases List.mem_or_eq_of_mem_set hp with h1 | h1
    · exact h p h1
    · subst h1; exact hq
  by_cases hk : k < l.length * 64
  · obtain ⟨a, b, rfl, hb⟩ : ∃ a b, k = a * 64 + b ∧ b < 64 := ⟨k / 64, k % 64, by omega, by omega⟩
    unfold pcs
    rw [List.getElem?_map, List.getElem?_map, List.getElem?_map, flat_get _ _ _ (fun p hp => (h2 p hp).1) (by rw [List.length_set]; omega) hb, flat_get _ _ _ (fun p hp => (h p hp).1) (by omega) hb]
    by_cases e : a = i
    · subst e
      rw [if_pos (by omega), show a * 64 + b - a * 64 = b by omega, List.getD_eq_getElem?_getD, List.getElem?_set_self hi]; rfl
    · rw [if_neg (by omega), List.getD_eq_getElem?_getD, List.getD_eq_getElem?_getD, List.getElem?_set_ne (Ne.symm e)]
  · rw [if_neg (by omega), List.getElem?_eq_none (by omega), List.getElem?_eq_none (by rw [pcs_length h2, List.length_set]; omega)]
theorem Dk.ok.set {D : Dk} (h : D.ok) {i : Nat} {p : List Int} (hp : Pc p) : ({ D with seen := D.seen.set i p } : Dk).ok where
  same := by simp [h.same]
  pos := by simp; exact h.pos
  most := by simp; exact h.most
  sure := h.sure
  seen := fun q hq => by
    rcases List.mem_or_eq_of_mem_set hq with h1 | h1
    · exact h.seen q h1
    · subst h1; exact hp
  waits := fun y hy => by simpa using h.waits y hy
/-- One piece of what is seen is written over. -/
theorem Lies.set {w : World} {B d g n c : Nat} {S W : Value} {D : Dk} (h : Lies w B d S (.slice (some ⟨g, 0, none⟩) n c) W D) {i : Nat} {p : List Int} (hi : i < D.seen.length) (hp : Pc p) :
    Lies (w.setCells g (i * 64) (p.map (Value.int .u8))) B d S (.slice (some ⟨g, 0, none⟩) n c) W { D with seen := D.seen.set i p } := by
  have hc := chg_setCells g (p.map (Value.int .u8)) (i * 64) w
  have hn : n = D.seen.length := by
    obtain ⟨A, c', e, -⟩ := h.seen.slice
    injection e
  have h1 := h.seen
  rw [hn] at h1
  have h2 := h1.set (i * 64) (p.map (Value.int .u8)) (by rw [List.length_map, hp.1]; omega)
  rw [pcs_set h.ok.seen hi hp] at h2
  exact { h with
    cells := by rw [hc.block d (Array.getElem?_eq_some_iff.1 h.cells).1 (fun e => h.e0 (by rw [e]; rfl))]; exact h.cells
    sure := h.sure.kept hc fun k hk e => h.se (by rw [hk, e]; rfl)
    seen := by show RowV _ _ _ _ _ (D.seen.set i p).length _; rw [List.length_set, hn]; exact h2
    waits := h.waits.kept hc fun k hk e => h.ew k hk (by rw [e]; rfl)
    ok := h.ok.set hp }
theorem wcs_append (l : List (Int × List Int)) (x : Int) (p : List Int) : wcs (l ++ [(x, p)]) = wcs l ++ (.int .i64 x :: p.map (Value.int .u8)) := by simp [wcs]
def writeCode (n : Nat) (x : Int) (b : List Int) : Int := if mayOk n x = 1 ∨ 64 < b.length then 1 else 0

theorem built_fill (L : List (Nat × Value)) : Tryz.prog.built 150 L = Instr.fill (([(0, 1), (1, 64)] : List (Nat × Nat)).toArray[·]?) (.int .i64 0 :: List.replicate 64 (.int .u8 0)).toArray L := by kernel_rfl
theorem built_write (x : Int) (Pv : List Value) (h : Pv.length = 64) : Tryz.prog.built 150 [(0, .int .i64 x), (1, .agg Pv.toArray)] = some (Value.int .i64 x :: Pv).toArray := by
  rw [built_fill, fill_step _ _ 0 0 1 _ _ rfl rfl (by simp), fill_step _ _ 1 1 64 _ _ rfl (by simpa [Value.cells] using h) (by simp [splice, Value.cells]), Instr.fill]
  congr 1
  simp [splice, Value.cells]
  omega
end Go.Proofs.YticnjkdaccacaaaGreatDoor.Disk
end
