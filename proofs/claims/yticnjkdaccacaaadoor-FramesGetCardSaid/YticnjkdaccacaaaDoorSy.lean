/- Steps of a walk, by one lemma each: lists of operations, code, calls, loops. -/
import Derived.Test.YticnjkdaccacaaaDoorSx
import Derived.Scope
namespace Go.Proofs.YticnjkdaccacaaaDoor.Sx
open Go Go.RowKit Base Own

theorem blt_lt {d N : Nat} (h : Nat.blt d N = true) : d < N := Nat.le_of_ble_eq_true h
/-! ### 3. Lists of operations in their order -/
section
variable {P : Program} {T : Orc} {ops : Array Oper} {Q : Exit → Act → World → Prop} {Df : List Deferred} {N : Nat} {a : Act} {w : World} {L L' : Env}
/-- Is an operation wanted? -/
def wantL (ops : Array Oper) (L : Env) (o : Oper) : Option Bool :=
  match o.guard with
  | none => some true
  | some (j, want) => match (ops[j]?).bind (·.dst) with
    | some t => match L.lookup t with
      | some (.bool b) => some (b == want)
      | some (.tuple _) => some false
      | _ => none
    | none => none
theorem wantL_run (fr : FrD Df N a L) {o : Oper} {b : Bool} (h : wantL ops L o = some b) : Region.wanted o (yielded ops a.tmps) = b := by
  unfold wantL at h
  split at h
  · rename_i hg
    injection h with h; subst h
    simp [Region.wanted, hg]
  · rename_i j want hg
    split at h
    · rename_i t ht
      split at h
      · rename_i c hc
        injection h with h; subst h
        have := (fr.get _ _ hc).1
        simp only [Region.wanted, hg, yielded, ht, Option.bind_some]
        rw [this]; simp
      · rename_i c hc
        injection h with h; subst h
        have := (fr.get _ _ hc).1
        simp only [Region.wanted, hg, yielded, ht, Option.bind_some]
        rw [this]; rfl
      · cases h
    · cases h
def stepL (T : Orc) (N : Nat) (ops : Array Oper) (o : Oper) (L : Env) : Option Env :=
  match o.dst with
  | none => none
  | some d => if d < N then
      match wantL ops L o with
      | some true => match pureOp T L o.op with
        | some v => some ((d, v) :: L)
        | none => none
      | some false => some ((d, undef) :: L)
      | none => none
    else none
def runL (T : Orc) (N : Nat) (ops : Array Oper) : Nat → List Oper → Env → Option (List Oper × Env)
  | 0, l, L => some (l, L)
  | _ + 1, [], _ => none
  | n + 1, o :: r, L => match stepL T N ops o L with
    | some L' => runL T N ops n r L'
    | none => none
theorem wl_op {o : Oper} {rest : List Oper} (fr : FrD Df N a L) (hw : wantL ops L o = some true) (h : ∀ K : Act → World → Prop, (∀ a w, wpList P ops Q rest a w → K a w) → o.wp P a w K Q) : wpList P ops Q (o :: rest) a w :=
  wpList_step fun K hK => by rw [wantL_run fr hw, if_pos rfl]; exact h K hK
theorem wl_no {o : Oper} {rest : List Oper} (fr : FrD Df N a L) (hw : wantL ops L o = some false) (h : wpList P ops Q rest (a.put o.dst undef) w) : wpList P ops Q (o :: rest) a w :=
  wpList_step fun K hK => by rw [wantL_run fr hw, if_neg (by decide)]; exact hK _ _ h
theorem wl_run (hT : T.Ok P) : ∀ (n : Nat) {l rest : List Oper} {L L' : Env} {a : Act}, runL T N ops n l L = some (rest, L') → FrD Df N a L → (∀ a', FrD Df N a' L' → wpList P ops Q rest a' w) → wpList P ops Q l a w := by
  intro n
  induction n with
  | zero => intro l rest L L' a hr fr h; simp only [runL, Option.some.injEq, Prod.mk.injEq] at hr; obtain ⟨rfl, rfl⟩ := hr; exact h a fr
  | succ n ih =>
    intro l rest L L' a hr fr h
    cases l with
    | nil => simp [runL] at hr
    | cons o r =>
      simp only [runL] at hr
      split at hr
      · rename_i L1 h1
        unfold stepL at h1
        split at h1
        · cases h1
        · rename_i d hd
          split at h1
          · rename_i hlt
            split at h1
            · rename_i hw
              split at h1
              · rename_i v hv
                injection h1 with h1; subst h1
                obtain ⟨e1, e2⟩ := pure_run hT fr hv w
                refine wl_op fr hw fun K hK => ?_
                refine wp_value e1 (hK _ _ ?_)
                rw [hd]
                exact ih hr (fr.put hlt e2) h
              · cases h1
            · rename_i hw
              injection h1 with h1; subst h1
              refine wl_no fr hw ?_
              rw [hd]
              exact ih hr (fr.put hlt rfl) h
            · cases h1
          · cases h1
      · cases hr
theorem wl_val {o : Oper} {rest : List Oper} {d : Nat} {v : Value} {w' : World} (fr : FrD Df N a L) (hw : wantL ops L o = some true) (hd : o.dst = some d) (hlt : Nat.blt d N = true) (hrun : (execOp a.eval o).run P w = .ok (.value v) w') (hv : vok v = true)
    (h : ∀ a', FrD Df N a' ((d, v) :: L) → wpList P ops Q rest a' w') : wpList P ops Q (o :: rest) a w :=
  wl_op fr hw fun K hK => wp_value hrun (hK _ _ (by rw [hd]; exact h _ (fr.put (blt_lt hlt) hv)))
theorem wp_skipv {o : Oper} {K : Act → World → Prop} {Q' : Exit → Act → World → Prop} {w' : World} (h : (execOp a.eval o).run P w = .ok .skip w') (hK : K (a.put o.dst undef) w') : Oper.wp P o a w K Q' := by
  unfold Oper.wp
  rw [h, Oper.upon_skip]
  exact hK
theorem wl_skip {o : Oper} {rest : List Oper} {w' : World} (fr : FrD Df N a L) (hw : wantL ops L o = some true) (hd : o.dst = none) (hrun : (execOp a.eval o).run P w = .ok .skip w') (h : wpList P ops Q rest a w') : wpList P ops Q (o :: rest) a w :=
  wl_op fr hw fun K hK => wp_skipv hrun (hK _ _ (by rw [hd]; exact h))
/-- What a call asks for. -/
def callL (L : Env) (o : Oper) : Option (FuncId × List Value) :=
  match o.op with
  | .call c => match c.callee with
    | .value (.func f) => (evs L c.args.toList).map fun xs => (f, xs)
    | _ => none
  | _ => none
def Enters (P : Program) (f : FuncId) : Prop := ∀ xs W, (callFunc f xs).run P W = .ok (.enter f xs) W
theorem call_run (fr : FrD Df N a L) {o : Oper} {f : FuncId} {xs : List Value} (h : callL L o = some (f, xs)) (hin : Enters P f) (w : World) : (execOp a.eval o).run P w = .ok (.enter f xs.toArray) w := by
  unfold callL at h
  split at h
  · rename_i c hc
    split at h
    · rename_i g hg
      simp only [Option.map_eq_some_iff, Prod.mk.injEq] at h
      obtain ⟨ys, h1, rfl, rfl⟩ := h
      have e : c.args.map a.eval = ys.toArray := by
        apply Array.toList_inj.1
        rw [Array.toList_map, (evs_run fr h1).1]
      unfold execOp
      simp only [hc, resolve, hg, Act.eval, Deferred.ofValue]
      rw [Sem.run_bind, Sem.run_pure, Result.andThen_ok]
      simp only [invoke]
      have e3 := hin ys.toArray w
      rw [← e] at e3 ⊢
      simpa using e3
    · cases h
  · cases h
theorem wp_call {o : Oper} {f : FuncId} {args : Array Value} {K : Act → World → Prop} {Q' : Exit → Act → World → Prop} (hrun : (execOp a.eval o).run P w = .ok (.enter f args) w) (h : Calls P f args w fun e w' => ∃ v, e = .returned v ∧ K (a.put o.dst v) w') : Oper.wp P o a w K Q' := by
  unfold Oper.wp
  rw [hrun, Oper.upon_enter]
  refine h.mono fun e w'' hh => ?_
  obtain ⟨v, rfl, hk⟩ := hh
  exact hk
theorem wl_call {o : Oper} {rest : List Oper} {d : Nat} {f : FuncId} {xs : List Value} {R : Ending → World → Prop} (fr : FrD Df N a L) (hw : wantL ops L o = some true) (hd : o.dst = some d) (hlt : Nat.blt d N = true) (hc : callL L o = some (f, xs)) (hin : Enters P f) (hcon : Calls P f xs.toArray w R)
    (h : ∀ e w', R e w' → ∃ v, e = .returned v ∧ vok v = true ∧ ∀ a', FrD Df N a' ((d, v) :: L) → wpList P ops Q rest a' w') : wpList P ops Q (o :: rest) a w :=
  wl_op fr hw fun K hK => wp_call (call_run fr hc hin w) (hcon.mono fun e w' hR => by
    obtain ⟨v, he, hv, hk⟩ := h e w' hR
    exact ⟨v, he, hK _ _ (by rw [hd]; exact hk _ (fr.put (blt_lt hlt) hv))⟩)
theorem wl_call0 {o : Oper} {rest : List Oper} {f : FuncId} {xs : List Value} {R : Ending → World → Prop} (fr : FrD Df N a L) (hw : wantL ops L o = some true) (hd : o.dst = none) (hc : callL L o = some (f, xs)) (hin : Enters P f) (hcon : Calls P f xs.toArray w R)
    (h : ∀ e w', R e w' → ∃ v, e = .returned v ∧ wpList P ops Q rest a w') : wpList P ops Q (o :: rest) a w :=
  wl_op fr hw fun K hK => wp_call (call_run fr hc hin w) (hcon.mono fun e w' hR => by
    obtain ⟨v, he, hk⟩ := h e w' hR
    exact ⟨v, he, hK _ _ (by rw [hd]; exact hk)⟩)
theorem wl_split {l : List Oper} {ρ : Type} {E1 E2 : Option ρ} {r : ρ} {b : Bool} (d : Nat) (fr : FrD Df N a L) (hd : L.lookup d = some (.bool b)) (h : (if b = true then E1 else E2) = some r)
    (ht : FrD Df N a ((d, .bool true) :: L) → E1 = some r → wpList P ops Q l a w) (hf : FrD Df N a ((d, .bool false) :: L) → E2 = some r → wpList P ops Q l a w) : wpList P ops Q l a w := by
  by_cases hb : b = true
  · rw [if_pos hb] at h; exact ht (fr.bool hd hb) h
  · rw [if_neg hb] at h; exact hf (fr.bool hd (by simpa using hb)) h
end

/-! ### 4. Regions that draw their order -/
section
variable {P : Program} {T : Orc} {Q : Exit → Act → World → Prop} {S : World → Prop} {Df : List Deferred} {N : Nat} {a : Act} {w : World} {L L' : Env}
def wantS (L : Env) (s : SOp) : Option Bool :=
  match s.g with
  | none => some true
  | some (t, want) => match L.lookup t with
    | some (.bool b) => some (b == want)
    | some (.tuple _) => some false
    | _ => none
theorem wantS_run (fr : FrD Df N a L) {s : SOp} {b : Bool} (h : wantS L s = some b) : s.wanted a.tmps = b := by
  obtain ⟨q, dst, op, ty, g⟩ := s
  unfold wantS at h
  unfold SOp.wanted
  cases g with
  | none => injection h with h
  | some g =>
    obtain ⟨t, want⟩ := g
    simp only at h ⊢
    split at h
    · rename_i c hc
      injection h with h; subst h
      have := (fr.get _ _ hc).1
      rw [Array.getD_eq_getD_getElem?, this]; rfl
    · rename_i c hc
      injection h with h; subst h
      have := (fr.get _ _ hc).1
      rw [Array.getD_eq_getD_getElem?, this]; rfl
    · cases h
def stepS (T : Orc) (N : Nat) (s : SOp) (L : Env) : Option Env :=
  match s.dst with
  | none => none
  | some d => if d < N then
      match wantS L s with
      | some true => match pureOp T L s.op with
        | some v => some ((d, v) :: L)
        | none => none
      | some false => some ((d, undef) :: L)
      | none => none
    else none
def runS (T : Orc) (N : Nat) : Nat → List Itm → Env → Option (List Itm × Env)
  | 0, l, L => some (l, L)
  | n + 1, .one s :: r, L => if s.q then match stepS T N s L with
    | some L' => runS T N n r L'
    | none => none else none
  | _ + 1, _, _ => none
theorem sl_run (hT : T.Ok P) : ∀ (n : Nat) {l rest : List Itm} {L L' : Env} {a : Act}, runS T N n l L = some (rest, L') → FrD Df N a L → (∀ a', FrD Df N a' L' → SL P Q S rest a' w) → SL P Q S l a w := by
  intro n
  induction n with
  | zero => intro l rest L L' a hr fr h; simp only [runS, Option.some.injEq, Prod.mk.injEq] at hr; obtain ⟨rfl, rfl⟩ := hr; exact h a fr
  | succ n ih =>
    intro l rest L L' a hr fr h
    cases l with
    | nil => simp [runS] at hr
    | cons i r =>
      cases i with
      | two s t => simp [runS] at hr
      | one s =>
        simp only [runS] at hr
        split at hr
        · rename_i hq
          split at hr
          · rename_i L1 h1
            unfold stepS at h1
            split at h1
            · cases h1
            · rename_i d hd
              split at h1
              · rename_i hlt
                split at h1
                · rename_i hw
                  split at h1
                  · rename_i v hv
                    injection h1 with h1; subst h1
                    refine .inr (.inl ⟨wantS_run fr hw, hq, v, fun w' _ => (pure_run hT fr (o := s.oper) hv w').1, ?_⟩)
                    rw [hd]
                    exact ih hr (fr.put hlt (pure_run hT fr (o := s.oper) hv w).2) h
                  · cases h1
                · rename_i hw
                  injection h1 with h1; subst h1
                  refine .inl ⟨wantS_run fr hw, .inl hq, ?_⟩
                  rw [hd]
                  exact ih hr (fr.put hlt rfl) h
                · cases h1
              · cases h1
          · cases hr
        · cases hr
/-- An operation that only reads, under what holds all through the region. -/
theorem sl_q {s : SOp} {rest : List Itm} {d : Nat} {v : Value} (fr : FrD Df N a L) (hw : wantS L s = some true) (hq : s.q = true) (hd : s.dst = some d) (hlt : Nat.blt d N = true) (hrun : ∀ w', S w' → (execOp a.eval s.oper).run P w' = .ok (.value v) w') (hv : vok v = true)
    (h : ∀ a', FrD Df N a' ((d, v) :: L) → SL P Q S rest a' w) : SL P Q S (.one s :: rest) a w :=
  .inr (.inl ⟨wantS_run fr hw, hq, v, hrun, by rw [hd]; exact h _ (fr.put (blt_lt hlt) hv)⟩)
theorem sl_val {s : SOp} {rest : List Itm} {d : Nat} {v : Value} {w' : World} (fr : FrD Df N a L) (hw : wantS L s = some true) (hq : s.q = false) (hd : s.dst = some d) (hlt : Nat.blt d N = true) (hrun : (execOp a.eval s.oper).run P w = .ok (.value v) w') (hS : S w') (hv : vok v = true)
    (h : ∀ a', FrD Df N a' ((d, v) :: L) → SL P Q S rest a' w') : SL P Q S (.one s :: rest) a w :=
  .inr (.inr ⟨wantS_run fr hw, hq, fun _ hK => wp_value hrun (hK _ _ hS (by show SL P Q S rest (a.put s.dst v) w'; rw [hd]; exact h _ (fr.put (blt_lt hlt) hv)))⟩)
theorem sl_skip {s : SOp} {rest : List Itm} {w' : World} (fr : FrD Df N a L) (hw : wantS L s = some true) (hq : s.q = false) (hd : s.dst = none) (hrun : (execOp a.eval s.oper).run P w = .ok .skip w') (hS : S w') (h : SL P Q S rest a w') : SL P Q S (.one s :: rest) a w :=
  .inr (.inr ⟨wantS_run fr hw, hq, fun _ hK => wp_skipv hrun (hK _ _ hS (by show SL P Q S rest (a.put s.dst undef) w'; rw [hd]; exact h))⟩)
theorem sl_call {s : SOp} {rest : List Itm} {d : Nat} {f : FuncId} {xs : List Value} {R : Ending → World → Prop} (fr : FrD Df N a L) (hw : wantS L s = some true) (hq : s.q = false) (hd : s.dst = some d) (hlt : Nat.blt d N = true) (hc : callL L s.oper = some (f, xs)) (hin : Enters P f) (hcon : Calls P f xs.toArray w R)
    (h : ∀ e w', R e w' → ∃ v, e = .returned v ∧ vok v = true ∧ S w' ∧ ∀ a', FrD Df N a' ((d, v) :: L) → SL P Q S rest a' w') : SL P Q S (.one s :: rest) a w :=
  .inr (.inr ⟨wantS_run fr hw, hq, fun _ hK => wp_call (call_run fr hc hin w) (hcon.mono fun e w' hR => by
    obtain ⟨v, he, hv, hS, hk⟩ := h e w' hR
    exact ⟨v, he, hK _ _ hS (by show SL P Q S rest (a.put s.dst v) w'; rw [hd]; exact hk _ (fr.put (blt_lt hlt) hv))⟩)⟩)
/-- A loud one that its guard shuts out. -/
theorem sl_no {s : SOp} {rest : List Itm} {d : Nat} (fr : FrD Df N a L) (hw : wantS L s = some false) (hS : S w) (hd : s.dst = some d) (hlt : Nat.blt d N = true) (h : ∀ a', FrD Df N a' ((d, undef) :: L) → SL P Q S rest a' w) : SL P Q S (.one s :: rest) a w :=
  .inl ⟨wantS_run fr hw, .inr hS, by rw [hd]; exact h _ (fr.put (blt_lt hlt) rfl)⟩
theorem sl_split {l : List Itm} {ρ : Type} {E1 E2 : Option ρ} {r : ρ} {b : Bool} (d : Nat) (fr : FrD Df N a L) (hd : L.lookup d = some (.bool b)) (h : (if b = true then E1 else E2) = some r)
    (ht : FrD Df N a ((d, .bool true) :: L) → E1 = some r → SL P Q S l a w) (hf : FrD Df N a ((d, .bool false) :: L) → E2 = some r → SL P Q S l a w) : SL P Q S l a w := by
  by_cases hb : b = true
  · rw [if_pos hb] at h; exact ht (fr.bool hd hb) h
  · rw [if_neg hb] at h; exact hf (fr.bool hd (by simpa using hb)) h
end

/-! ### 5. Code -/
section
variable {P : Program} {Q : Exit → Act → World → Prop} {Df : List Deferred} {N : Nat} {a : Act} {w : World} {L : Env}
theorem then_n {K : Act → World → Prop} (h : K a w) : Exit.then K Q .normal a w := h
theorem then_e {K : Act → World → Prop} {id : Nat} (h : Q (.exit id) a w) : Exit.then K Q (.exit id) a w := h
theorem then_r {K : Act → World → Prop} (h : Q .ret a w) : Exit.then K Q .ret a w := h
theorem blk_n {id : Nat} (h : Q .normal a w) : Exit.inBlock id Q .normal a w := h
theorem blk_r {id : Nat} (h : Q .ret a w) : Exit.inBlock id Q .ret a w := h
theorem blk_y {id : Nat} (h : Q .normal a w) : Exit.inBlock id Q (.exit id) a w := by simp only [Exit.inBlock, if_true]; exact h
theorem blk_e {id j : Nat} (hj : (j == id) = false) (h : Q (.exit j) a w) : Exit.inBlock id Q (.exit j) a w := by
  have : ¬ j = id := by simpa using hj
  simp only [Exit.inBlock, if_neg this]; exact h
theorem cw_if {c : Operand} {x y : Code} {ρ : Type} {E1 E2 : Option ρ} {r : ρ} {b : Bool} (fr : FrD Df N a L) (hc : ev L c = some (.bool b)) (h : (if b = true then E1 else E2) = some r) (ht : E1 = some r → x.wp P Q a w) (hf : E2 = some r → y.wp P Q a w) : (Code.cond c x y).wp P Q a w := by
  refine wp_cond_split (fr.ev hc).1 (fun hb => ?_) (fun hb => ?_)
  · rw [if_pos hb] at h; exact ht h
  · rw [hb, if_neg (by decide)] at h; exact hf h
theorem cw_t {c : Operand} {x y : Code} (fr : FrD Df N a L) (hc : ev L c = some (.bool true)) (h : x.wp P Q a w) : (Code.cond c x y).wp P Q a w := wp_cond_true (fr.ev hc).1 h
theorem cw_f {c : Operand} {x y : Code} (fr : FrD Df N a L) (hc : ev L c = some (.bool false)) (h : y.wp P Q a w) : (Code.cond c x y).wp P Q a w := wp_cond_false (fr.ev hc).1 h
/-- Where ways meet again. -/
theorem cw_cut {x y : Code} (M : Act → World → Prop) (hx : x.wp P (Exit.then M Q) a w) (hy : ∀ a w, M a w → y.wp P Q a w) : (Code.seq x y).wp P Q a w :=
  wp_seq (wp_mono hx fun e a w h => by cases e <;> first | exact hy _ _ h | exact h)
/-- The same at a block. -/
theorem cw_blk {id : Nat} {c : Code} (M : Act → World → Prop) (hx : c.wp P (Exit.inBlock id (Exit.then M Q)) a w) (hy : ∀ a w, M a w → Q .normal a w) : (Code.block id c).wp P Q a w :=
  wp_block (wp_mono hx fun e a w h => by
    cases e <;> first | exact hy _ _ h | exact h | skip
    rename_i j
    simp only [Exit.inBlock] at h ⊢
    split
    · rename_i hj; rw [if_pos hj] at h; exact hy _ _ h
    · rename_i hj; rw [if_neg hj] at h; exact h)
theorem cw_scope {c : Code} (h : c.wp P (Exit.noGoto Q) a w) : (Code.scope c).wp P Q a w := wp_scope_straight h
theorem ng_n (h : Q .normal a w) : Exit.noGoto Q .normal a w := h
theorem ng_r (h : Q .ret a w) : Exit.noGoto Q .ret a w := h
theorem ng_e {id : Nat} (h : Q (.exit id) a w) : Exit.noGoto Q (.exit id) a w := h
theorem least {p : Nat → Prop} (h : ∃ n, p n) : ∃ n, p n ∧ ∀ m, p m → n ≤ m := by
  obtain ⟨n, hn⟩ := h
  induction n using Nat.strongRecOn with
  | _ n ih =>
    by_cases h2 : ∃ m, m < n ∧ p m
    · obtain ⟨m, h3, h4⟩ := h2; exact ih m h3 h4
    · exact ⟨n, hn, fun m hm => Nat.le_of_not_lt fun h => h2 ⟨m, h, hm⟩⟩
/-- A loop, by a number of rounds that suffices. -/
theorem cw_loop {c : Code} (I : Nat → Act → World → Prop) (k : Nat) (h0 : I k a w) (hz : ∀ a w, ¬ I 0 a w) (hs : ∀ k a w, I (k + 1) a w → c.wp P (Exit.then (I k) Q) a w) : (Code.loop c).wp P Q a w := by
  classical
  refine wp_loop (fun a w => ∃ k, I k a w) (fun a w => if h : ∃ k, I k a w then (least h).choose else 0) ⟨k, h0⟩ fun a w hI => ?_
  obtain ⟨h1, h2⟩ := (least hI).choose_spec
  generalize hn : (least hI).choose = n at h1 h2
  have hn' : (if h : ∃ k, I k a w then (least h).choose else 0) = n := by rw [dif_pos hI]; exact hn
  rw [hn']
  cases n with
  | zero => exact absurd h1 (hz _ _)
  | succ n =>
    refine wp_mono (hs _ _ _ h1) fun e a' w' h => ?_
    cases e <;> first | exact h | skip
    have h3 : I n a' w' := h
    refine ⟨⟨n, h3⟩, ?_⟩
    rw [dif_pos ⟨n, h3⟩]
    have := (least (p := fun k => I k a' w') ⟨n, h3⟩).choose_spec.2 n h3
    omega
theorem ret1 {fn : Func} {R : Ending → World → Prop} {t : Nat} {v : Value} (fr : Fr N a L) (hres : fn.results = #[.tmp t]) (hv : L.lookup t = some v) (hR : R (.returned v) w) : bodyPost P fn R .ret a w :=
  bodyPost_ret (v := v) (by rw [results_tmp hres, Array.getD_eq_getD_getElem?, (fr.get _ _ hv).1]; rfl) fr.defers hR
theorem ret2 {fn : Func} {R : Ending → World → Prop} {t u : Nat} {v z : Value} (fr : Fr N a L) (hres : fn.results = #[.tmp t, .tmp u]) (hv : L.lookup t = some v) (hz : L.lookup u = some z) (hR : R (.returned (.tuple #[v, z])) w) : bodyPost P fn R .ret a w :=
  bodyPost_ret (v := .tuple #[v, z]) (by rw [results_tmp2 hres, Array.getD_eq_getD_getElem?, Array.getD_eq_getD_getElem?, (fr.get _ _ hv).1, (fr.get _ _ hz).1]; rfl) fr.defers hR
theorem ret3 {fn : Func} {R : Ending → World → Prop} {t u s : Nat} {v z y : Value} (fr : Fr N a L) (hres : fn.results = #[.tmp t, .tmp u, .tmp s]) (hv : L.lookup t = some v) (hz : L.lookup u = some z) (hy : L.lookup s = some y) (hR : R (.returned (.tuple #[v, z, y])) w) : bodyPost P fn R .ret a w :=
  bodyPost_ret (v := .tuple #[v, z, y]) (by
    have e : (results fn a.tmps).run P w = .ok (.tuple #[a.tmps.getD t undef, a.tmps.getD u undef, a.tmps.getD s undef]) w := by simp [results, hres]
    rw [e, Array.getD_eq_getD_getElem?, Array.getD_eq_getD_getElem?, Array.getD_eq_getD_getElem?, (fr.get _ _ hv).1, (fr.get _ _ hz).1, (fr.get _ _ hy).1]; rfl) fr.defers hR
theorem ret0 {fn : Func} {R : Ending → World → Prop} (fr : Fr N a L) (hres : fn.results = #[]) (hR : R (.returned (.tuple #[])) w) : bodyPost P fn R .ret a w :=
  bodyPost_ret (v := .tuple #[]) (results_none hres _ _ _) fr.defers hR
theorem end_ret {fn : Func} {R : Ending → World → Prop} (h : bodyPost P fn R .ret a w) : bodyPost P fn R .normal a w := h
theorem calls_start {f : FuncId} {fn : Func} {c : Code} {R : Ending → World → Prop} (xs : List Value) (hf : P.funcs[f]? = some fn) (hb : fn.body = some c) (hN : fn.ntmps = N) (hl : Nat.ble xs.length N = true) (hv : xs.all vok = true)
    (h : ∀ a, Fr N a (EnvOf 0 xs) → c.wp P (bodyPost P fn R) a w) : Calls P f xs.toArray w R := by
  refine calls_of_wp hf hb (h _ ?_)
  subst hN
  have := Fr.start fn.ntmps xs (Nat.le_of_ble_eq_true hl) hv
  simpa using this
theorem ifs {ρ : Type} {c : Prop} [Decidable c] {E : Option ρ} {r : ρ} (h : (if c then E else none) = some r) : c ∧ E = some r := by
  split at h
  · exact ⟨by assumption, h⟩
  · cases h
/-- A value under a name. -/
def lt {α ρ : Type} (e : α) (f : α → Option ρ) : Option ρ := f e
theorem lt_h {α ρ : Type} {e : α} {f : α → Option ρ} {r : ρ} (h : lt e f = some r) : ∃ x, e = x ∧ f x = some r := ⟨e, rfl, h⟩
theorem lt_is {α ρ : Type} {e v : α} {f : α → Option ρ} (h : e = v) : lt e f = f v := by subst h; rfl
theorem lt_all {α ρ : Type} {e : α} {f : α → Option ρ} {r : Option ρ} (h : ∀ x, e = x → f x = r) : lt e f = r := h e rfl
theorem bnd {α ρ : Type} {x : Option α} {f : α → Option ρ} {r : ρ} (h : x.bind f = some r) : ∃ y, x = some y ∧ f y = some r := Option.bind_eq_some_iff.1 h
end
end Go.Proofs.YticnjkdaccacaaaDoor.Sx
