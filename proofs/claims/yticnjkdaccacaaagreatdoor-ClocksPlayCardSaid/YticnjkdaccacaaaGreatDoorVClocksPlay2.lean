/- Texts of this work, one behind the other. -/
import Derived.Test.YticnjkdaccacaaaGreatDoorVClocksPlay1
import Derived.Scope
import Derived.Deep.MidRow
import Derived.Great.BuildSlice
section
/- Steps of a walk, by one lemma each: lists of operations, code, calls, loops. -/
namespace Go.Proofs.YticnjkdaccacaaaGreatDoor.Sx
open Go Go.RowKit Base Own

theorem blt_lt {d N : Nat} (h : Nat.blt d N = true) : d < N := Nat.le_of_ble_eq_true h
/-! ### 3. Lists of operations in their order -/
section
variable {P : Program} {T : Orc} {ops : Array Oper} {Q : Exit → Act → World → Prop} {Df : List Deferred} {N : Nat} {a : Act} {w : World} {L L' : Env}
/-- Is an operation wanted? -/
def wantL (ops : Array Oper) (L : Env) (o : Oper) : Option Bool :=
  match o.guard with
  | none => some true
  | some (j, want) => match (ops[j]?).bind (·.dst) with
    | some t => match L.lookup t with
      | some (.bool b) => some (b == want)
      | some (.tuple _) => some false
      | _ => none
    | none => none
theorem wantL_run (fr : FrD Df N a L) {o : Oper} {b : Bool} (h : wantL ops L o = some b) : Region.wanted o (yielded ops a.tmps) = b := by
  unfold wantL at h
  split at h
  · rename_i hg
    injection h with h; subst h
    simp [Region.wanted, hg]
  · rename_i j want hg
    split at h
    · rename_i t ht
      split at h
      · rename_i c hc
        injection h with h; subst h
        have := (fr.get _ _ hc).1
        simp only [Region.wanted, hg, yielded, ht, Option.bind_some]
        rw [this]; simp
      · rename_i c hc
        injection h with h; subst h
        have := (fr.get _ _ hc).1
        simp only [Region.wanted, hg, yielded, ht, Option.bind_some]
        rw [this]; rfl
      · cases h
    · cases h
def stepL (T : Orc) (N : Nat) (ops : Array Oper) (o : Oper) (L : Env) : Option Env :=
  match o.dst with
  | none => none
  | some d => if d < N then
      match wantL ops L o with
      | some true => match pureOp T L o.op with
        | some v => some ((d, v) :: L)
        | none => none
      | some false => some ((d, undef) :: L)
      | none => none
    else none
def runL (T : Orc) (N : Nat) (ops : Array Oper) : Nat → List Oper → Env → Option (List Oper × Env)
  | 0, l, L => some (l, L)
  | _ + 1, [], _ => none
  | n + 1, o :: r, L => match stepL T N ops o L with
    | some L' => runL T N ops n r L'
    | none => none
theorem wl_op {o : Oper} {rest : List Oper} (fr : FrD Df N a L) (hw : wantL ops L o = some true) (h : ∀ K : Act → World → Prop, (∀ a w, wpList P ops Q rest a w → K a w) → o.wp P a w K Q) : wpList P ops Q (o :: rest) a w :=
  wpList_step fun K hK => by rw [wantL_run fr hw, if_pos rfl]; exact h K hK
theorem wl_no {o : Oper} {rest : List Oper} (fr : FrD Df N a L) (hw : wantL ops L o = some false) (h : wpList P ops Q rest (a.put o.dst undef) w) : wpList P ops Q (o :: rest) a w :=
  wpList_step fun K hK => by rw [wantL_run fr hw, if_neg (by decide)]; exact hK _ _ h
theorem wl_run (hT : T.Ok P) : ∀ (n : Nat) {l rest : List Oper} {L L' : Env} {a : Act}, runL T N ops n l L = some (rest, L') → FrD Df N a L → (∀ a', FrD Df N a' L' → wpList P ops Q rest a' w) → wpList P ops Q l a w := by
  intro n
  induction n with
  | zero => intro l rest L L' a hr fr h; simp only [runL, Option.some.injEq, Prod.mk.injEq] at hr; obtain ⟨rfl, rfl⟩ := hr; exact h a fr
  | succ n ih =>
    intro l rest L L' a hr fr h
    cases l with
    | nil => simp [runL] at hr
    | cons o r =>
      simp only [runL] at hr
      split at hr
      · rename_i L1 h1
        unfold stepL at h1
        split at h1
        · cases h1
        · rename_i d hd
          split at h1
          · rename_i hlt
            split at h1
            · rename_i hw
              split at h1
              · rename_i v hv
                injection h1 with h1; subst h1
                obtain ⟨e1, e2⟩ := pure_run hT fr hv w
                refine wl_op fr hw fun K hK => ?_
                refine wp_value e1 (hK _ _ ?_)
                rw [hd]
                exact ih hr (fr.put hlt e2) h
              · cases h1
            · rename_i hw
              injection h1 with h1; subst h1
              refine wl_no fr hw ?_
              rw [hd]
              exact ih hr (fr.put hlt rfl) h
            · cases h1
          · cases h1
      · cases hr
theorem wl_val {o : Oper} {rest : List Oper} {d : Nat} {v : Value} {w' : World} (fr : FrD Df N a L) (hw : wantL ops L o = some true) (hd : o.dst = some d) (hlt : Nat.blt d N = true) (hrun : (execOp a.eval o).run P w = .ok (.value v) w') (hv : vok v = true)
    (h : ∀ a', FrD Df N a' ((d, v) :: L) → wpList P ops Q rest a' w') : wpList P ops Q (o :: rest) a w :=
  wl_op fr hw fun K hK => wp_value hrun (hK _ _ (by rw [hd]; exact h _ (fr.put (blt_lt hlt) hv)))
theorem wp_skipv {o : Oper} {K : Act → World → Prop} {Q' : Exit → Act → World → Prop} {w' : World} (h : (execOp a.eval o).run P w = .ok .skip w') (hK : K (a.put o.dst undef) w') : Oper.wp P o a w K Q' := by
  unfold Oper.wp
  rw [h, Oper.upon_skip]
  exact hK
theorem wl_skip {o : Oper} {rest : List Oper} {w' : World} (fr : FrD Df N a L) (hw : wantL ops L o = some true) (hd : o.dst = none) (hrun : (execOp a.eval o).run P w = .ok .skip w') (h : wpList P ops Q rest a w') : wpList P ops Q (o :: rest) a w :=
  wl_op fr hw fun K hK => wp_skipv hrun (hK _ _ (by rw [hd]; exact h))
/-- What a call asks for. -/
def callL (L : Env) (o : Oper) : Option (FuncId × List Value) :=
  match o.op with
  | .call c => match c.callee with
    | .value (.func f) => (evs L c.args.toList).map fun xs => (f, xs)
    | _ => none
  | _ => none
def Enters (P : Program) (f : FuncId) : Prop := ∀ xs W, (callFunc f xs).run P W = .ok (.enter f xs) W
theorem call_run (fr : FrD Df N a L) {o : Oper} {f : FuncId} {xs : List Value} (h : callL L o = some (f, xs)) (hin : Enters P f) (w : World) : (execOp a.eval o).run P w = .ok (.enter f xs.toArray) w := by
  unfold callL at h
  split at h
  · rename_i c hc
    split at h
    · rename_i g hg
      simp only [Option.map_eq_some_iff, Prod.mk.injEq] at h
      obtain ⟨ys, h1, rfl, rfl⟩ := h
      have e : c.args.map a.eval = ys.toArray := by
        apply Array.toList_inj.1
        rw [Array.toList_map, (evs_run fr h1).1]
      unfold execOp
      simp only [hc, resolve, hg, Act.eval, Deferred.ofValue]
      rw [Sem.run_bind, Sem.run_pure, Result.andThen_ok]
      simp only [invoke]
      have e3 := hin ys.toArray w
      rw [← e] at e3 ⊢
      simpa using e3
    · cases h
  · cases h
theorem wp_call {o : Oper} {f : FuncId} {args : Array Value} {K : Act → World → Prop} {Q' : Exit → Act → World → Prop} (hrun : (execOp a.eval o).run P w = .ok (.enter f args) w) (h : Calls P f args w fun e w' => ∃ v, e = .returned v ∧ K (a.put o.dst v) w') : Oper.wp P o a w K Q' := by
  unfold Oper.wp
  rw [hrun, Oper.upon_enter]
  refine h.mono fun e w'' hh => ?_
  obtain ⟨v, rfl, hk⟩ := hh
  exact hk
theorem wl_call {o : Oper} {rest : List Oper} {d : Nat} {f : FuncId} {xs : List Value} {R : Ending → World → Prop} (fr : FrD Df N a L) (hw : wantL ops L o = some true) (hd : o.dst = some d) (hlt : Nat.blt d N = true) (hc : callL L o = some (f, xs)) (hin : Enters P f) (hcon : Calls P f xs.toArray w R)
    (h : ∀ e w', R e w' → ∃ v, e = .returned v ∧ vok v = true ∧ ∀ a', FrD Df N a' ((d, v) :: L) → wpList P ops Q rest a' w') : wpList P ops Q (o :: rest) a w :=
  wl_op fr hw fun K hK => wp_call (call_run fr hc hin w) (hcon.mono fun e w' hR => by
    obtain ⟨v, he, hv, hk⟩ := h e w' hR
    exact ⟨v, he, hK _ _ (by rw [hd]; exact hk _ (fr.put (blt_lt hlt) hv))⟩)
theorem wl_call0 {o : Oper} {rest : List Oper} {f : FuncId} {xs : List Value} {R : Ending → World → Prop} (fr : FrD Df N a L) (hw : wantL ops L o = some true) (hd : o.dst = none) (hc : callL L o = some (f, xs)) (hin : Enters P f) (hcon : Calls P f xs.toArray w R)
    (h : ∀ e w', R e w' → ∃ v, e = .returned v ∧ wpList P ops Q rest a w') : wpList P ops Q (o :: rest) a w :=
  wl_op fr hw fun K hK => wp_call (call_run fr hc hin w) (hcon.mono fun e w' hR => by
    obtain ⟨v, he, hk⟩ := h e w' hR
    exact ⟨v, he, hK _ _ (by rw [hd]; exact hk)⟩)
theorem wl_split {l : List Oper} {ρ : Type} {E1 E2 : Option ρ} {r : ρ} {b : Bool} (d : Nat) (fr : FrD Df N a L) (hd : L.lookup d = some (.bool b)) (h : (if b = true then E1 else E2) = some r)
    (ht : FrD Df N a ((d, .bool true) :: L) → E1 = some r → wpList P ops Q l a w) (hf : FrD Df N a ((d, .bool false) :: L) → E2 = some r → wpList P ops Q l a w) : wpList P ops Q l a w := by
  by_cases hb : b = true
  · rw [if_pos hb] at h; exact ht (fr.bool hd hb) h
  · rw [if_neg hb] at h; exact hf (fr.bool hd (by simpa using hb)) h
end

/-! ### 4. Regions that draw their order -/
section
variable {P : Program} {T : Orc} {Q : Exit → Act → World → Prop} {S : World → Prop} {Df : List Deferred} {N : Nat} {a : Act} {w : World} {L L' : Env}
def wantS (L : Env) (s : SOp) : Option Bool :=
  match s.g with
  | none => some true
  | some (t, want) => match L.lookup t with
    | some (.bool b) => some (b == want)
    | some (.tuple _) => some false
    | _ => none
theorem wantS_run (fr : FrD Df N a L) {s : SOp} {b : Bool} (h : wantS L s = some b) : s.wanted a.tmps = b := by
  obtain ⟨q, dst, op, ty, g⟩ := s
  unfold wantS at h
  unfold SOp.wanted
  cases g with
  | none => injection h with h
  | some g =>
    obtain ⟨t, want⟩ := g
    simp only at h ⊢
    split at h
    · rename_i c hc
      injection h with h; subst h
      have := (fr.get _ _ hc).1
      rw [Array.getD_eq_getD_getElem?, this]; rfl
    · rename_i c hc
      injection h with h; subst h
      have := (fr.get _ _ hc).1
      rw [Array.getD_eq_getD_getElem?, this]; rfl
    · cases h
def stepS (T : Orc) (N : Nat) (s : SOp) (L : Env) : Option Env :=
  match s.dst with
  | none => none
  | some d => if d < N then
      match wantS L s with
      | some true => match pureOp T L s.op with
        | some v => some ((d, v) :: L)
        | none => none
      | some false => some ((d, undef) :: L)
      | none => none
    else none
def runS (T : Orc) (N : Nat) : Nat → List Itm → Env → Option (List Itm × Env)
  | 0, l, L => some (l, L)
  | n + 1, .one s :: r, L => if s.q then match stepS T N s L with
    | some L' => runS T N n r L'
    | none => none else none
  | _ + 1, _, _ => none
theorem sl_run (hT : T.Ok P) : ∀ (n : Nat) {l rest : List Itm} {L L' : Env} {a : Act}, runS T N n l L = some (rest, L') → FrD Df N a L → (∀ a', FrD Df N a' L' → SL P Q S rest a' w) → SL P Q S l a w := by
  intro n
  induction n with
  | zero => intro l rest L L' a hr fr h; simp only [runS, Option.some.injEq, Prod.mk.injEq] at hr; obtain ⟨rfl, rfl⟩ := hr; exact h a fr
  | succ n ih =>
    intro l rest L L' a hr fr h
    cases l with
    | nil => simp [runS] at hr
    | cons i r =>
      cases i with
      | two s t => simp [runS] at hr
      | one s =>
        simp only [runS] at hr
        split at hr
        · rename_i hq
          split at hr
          · rename_i L1 h1
            unfold stepS at h1
            split at h1
            · cases h1
            · rename_i d hd
              split at h1
              · rename_i hlt
                split at h1
                · rename_i hw
                  split at h1
                  · rename_i v hv
                    injection h1 with h1; subst h1
                    refine .inr (.inl ⟨wantS_run fr hw, hq, v, fun w' _ => (pure_run hT fr (o := s.oper) hv w').1, ?_⟩)
                    rw [hd]
                    exact ih hr (fr.put hlt (pure_run hT fr (o := s.oper) hv w).2) h
                  · cases h1
                · rename_i hw
                  injection h1 with h1; subst h1
                  refine .inl ⟨wantS_run fr hw, .inl hq, ?_⟩
                  rw [hd]
                  exact ih hr (fr.put hlt rfl) h
                · cases h1
              · cases h1
          · cases hr
        · cases hr
/-- An operation that only reads, under what holds all through the region. -/
theorem sl_q {s : SOp} {rest : List Itm} {d : Nat} {v : Value} (fr : FrD Df N a L) (hw : wantS L s = some true) (hq : s.q = true) (hd : s.dst = some d) (hlt : Nat.blt d N = true) (hrun : ∀ w', S w' → (execOp a.eval s.oper).run P w' = .ok (.value v) w') (hv : vok v = true)
    (h : ∀ a', FrD Df N a' ((d, v) :: L) → SL P Q S rest a' w) : SL P Q S (.one s :: rest) a w :=
  .inr (.inl ⟨wantS_run fr hw, hq, v, hrun, by rw [hd]; exact h _ (fr.put (blt_lt hlt) hv)⟩)
theorem sl_val {s : SOp} {rest : List Itm} {d : Nat} {v : Value} {w' : World} (fr : FrD Df N a L) (hw : wantS L s = some true) (hq : s.q = false) (hd : s.dst = some d) (hlt : Nat.blt d N = true) (hrun : (execOp a.eval s.oper).run P w = .ok (.value v) w') (hS : S w') (hv : vok v = true)
    (h : ∀ a', FrD Df N a' ((d, v) :: L) → SL P Q S rest a' w') : SL P Q S (.one s :: rest) a w :=
  .inr (.inr ⟨wantS_run fr hw, hq, fun _ hK => wp_value hrun (hK _ _ hS (by show SL P Q S rest (a.put s.dst v) w'; rw [hd]; exact h _ (fr.put (blt_lt hlt) hv)))⟩)
theorem sl_skip {s : SOp} {rest : List Itm} {w' : World} (fr : FrD Df N a L) (hw : wantS L s = some true) (hq : s.q = false) (hd : s.dst = none) (hrun : (execOp a.eval s.oper).run P w = .ok .skip w') (hS : S w') (h : SL P Q S rest a w') : SL P Q S (.one s :: rest) a w :=
  .inr (.inr ⟨wantS_run fr hw, hq, fun _ hK => wp_skipv hrun (hK _ _ hS (by show SL P Q S rest (a.put s.dst undef) w'; rw [hd]; exact h))⟩)
theorem sl_call {s : SOp} {rest : List Itm} {d : Nat} {f : FuncId} {xs : List Value} {R : Ending → World → Prop} (fr : FrD Df N a L) (hw : wantS L s = some true) (hq : s.q = false) (hd : s.dst = some d) (hlt : Nat.blt d N = true) (hc : callL L s.oper = some (f, xs)) (hin : Enters P f) (hcon : Calls P f xs.toArray w R)
    (h : ∀ e w', R e w' → ∃ v, e = .returned v ∧ vok v = true ∧ S w' ∧ ∀ a', FrD Df N a' ((d, v) :: L) → SL P Q S rest a' w') : SL P Q S (.one s :: rest) a w :=
  .inr (.inr ⟨wantS_run fr hw, hq, fun _ hK => wp_call (call_run fr hc hin w) (hcon.mono fun e w' hR => by
    obtain ⟨v, he, hv, hS, hk⟩ := h e w' hR
    exact ⟨v, he, hK _ _ hS (by show SL P Q S rest (a.put s.dst v) w'; rw [hd]; exact hk _ (fr.put (blt_lt hlt) hv))⟩)⟩)
/-- A loud one that its guard shuts out. -/
theorem sl_no {s : SOp} {rest : List Itm} {d : Nat} (fr : FrD Df N a L) (hw : wantS L s = some false) (hS : S w) (hd : s.dst = some d) (hlt : Nat.blt d N = true) (h : ∀ a', FrD Df N a' ((d, undef) :: L) → SL P Q S rest a' w) : SL P Q S (.one s :: rest) a w :=
  .inl ⟨wantS_run fr hw, .inr hS, by rw [hd]; exact h _ (fr.put (blt_lt hlt) rfl)⟩
theorem sl_split {l : List Itm} {ρ : Type} {E1 E2 : Option ρ} {r : ρ} {b : Bool} (d : Nat) (fr : FrD Df N a L) (hd : L.lookup d = some (.bool b)) (h : (if b = true then E1 else E2) = some r)
    (ht : FrD Df N a ((d, .bool true) :: L) → E1 = some r → SL P Q S l a w) (hf : FrD Df N a ((d, .bool false) :: L) → E2 = some r → SL P Q S l a w) : SL P Q S l a w := by
  by_cases hb : b = true
  · rw [if_pos hb] at h; exact ht (fr.bool hd hb) h
  · rw [if_neg hb] at h; exact hf (fr.bool hd (by simpa using hb)) h
end

/-! ### 5. Code -/
section
variable {P : Program} {Q : Exit → Act → World → Prop} {Df : List Deferred} {N : Nat} {a : Act} {w : World} {L : Env}
theorem then_n {K : Act → World → Prop} (h : K a w) : Exit.then K Q .normal a w := h
theorem then_e {K : Act → World → Prop} {id : Nat} (h : Q (.exit id) a w) : Exit.then K Q (.exit id) a w := h
theorem then_r {K : Act → World → Prop} (h : Q .ret a w) : Exit.then K Q .ret a w := h
theorem blk_n {id : Nat} (h : Q .normal a w) : Exit.inBlock id Q .normal a w := h
theorem blk_r {id : Nat} (h : Q .ret a w) : Exit.inBlock id Q .ret a w := h
theorem blk_y {id : Nat} (h : Q .normal a w) : Exit.inBlock id Q (.exit id) a w := by simp only [Exit.inBlock, if_true]; exact h
theorem blk_e {id j : Nat} (hj : (j == id) = false) (h : Q (.exit j) a w) : Exit.inBlock id Q (.exit j) a w := by
  have : ¬ j = id := by simpa using hj
  simp only [Exit.inBlock, if_neg this]; exact h
theorem cw_if {c : Operand} {x y : Code} {ρ : Type} {E1 E2 : Option ρ} {r : ρ} {b : Bool} (fr : FrD Df N a L) (hc : ev L c = some (.bool b)) (h : (if b = true then E1 else E2) = some r) (ht : E1 = some r → x.wp P Q a w) (hf : E2 = some r → y.wp P Q a w) : (Code.cond c x y).wp P Q a w := by
  refine wp_cond_split (fr.ev hc).1 (fun hb => ?_) (fun hb => ?_)
  · rw [if_pos hb] at h; exact ht h
  · rw [hb, if_neg (by decide)] at h; exact hf h
theorem cw_t {c : Operand} {x y : Code} (fr : FrD Df N a L) (hc : ev L c = some (.bool true)) (h : x.wp P Q a w) : (Code.cond c x y).wp P Q a w := wp_cond_true (fr.ev hc).1 h
theorem cw_f {c : Operand} {x y : Code} (fr : FrD Df N a L) (hc : ev L c = some (.bool false)) (h : y.wp P Q a w) : (Code.cond c x y).wp P Q a w := wp_cond_false (fr.ev hc).1 h
/-- Where ways meet again. -/
theorem cw_cut {x y : Code} (M : Act → World → Prop) (hx : x.wp P (Exit.then M Q) a w) (hy : ∀ a w, M a w → y.wp P Q a w) : (Code.seq x y).wp P Q a w :=
  wp_seq (wp_mono hx fun e a w h => by cases e <;> first | exact hy _ _ h | exact h)
/-- The same at a block. -/
theorem cw_blk {id : Nat} {c : Code} (M : Act → World → Prop) (hx : c.wp P (Exit.inBlock id (Exit.then M Q)) a w) (hy : ∀ a w, M a w → Q .normal a w) : (Code.block id c).wp P Q a w :=
  wp_block (wp_mono hx fun e a w h => by
    cases e <;> first | exact hy _ _ h | exact h | skip
    rename_i j
    simp only [Exit.inBlock] at h ⊢
    split
    · rename_i hj; rw [if_pos hj] at h; exact hy _ _ h
    · rename_i hj; rw [if_neg hj] at h; exact h)
theorem cw_scope {c : Code} (h : c.wp P (Exit.noGoto Q) a w) : (Code.scope c).wp P Q a w := wp_scope_straight h
theorem ng_n (h : Q .normal a w) : Exit.noGoto Q .normal a w := h
theorem ng_r (h : Q .ret a w) : Exit.noGoto Q .ret a w := h
theorem ng_e {id : Nat} (h : Q (.exit id) a w) : Exit.noGoto Q (.exit id) a w := h
theorem least {p : Nat → Prop} (h : ∃ n, p n) : ∃ n, p n ∧ ∀ m, p m → n ≤ m := by
  obtain ⟨n, hn⟩ := h
  induction n using Nat.strongRecOn with
  | _ n ih =>
    by_cases h2 : ∃ m, m < n ∧ p m
    · obtain ⟨m, h3, h4⟩ := h2; exact ih m h3 h4
    · exact ⟨n, hn, fun m hm => Nat.le_of_not_lt fun h => h2 ⟨m, h, hm⟩⟩
/-- A loop, by a number of rounds that suffices. -/
theorem cw_loop {c : Code} (I : Nat → Act → World → Prop) (k : Nat) (h0 : I k a w) (hz : ∀ a w, ¬ I 0 a w) (hs : ∀ k a w, I (k + 1) a w → c.wp P (Exit.then (I k) Q) a w) : (Code.loop c).wp P Q a w := by
  classical
  refine wp_loop (fun a w => ∃ k, I k a w) (fun a w => if h : ∃ k, I k a w then (least h).choose else 0) ⟨k, h0⟩ fun a w hI => ?_
  obtain ⟨h1, h2⟩ := (least hI).choose_spec
  generalize hn : (least hI).choose = n at h1 h2
  have hn' : (if h : ∃ k, I k a w then (least h).choose else 0) = n := by rw [dif_pos hI]; exact hn
  rw [hn']
  cases n with
  | zero => exact absurd h1 (hz _ _)
  | succ n =>
    refine wp_mono (hs _ _ _ h1) fun e a' w' h => ?_
    cases e <;> first | exact h | skip
    have h3 : I n a' w' := h
    refine ⟨⟨n, h3⟩, ?_⟩
    rw [dif_pos ⟨n, h3⟩]
    have := (least (p := fun k => I k a' w') ⟨n, h3⟩).choose_spec.2 n h3
    omega
theorem ret1 {fn : Func} {R : Ending → World → Prop} {t : Nat} {v : Value} (fr : Fr N a L) (hres : fn.results = #[.tmp t]) (hv : L.lookup t = some v) (hR : R (.returned v) w) : bodyPost P fn R .ret a w :=
  bodyPost_ret (v := v) (by rw [results_tmp hres, Array.getD_eq_getD_getElem?, (fr.get _ _ hv).1]; rfl) fr.defers hR
theorem ret2 {fn : Func} {R : Ending → World → Prop} {t u : Nat} {v z : Value} (fr : Fr N a L) (hres : fn.results = #[.tmp t, .tmp u]) (hv : L.lookup t = some v) (hz : L.lookup u = some z) (hR : R (.returned (.tuple #[v, z])) w) : bodyPost P fn R .ret a w :=
  bodyPost_ret (v := .tuple #[v, z]) (by rw [results_tmp2 hres, Array.getD_eq_getD_getElem?, Array.getD_eq_getD_getElem?, (fr.get _ _ hv).1, (fr.get _ _ hz).1]; rfl) fr.defers hR
theorem ret3 {fn : Func} {R : Ending → World → Prop} {t u s : Nat} {v z y : Value} (fr : Fr N a L) (hres : fn.results = #[.tmp t, .tmp u, .tmp s]) (hv : L.lookup t = some v) (hz : L.lookup u = some z) (hy : L.lookup s = some y) (hR : R (.returned (.tuple #[v, z, y])) w) : bodyPost P fn R .ret a w :=
  bodyPost_ret (v := .tuple #[v, z, y]) (by
    have e : (results fn a.tmps).run P w = .ok (.tuple #[a.tmps.getD t undef, a.tmps.getD u undef, a.tmps.getD s undef]) w := by simp [results, hres]
    rw [e, Array.getD_eq_getD_getElem?, Array.getD_eq_getD_getElem?, Array.getD_eq_getD_getElem?, (fr.get _ _ hv).1, (fr.get _ _ hz).1, (fr.get _ _ hy).1]; rfl) fr.defers hR
theorem ret0 {fn : Func} {R : Ending → World → Prop} (fr : Fr N a L) (hres : fn.results = #[]) (hR : R (.returned (.tuple #[])) w) : bodyPost P fn R .ret a w :=
  bodyPost_ret (v := .tuple #[]) (results_none hres _ _ _) fr.defers hR
theorem end_ret {fn : Func} {R : Ending → World → Prop} (h : bodyPost P fn R .ret a w) : bodyPost P fn R .normal a w := h
theorem calls_start {f : FuncId} {fn : Func} {c : Code} {R : Ending → World → Prop} (xs : List Value) (hf : P.funcs[f]? = some fn) (hb : fn.body = some c) (hN : fn.ntmps = N) (hl : Nat.ble xs.length N = true) (hv : xs.all vok = true)
    (h : ∀ a, Fr N a (EnvOf 0 xs) → c.wp P (bodyPost P fn R) a w) : Calls P f xs.toArray w R := by
  refine calls_of_wp hf hb (h _ ?_)
  subst hN
  have := Fr.start fn.ntmps xs (Nat.le_of_ble_eq_true hl) hv
  simpa using this
theorem ifs {ρ : Type} {c : Prop} [Decidable c] {E : Option ρ} {r : ρ} (h : (if c then E else none) = some r) : c ∧ E = some r := by
  split at h
  · exact ⟨by assumption, h⟩
  · cases h
/-- A value under a name. -/
def lt {α ρ : Type} (e : α) (f : α → Option ρ) : Option ρ := f e
theorem lt_h {α ρ : Type} {e : α} {f : α → Option ρ} {r : ρ} (h : lt e f = some r) : ∃ x, e = x ∧ f x = some r := ⟨e, rfl, h⟩
theorem lt_is {α ρ : Type} {e v : α} {f : α → Option ρ} (h : e = v) : lt e f = f v := by subst h; rfl
theorem lt_all {α ρ : Type} {e : α} {f : α → Option ρ} {r : Option ρ} (h : ∀ x, e = x → f x = r) : lt e f = r := h e rfl
theorem bnd {α ρ : Type} {x : Option α} {f : α → Option ρ} {r : ρ} (h : x.bind f = some r) : ∃ y, x = some y ∧ f y = some r := Option.bind_eq_some_iff.1 h
end
end Go.Proofs.YticnjkdaccacaaaGreatDoor.Sx
end
section
/- Memory as a list of things that lie apart. -/
namespace Go.Proofs.YticnjkdaccacaaaGreatDoor.Sx
open Go Go.RowKit Base Own

/-- A thing in memory, with the blocks that it is in. -/
structure Asn where
  holds : World → Nat → (Nat → Prop) → Prop
  keep : ∀ {w w' : World} {B : Nat} {F G : Nat → Prop}, holds w B F → Chg G w w' → (∀ k, F k → ¬ G k) → (∀ k, k < B → ¬ G k) → holds w' B F
  dom : ∀ {w : World} {B : Nat} {F : Nat → Prop}, holds w B F → ∀ k, F k → B ≤ k ∧ k < w.heap.size
def SatF (w : World) (B : Nat) : (Nat → Prop) → List Asn → Prop
  | _, [] => True
  | U, A :: L => ∃ F, A.holds w B F ∧ (∀ k, F k → ¬ U k) ∧ SatF w B (fun k => U k ∨ F k) L
structure Sat (w0 w : World) (L : List Asn) : Prop where
  below : Below w0.heap.size w0 w
  parts : SatF w w0.heap.size (fun _ => False) L
section
variable {w0 w w' : World} {B : Nat} {U V : Nat → Prop} {A A' : Asn} {L M X Y : List Asn}
theorem SatF.weak : ∀ {L : List Asn} {U V : Nat → Prop}, SatF w B U L → (∀ k, V k → U k) → SatF w B V L := by
  intro L
  induction L with
  | nil => intro _ _ _ _; trivial
  | cons A L ih =>
    rintro U V ⟨F, h1, h2, h3⟩ hv
    exact ⟨F, h1, fun k hk hv' => h2 k hk (hv k hv'), ih h3 fun k hk => hk.imp (hv k) id⟩
theorem SatF.swap {A A' : Asn} (h : SatF w B U (A :: A' :: L)) : SatF w B U (A' :: A :: L) := by
  obtain ⟨F, h1, h2, F', h3, h4, h5⟩ := h
  exact ⟨F', h3, fun k hk hu => h4 k hk (.inl hu), F, h1, fun k hk hu => hu.elim (h2 k hk) (fun hf => h4 k hf (.inr hk)), h5.weak fun k hk => by
    rcases hk with (h | h) | h
    · exact .inl (.inl h)
    · exact .inr h
    · exact .inl (.inr h)⟩
theorem SatF.front : ∀ {X : List Asn} {U : Nat → Prop}, SatF w B U (X ++ A :: Y) → SatF w B U (A :: (X ++ Y)) := by
  intro X
  induction X with
  | nil => intro U h; exact h
  | cons C X ih =>
    rintro U ⟨F, h1, h2, h3⟩
    exact SatF.swap ⟨F, h1, h2, ih h3⟩
/-- The thing number i stands first. -/
theorem Sat.front (X : List Asn) {A : Asn} {Y : List Asn} (h : Sat w0 w (X ++ A :: Y)) : Sat w0 w (A :: (X ++ Y)) := ⟨h.below, h.parts.front⟩
theorem Sat.tl (h : Sat w0 w (A :: L)) : Sat w0 w L := by
  obtain ⟨F, _, _, h3⟩ := h.parts
  exact ⟨h.below, h3.weak fun _ hk => hk.elim⟩
theorem SatF.kept {G : Nat → Prop} (hc : Chg G w w') (hB : ∀ k, k < B → ¬ G k) : ∀ {L : List Asn} {U : Nat → Prop}, (∀ k, G k → U k) → SatF w B U L → SatF w' B U L := by
  intro L
  induction L with
  | nil => intro _ _ _; trivial
  | cons A L ih =>
    rintro U hG ⟨F, h1, h2, h3⟩
    exact ⟨F, A.keep h1 hc (fun k hk hg => h2 k hk (hG k hg)) hB, h2, ih (fun k hk => .inl (hG k hk)) h3⟩
theorem Sat.start (w : World) : Sat w w [] := ⟨Below.refl _ _, trivial⟩
theorem SatF.keptU {G : Nat → Prop} (hc : Chg G w w') (hB : ∀ k, k < B → ¬ G k) (h0 : ∀ k, k < w.heap.size → ¬ G k) : ∀ {L : List Asn} {U : Nat → Prop}, SatF w B U L → SatF w' B U L := by
  intro L
  induction L with
  | nil => intro _ _; trivial
  | cons A L ih =>
    rintro U ⟨F, h1, h2, h3⟩
    exact ⟨F, A.keep h1 hc (fun k hk hg => h0 k (A.dom h1 k hk).2 hg) hB, h2, ih h3⟩
theorem Sat.new (h : Sat w0 w L) (hb : Below w.heap.size w w') : Sat w0 w' L :=
  ⟨h.below.trans (below_weak h.below.size hb), h.parts.keptU (Chg.of_new hb) (fun _ _ h => h) (fun _ _ h => h)⟩
theorem Sat.drew (h : Sat w0 w L) : Sat w0 w.drew L := h.new (Below.refl _ _).drew
theorem Sat.alloc (h : Sat w0 w L) (o : Obj) : Sat w0 (w.alloc o) L := h.new ((Below.refl _ _).alloc (Nat.le_refl _) o)
theorem Sat.lower (h : Sat w w' L) (h0 : Below w0.heap.size w0 w) (hd : ∀ A ∈ L, ∀ F, A.holds w' w.heap.size F → A.holds w' w0.heap.size F) : Sat w0 w' L := by
  refine ⟨h0.trans (below_weak h0.size h.below), ?_⟩
  have key : ∀ {L : List Asn} {U : Nat → Prop}, (∀ A ∈ L, ∀ F, A.holds w' w.heap.size F → A.holds w' w0.heap.size F) → SatF w' w.heap.size U L → SatF w' w0.heap.size U L := by
    intro L
    induction L with
    | nil => intro _ _ _; trivial
    | cons A L ih =>
      rintro U hd ⟨F, h1, h2, h3⟩
      exact ⟨F, hd A (List.mem_cons_self) F h1, h2, ih (fun A hA => hd A (List.mem_cons_of_mem _ hA)) h3⟩
  exact key hd h.parts
/-- Something new. -/
theorem Sat.add {F : Nat → Prop} (h : Sat w0 w L) (hb : Below w.heap.size w w') (hA : A.holds w' w0.heap.size F) (hF : ∀ k, F k → w.heap.size ≤ k) : Sat w0 w' (A :: L) := by
  have h2 := h.new hb
  refine ⟨h2.below, F, hA, fun _ _ h => h, ?_⟩
  have key : ∀ {L : List Asn} {U : Nat → Prop}, SatF w w0.heap.size U L → SatF w' w0.heap.size (fun k => U k ∨ F k) L := by
    intro L
    induction L with
    | nil => intro _ _; trivial
    | cons C L ih =>
      rintro U ⟨G, h1, h2, h3⟩
      refine ⟨G, C.keep h1 (Chg.of_new hb) (fun _ _ h => h) (fun _ _ h => h), fun k hk hu => ?_, (ih h3).weak fun k hk => ?_⟩
      · rcases hu with hu | hu
        · exact h2 k hk hu
        · have := (C.dom h1 k hk).2; have := hF k hu; omega
      · rcases hk with (h | h) | h
        · exact .inl (.inl h)
        · exact .inr h
        · exact .inl (.inr h)
  exact key h.parts
/-- The first thing changes. -/
theorem Sat.opened (h : Sat w0 w (A :: L)) : ∃ F, A.holds w w0.heap.size F ∧ (∀ k, F k → w0.heap.size ≤ k ∧ k < w.heap.size) ∧
    ∀ {A' : Asn} {w' : World} {F' G : Nat → Prop}, A'.holds w' w0.heap.size F' → Chg G w w' → (∀ k, k < w.heap.size → G k → F k) → (∀ k, F' k → F k ∨ w.heap.size ≤ k) → Sat w0 w' (A' :: L) := by
  obtain ⟨F, h1, h2, h3⟩ := h.parts
  refine ⟨F, h1, A.dom h1, fun {A' w' F' G} hA' hc hG hF' => ?_⟩
  have hc' : Chg F w w' := hc.mono hG
  have hB : ∀ k, k < w0.heap.size → ¬ F k := fun k hk hf => by have := (A.dom h1 k hf).1; omega
  refine ⟨hc'.below h.below h.below.size (fun k hk => (A.dom h1 k hk).1), F', hA', fun _ _ h => h, ?_⟩
  have key : ∀ {L : List Asn} {U : Nat → Prop}, (∀ k, F k → U k) → SatF w w0.heap.size U L → SatF w' w0.heap.size (fun k => U k ∨ F' k) L := by
    intro L
    induction L with
    | nil => intro _ _ _; trivial
    | cons C L ih =>
      rintro U hU ⟨H, h1, h2, h3⟩
      refine ⟨H, C.keep h1 hc' (fun k hk hf => h2 k hk (hU k hf)) hB, fun k hk hu => ?_, (ih (fun k hk => .inl (hU k hk)) h3).weak fun k hk => ?_⟩
      · rcases hu with hu | hu
        · exact h2 k hk hu
        · rcases hF' k hu with h | h
          · exact h2 k hk (hU k h)
          · have := (C.dom h1 k hk).2; omega
      · rcases hk with (h | h) | h
        · exact .inl (.inl h)
        · exact .inr h
        · exact .inl (.inr h)
  exact (key (U := fun k => False ∨ F k) (fun k hk => .inr hk) h3).weak fun k hk => hk.elim (fun h => h.elim) .inr
theorem erase_split : ∀ {L : List Asn} {i : Nat}, L[i]? = some A → L = L.take i ++ A :: L.drop (i + 1) ∧ L.eraseIdx i = L.take i ++ L.drop (i + 1) := by
  intro L
  induction L with
  | nil => intro i h; simp at h
  | cons C L ih =>
    intro i h
    cases i with
    | zero => simp at h; subst h; exact ⟨rfl, rfl⟩
    | succ i =>
      obtain ⟨h1, h2⟩ := ih (by simpa using h)
      exact ⟨by simp only [List.take_succ_cons, List.drop_succ_cons, List.cons_append]; rw [← h1], by simp [h2]⟩
theorem Sat.frontAt (h : Sat w0 w L) (i : Nat) (hi : L[i]? = some A) : Sat w0 w (A :: L.eraseIdx i) := by
  obtain ⟨h1, h2⟩ := erase_split hi
  rw [h2]
  rw [h1] at h
  exact h.front _
def maskL : List Bool → List Asn → List Asn
  | [], L => L
  | _ :: _, [] => []
  | true :: m, A :: L => A :: maskL m L
  | false :: m, _ :: L => maskL m L
theorem Sat.mask (h : Sat w0 w L) (m : List Bool) : Sat w0 w (maskL m L) := by
  refine ⟨h.below, ?_⟩
  have key : ∀ {m : List Bool} {L : List Asn} {U : Nat → Prop}, SatF w w0.heap.size U L → SatF w w0.heap.size U (maskL m L) := by
    intro m
    induction m with
    | nil => intro L U h; exact h
    | cons b m ih =>
      intro L U h
      cases L with
      | nil => trivial
      | cons A L =>
        obtain ⟨F, h1, h2, h3⟩ := h
        cases b with
        | true => exact ⟨F, h1, h2, ih h3⟩
        | false => exact ih (h3.weak fun k hk => .inl hk)
  exact key h.parts
/-- What a call made for itself joins the rest. -/
theorem Sat.join {w1 : World} {M : List Asn} (h : Sat w0 w L) (h2 : Sat w w1 M) (hd : ∀ A ∈ M, ∀ F, A.holds w1 w.heap.size F → A.holds w1 w0.heap.size F) : Sat w0 w1 (M ++ L) := by
  have h3 := h.new h2.below
  refine ⟨h3.below, ?_⟩
  have key : ∀ {M : List Asn} {U : Nat → Prop}, (∀ A ∈ M, ∀ F, A.holds w1 w.heap.size F → A.holds w1 w0.heap.size F) → (∀ k, U k → w.heap.size ≤ k) → SatF w1 w.heap.size U M → SatF w1 w0.heap.size U (M ++ L) := by
    intro M
    induction M with
    | nil =>
      intro U _ hU _
      have : ∀ {L : List Asn} {U V : Nat → Prop}, (∀ k, U k → w.heap.size ≤ k) → SatF w w0.heap.size V L → SatF w1 w0.heap.size (fun k => U k ∨ V k) L := by
        intro L
        induction L with
        | nil => intro _ _ _ _; trivial
        | cons C L ih =>
          rintro U V hU ⟨G, g1, g2, g3⟩
          refine ⟨G, C.keep g1 (Chg.of_new h2.below) (fun _ _ h => h) (fun _ _ h => h), fun k hk hu => ?_, (ih hU g3).weak fun k hk => ?_⟩
          · rcases hu with hu | hu
            · have := (C.dom g1 k hk).2; have := hU k hu; omega
            · exact g2 k hk hu
          · rcases hk with (h | h) | h
            · exact .inl h
            · exact .inr (.inl h)
            · exact .inr (.inr h)
      exact (this hU h.parts).weak fun k hk => .inl hk
    | cons A M ih =>
      rintro U hd hU ⟨F, h1, h2, h3⟩
      exact ⟨F, hd A (List.mem_cons_self) F h1, h2, ih (fun A hA => hd A (List.mem_cons_of_mem _ hA)) (fun k hk => hk.elim (hU k) fun hf => (A.dom h1 k hf).1) h3⟩
  exact key hd (fun _ h => h.elim) h2.parts
theorem Sat.hd (h : Sat w0 w (A :: L)) : ∃ F, A.holds w w0.heap.size F := by
  obtain ⟨F, h1, _⟩ := h.parts
  exact ⟨F, h1⟩
end

/-! ### Rows of whole numbers -/
/-- What a slice reads as, and that its numbers are of its kind. -/
structure Rk (k : IntKind) (w : World) (A : Option Addr) (l : List Int) : Prop where
  rd : Rd k w A l
  wf : ∀ z ∈ l, (Lit.int k z).wf = true
section
variable {k : IntKind} {w w0 w' : World} {A : Option Addr} {l : List Int}
theorem Rk.below (h : Rk k w A l) (hb : Below w.heap.size w w') : Rk k w' A l := ⟨h.rd.below hb, h.wf⟩
theorem Rk.at {L : List Asn} (h : Rk k w0 A l) (S : Sat w0 w L) : Rk k w A l := h.below S.below
theorem Rk.take (h : Rk k w A l) (n : Nat) : Rk k w A (l.take n) := ⟨h.rd.take n, fun z hz => h.wf z (List.mem_of_mem_take hz)⟩
theorem Rk.drop (h : Rk k w A l) {n c : Nat} (hc : l.length ≤ c) : Rk k w (dropA A c n) (l.drop n) := ⟨h.rd.drop hc, fun z hz => h.wf z (List.mem_of_mem_drop hz)⟩
theorem Rk.nil : Rk k w A [] := ⟨Rd.nil, fun z hz => by cases hz⟩
theorem Rk.bytes (h : Rk .u8 w A l) : ∀ z ∈ l, 0 ≤ z ∧ z < 256 := fun z hz => by
  have := h.wf z hz
  rw [wf_int] at this
  have h1 : IntKind.u8.min = 0 := by decide
  have h2 : IntKind.u8.max = 255 := by decide
  omega
/-- A row of the call's own. -/
def ownA (k : IntKind) (e : TypeId) (A : Option Addr) (c : Nat) (l : List Int) : Asn where
  holds := fun w B F => OwnI k w B e (.slice A l.length c) l ∧ (∀ z ∈ l, (Lit.int k z).wf = true) ∧ ∀ g, F g ↔ (Value.slice A l.length c).ownBlock = some g
  keep := fun ⟨h1, h2, h3⟩ hc hF _ => ⟨h1.kept hc fun g hg => hF g ((h3 g).2 hg), h2, h3⟩
  dom := fun ⟨h1, _, h3⟩ g hg => h1.lt g ((h3 g).1 hg)
variable {e : TypeId} {c : Nat} {R : List Asn}
theorem Sat.own (S : Sat w0 w (ownA k e A c l :: R)) : Rk k w A l ∧ l.length ≤ c ∧ c ≤ maxLen := by
  obtain ⟨F, h1, h2, _⟩ := S.hd
  obtain ⟨A', c', e', h3, h4, h5, _⟩ := h1.slice
  injection e' with e1 e2 e3
  subst e1 e3
  exact ⟨⟨h5, h2⟩, h3, h4⟩
theorem Sat.ownAt {L : List Asn} (S : Sat w0 w L) (i : Nat) (hi : L[i]? = some (ownA k e A c l)) : Rk k w A l := (S.frontAt i hi).own.1
theorem own_lower {w : World} {B B' : Nat} (hB : B' ≤ B) : ∀ F, (ownA k e A c l).holds w B F → (ownA k e A c l).holds w B' F := fun _ ⟨h1, h2, h3⟩ => ⟨h1.lower hB, h2, h3⟩
theorem Sat.nilRow (k : IntKind) (e : TypeId) (S : Sat w0 w R) : Sat w0 w (ownA k e none 0 [] :: R) :=
  S.add (F := fun _ => False) (Below.refl _ _) ⟨OwnI.nil k w _ e, fun z hz => (by cases hz), fun g => by simp [Value.ownBlock]⟩ fun _ h => h.elim
/-- A row that a call made. -/
theorem Sat.row {v : Value} (S : Sat w0 w R) (hb : Below w.heap.size w w') (h : OwnI k w' w.heap.size e v l) (hwf : ∀ z ∈ l, (Lit.int k z).wf = true) : ∃ A c, v = .slice A l.length c ∧ vok (.slice A l.length c) = true ∧ Sat w0 w' (ownA k e A c l :: R) := by
  obtain ⟨A, c, rfl, h1, h2, _, _⟩ := h.slice
  refine ⟨A, c, rfl, by simp [vok, vokC, vok1, h1, h2], S.add (F := fun g => (Value.slice A l.length c).ownBlock = some g) hb ⟨h.lower S.below.size, hwf, fun g => Iff.rfl⟩ fun g hg => (h.lt g hg).1⟩
end
section
variable {P : Program} {T : Orc} {ops : Array Oper} {Q : Exit → Act → World → Prop} {Df : List Deferred} {N : Nat} {a : Act} {w w0 : World} {L : Env} {k : IntKind}
theorem indexAddr_run (hT : T.Ok P) (fr : FrD Df N a L) {o : Oper} {t : TypeId} {x ix : Operand} (ho : o.op = .indexAddr t x ix) {A : Addr} {n c : Nat} {e s : Nat} {ki : IntKind} {i : Int} (hx : ev L x = some (.slice (some A) n c)) (hi : ev L ix = some (.int ki i))
    (ht : T.ty.lookup t = some (.slice e)) (hs : T.sz.lookup e = some s) (h0 : 0 ≤ i) (hlt : i < n) (w : World) : (execOp a.eval o).run P w = .ok (.value (.pointer (some (A.add (i.toNat * s))))) w := by
  unfold execOp
  simp only [ho, (fr.ev hx).1, (fr.ev hi).1, Instr.indexAt, asIntOf]
  simp [run_underlying (hT.und ht), size_run hT hs, h0, hlt]
theorem load_run (hT : T.Ok P) (fr : FrD Df N a L) {o : Oper} {t : TypeId} {x : Operand} (ho : o.op = .load t x) {A : Addr} {v : Value} {d : TypeDesc} (hx : ev L x = some (.pointer (some A))) (ht : T.ty.lookup t = some d) (hd : aggD d = false) (hc : w.cell? A = some v) : (execOp a.eval o).run P w = .ok (.value v) w := by
  unfold execOp
  simp only [ho, (fr.ev hx).1, Instr.loadAt, Instr.sureAddr, loadVar]
  simp [isAgg_run (hT.und ht), hd, run_load, hc]
theorem FrD.skip {d : Nat} {v : Value} (fr : FrD Df N a ((d, v) :: L)) (h : L.lookup d = none) : FrD Df N a L := ⟨fr.size, fr.defers, fun e u he => fr.get e u (by
  rw [lookup_cons]
  by_cases hd : e = d
  · subst hd; rw [h] at he; cases he
  · rw [if_neg hd]; exact he)⟩
/-- An element of a slice of whole numbers. -/
theorem wl_ld (hT : T.Ok P) {o1 o2 : Oper} {rest : List Oper} {t te : TypeId} {x ix : Operand} {d1 d2 : Nat} {A : Option Addr} {l : List Int} {n c e : Nat} {ki : IntKind} {i : Int} {de : TypeDesc}
    (hr : Rk k w A l) (fr : FrD Df N a L) (hw : wantL ops L o1 = some true) (ho1 : o1.op = .indexAddr t x ix) (hd1 : o1.dst = some d1) (hw2 : wantL ops L o2 = some true) (ho2 : o2.op = .load te (.tmp d1)) (hd2 : o2.dst = some d2) (hl1 : Nat.blt d1 N = true) (hl2 : Nat.blt d2 N = true)
    (hx : ev L x = some (.slice A n c)) (hi : ev L ix = some (.int ki i)) (ht : T.ty.lookup t = some (.slice e)) (hs : T.sz.lookup e = some 1) (hte : T.ty.lookup te = some de) (hde : aggD de = false) (hn : n = l.length) (hf : L.lookup d1 = none) (hb : 0 ≤ i ∧ i < (l.length : Int))
    (h : ∀ a', FrD Df N a' ((d2, .int k (l.getD i.toNat 0)) :: L) → wpList P ops Q rest a' w) : wpList P ops Q (o1 :: o2 :: rest) a w := by
  subst hn
  obtain ⟨j, rfl⟩ : ∃ j : Nat, i = j := ⟨i.toNat, by omega⟩
  have hj : j < l.length := by omega
  obtain ⟨ad, rfl, -, hc⟩ := hr.rd.cell hj
  refine wl_val fr hw hd1 hl1 (indexAddr_run hT fr ho1 hx hi ht hs (by omega) hb.2 w) rfl fun a1 fr1 => ?_
  have hw3 : wantL ops ((d1, .pointer (some (ad.add ((j : Int).toNat * 1)))) :: L) o2 = some true := by
    have hk := hw2
    unfold wantL at hk ⊢
    split at hk
    · exact hk
    · rename_i j' want hg'
      split at hk
      · rename_i t' ht'
        split at hk
        · rename_i b hb'
          have hne : t' ≠ d1 := fun e => by subst e; rw [hf] at hb'; cases hb'
          rw [lookup_cons, if_neg hne, hb']; exact hk
        · cases hk
        · cases hk
      · cases hk
  refine wl_val (v := .int k (l.getD j 0)) fr1 hw3 hd2 hl2 (load_run hT fr1 ho2 (by show ((d1, _) :: L).lookup d1 = _; rw [lookup_cons, if_pos rfl]) hte hde (by rw [Int.toNat_natCast, Nat.mul_one]; exact hc)) ?_ fun a2 fr2 => h a2 ?_
  · have hm : l.getD j 0 ∈ l := by rw [List.getD_eq_getElem?_getD, List.getElem?_eq_getElem hj]; exact List.getElem_mem hj
    exact hr.wf _ hm
  · refine ⟨fr2.size, fr2.defers, fun e u he => fr2.get e u ?_⟩
    rw [lookup_cons] at he ⊢
    by_cases h1 : e = d2
    · rw [if_pos h1] at he ⊢; rw [Int.toNat_natCast] at he; exact he
    · rw [if_neg h1] at he ⊢
      rw [lookup_cons]
      by_cases h2 : e = d1
      · subst h2; rw [hf] at he; cases he
      · rw [if_neg h2]; exact he
end
theorem ite_h {ρ : Type} {c : Prop} [Decidable c] {E1 E2 : Option ρ} {r : ρ} {G : Prop} (h : (if c then E1 else E2) = some r) (h1 : c → E1 = some r → G) (h2 : ¬ c → E2 = some r → G) : G := by
  by_cases hc : c
  · rw [if_pos hc] at h; exact h1 hc h
  · rw [if_neg hc] at h; exact h2 hc h
end Go.Proofs.YticnjkdaccacaaaGreatDoor.Sx
end
section
/- Own rows of elements of more cells than one. -/
namespace Go.Proofs.YticnjkdaccacaaaGreatDoor.OwnV
open Go Go.RowKit Base Own

def RowV (w : World) (B : Nat) (e : TypeId) (z : Nat) (v : Value) (n : Nat) (xs : List Value) : Prop := w.ownsRow B e z v n xs
section
variable {w w' : World} {B : Nat} {e : TypeId} {z : Nat} {v : Value} {n : Nat} {xs : List Value}
theorem RowV.nil (w : World) (B : Nat) (e : TypeId) (z : Nat) : RowV w B e z (.slice none 0 0) 0 [] := ⟨by simp, .inl ⟨rfl, rfl⟩⟩
theorem RowV.len (h : RowV w B e z v n xs) : xs.length = n * z := h.1
theorem RowV.slice (h : RowV w B e z v n xs) : ∃ A c, v = .slice A n c ∧ n ≤ c ∧ c ≤ maxLen ∧ (A = none → n = 0) ∧ ∀ ad, A = some ad → ∃ g, ad = ⟨g, 0, none⟩ ∧ B ≤ g ∧ g < w.heap.size ∧ w.rangeAt g 0 xs ∧ w.there g 0 (n * z) := by
  rcases h.2 with ⟨rfl, rfl⟩ | ⟨g, cap, cur, rfl, hB, hg, h1, h2, h3, h4⟩
  · exact ⟨none, 0, rfl, Nat.le_refl _, Nat.zero_le _, fun _ => rfl, fun ad e => by cases e⟩
  · refine ⟨some ⟨g, 0, none⟩, cap, rfl, h1, h2, fun e => absurd e (by simp), fun ad e => ?_⟩
    injection e with e; subst e
    have hsz : n * z ≤ cur.size := by rw [h3]; exact Nat.mul_le_mul_right _ h1
    refine ⟨g, rfl, hB, (Array.getElem?_eq_some_iff.1 hg).1, fun j u hj => ?_, fun j hj => ⟨?_, ?_⟩⟩
    · rw [Nat.zero_add, cell_of_row _ _ _ _ _ _ hg]
      rw [← h4, List.getElem?_take] at hj
      split at hj
      · rw [← hj]; simp
      · cases hj
    · rw [Nat.zero_add, cell_of_row _ _ _ _ _ _ hg, Array.getElem?_eq_getElem (by omega)]; rfl
    · rw [Nat.zero_add]; exact frozen_of_row _ _ _ _ _ hg
theorem RowV.kept {F : Nat → Prop} (h : RowV w B e z v n xs) (hc : Chg F w w') (hF : ∀ g, v.ownBlock = some g → ¬ F g) : RowV w' B e z v n xs := by
  refine ⟨h.1, ?_⟩
  rcases h.2 with hn | ⟨g, cap, cur, rfl, hb, hgg, rest⟩
  · exact .inl hn
  · refine .inr ⟨g, cap, cur, rfl, hb, ?_, rest⟩
    rw [hc.block g (Array.getElem?_eq_some_iff.1 hgg).1 (hF g rfl)]
    exact hgg
theorem RowV.new (h : RowV w B e z v n xs) (hb : Below w.heap.size w w') : RowV w' B e z v n xs := h.kept (Chg.of_new hb) (fun _ _ hf => hf)
theorem RowV.alloc (h : RowV w B e z v n xs) (o : Obj) : RowV (w.alloc o) B e z v n xs := h.kept (Chg.alloc w o) (fun _ _ hf => hf)
theorem RowV.lower {B' : Nat} (h : RowV w B e z v n xs) (hB : B' ≤ B) : RowV w B' e z v n xs := by
  refine ⟨h.1, ?_⟩
  rcases h.2 with hn | ⟨g, cap, cur, rfl, hb, rest⟩
  · exact .inl hn
  · exact .inr ⟨g, cap, cur, rfl, Nat.le_trans hB hb, rest⟩
theorem RowV.lt (h : RowV w B e z v n xs) : ∀ g, v.ownBlock = some g → B ≤ g ∧ g < w.heap.size := World.ownsRow.lt h
/-- A block that was just laid. -/
theorem RowV.made (w : World) (e : TypeId) (z n : Nat) (cs : Array Value) (hB : B ≤ w.heap.size) (hl : cs.size = n * z) (hn : n ≤ maxLen) :
    RowV (w.alloc (.cells cs e)) B e z (.slice (some ⟨w.heap.size, 0, none⟩) n n) n cs.toList := by
  refine ⟨by simp [hl], .inr ⟨_, _, cs, rfl, hB, heap_alloc_new _ _, Nat.le_refl _, hn, hl, ?_⟩⟩
  exact List.take_of_length_le (by simp [hl])
theorem splice_get {α : Type} (L : List α) (o : Nat) (vs : List α) (h : o + vs.length ≤ L.length) (k : Nat) : (splice L o vs)[k]? = if o ≤ k ∧ k < o + vs.length then vs[k - o]? else L[k]? := by
  unfold splice
  rw [List.getElem?_append, List.length_take, show min o L.length = o by omega]
  by_cases h1 : k < o
  · rw [if_pos h1, if_neg (by omega), List.getElem?_take, if_pos h1]
  · rw [if_neg h1, List.getElem?_append]
    by_cases h2 : k - o < vs.length
    · rw [if_pos h2, if_pos (by omega)]
    · rw [if_neg h2, if_neg (by omega), List.getElem?_drop]
      congr 1; omega
theorem heap_setCells (b : Nat) : ∀ (vs : List Value) (o : Nat) (w : World) (cur : Array Value) (t : TypeId), w.heap[b]? = some (.cells cur t (0, 0)) → o + vs.length ≤ cur.size →
    (w.setCells b o vs).heap[b]? = some (.cells (splice cur.toList o vs).toArray t (0, 0)) := by
  intro vs
  induction vs with
  | nil => intro o w cur t hg _; simpa [World.setCells, splice] using hg
  | cons u vs ih =>
    intro o w cur t hg hl
    simp only [List.length_cons] at hl
    have h1 := heap_setCell_same w b o cur t u hg
    have h2 := ih (o + 1) (w.setCell ⟨b, o, none⟩ u) (cur.setIfInBounds o u) t h1 (by simp; omega)
    show ((w.setCell ⟨b, o, none⟩ u).setCells b (o + 1) vs).heap[b]? = _
    rw [h2]
    congr 3
    rw [Array.toList_setIfInBounds]
    apply List.ext_getElem?
    intro k
    rw [splice_get _ _ _ (by simp; omega), splice_get _ _ _ (by simp; omega), List.length_cons, List.getElem?_set]
    by_cases h3 : k = o
    · subst h3
      rw [if_neg (by omega), if_pos rfl, if_pos (by simp; omega), if_pos (by omega)]; simp
    · by_cases h4 : o + 1 ≤ k ∧ k < o + 1 + vs.length
      · rw [if_pos h4, if_pos (by omega), show k - o = (k - (o + 1)) + 1 by omega, List.getElem?_cons_succ]
      · rw [if_neg h4, if_neg (fun h => h3 h.symm), if_neg (by omega)]
theorem chg_setCells (b : Nat) : ∀ (vs : List Value) (o : Nat) (w : World), Chg (fun k => k = b) w (w.setCells b o vs) := by
  intro vs
  induction vs with
  | nil => intro o w; exact Chg.refl _ _
  | cons u vs ih => intro o w; exact (Chg.setCell w ⟨b, o, none⟩ u).trans (ih (o + 1) _) (fun _ _ h => h)
/-- Some cells are written over. -/
theorem RowV.set {g c : Nat} (h : RowV w B e z (.slice (some ⟨g, 0, none⟩) n c) n xs) (o : Nat) (vs : List Value) (ho : o + vs.length ≤ n * z) :
    RowV (w.setCells g o vs) B e z (.slice (some ⟨g, 0, none⟩) n c) n (splice xs o vs) := by
  rcases h.2 with ⟨h1, _⟩ | ⟨g', cap, cur, h1, hB, hg, h2, h3, h4, h5⟩
  · cases h1
  · injection h1 with h1 h6 h7
    injection h1 with h1
    injection h1 with h1
    subst h1 h7
    have hx : xs.length = n * z := h.1
    have hsz : n * z ≤ cur.size := by rw [h4]; exact Nat.mul_le_mul_right _ h2
    refine ⟨by rw [length_splice _ _ _ (by rw [hx]; exact ho), hx], .inr ⟨g, c, _, rfl, hB, heap_setCells g vs o w cur e hg (by omega), h2, h3, ?_, ?_⟩⟩
    · rw [List.size_toArray, length_splice _ _ _ (by simp; omega)]; simpa using h4
    · rw [← h5]
      apply List.ext_getElem?
      intro k
      rw [List.getElem?_take, splice_get _ _ _ (by simp; omega), splice_get _ _ _ (by rw [List.length_take]; simp; omega), List.getElem?_take]
      split <;> split <;> first | rfl | omega
end
theorem exec_load_mid {P : Program} {a : Act} {w : World} {N : Option Tmp} {tt : TypeId} (ty : TypeId) (x : Operand) (b o : Nat) (hx : a.eval x = .pointer (some ⟨b, o, none⟩)) (cs : List Value) (d : TypeDesc) (hc : w.rangeAt b o cs)
    (hu : P.underlying ty = some d) (hd : d.isRow = true) (hi : (P.info? ty).map (·.size) = some cs.length) : (execOp a.eval ⟨N, .load ty x, tt, "", #[], none⟩).run P w = .ok (.value (.agg cs.toArray)) w := by
  unfold execOp
  simp only [hx, Instr.loadAt, Instr.sureAddr, Sem.run_bind, Sem.run_pure, Result.andThen_ok, run_loadVar_mid w b o ty cs d hc hu hd hi]
theorem fold_splice : ∀ (vs : List Value) (k off : Nat) (cs : Array Value), off + k + vs.length ≤ cs.size →
    ((vs.zipIdx k).foldl (fun cs (x : Value × Nat) => cs.setIfInBounds (off + x.2) x.1) cs).toList = splice cs.toList (off + k) vs := by
  intro vs
  induction vs with
  | nil => intro k off cs _; simp [splice]
  | cons v vs ih =>
    intro k off cs h
    simp only [List.length_cons] at h
    rw [List.zipIdx_cons, List.foldl_cons, ih (k + 1) off _ (by simp; omega)]
    apply List.ext_getElem?
    intro j
    rw [Array.toList_setIfInBounds, splice_get _ _ _ (by simp; omega), splice_get _ _ _ (by simp; omega), List.length_cons, List.getElem?_set]
    by_cases h3 : j = off + k
    · subst h3
      rw [if_neg (by omega), if_pos rfl, if_pos (by simp; omega), if_pos (by omega)]; simp
    · by_cases h4 : off + (k + 1) ≤ j ∧ j < off + (k + 1) + vs.length
      · rw [if_pos h4, if_pos (by omega), show j - (off + k) = (j - (off + (k + 1))) + 1 by omega, List.getElem?_cons_succ]
      · rw [if_neg h4, if_neg (fun h => h3 h.symm), if_neg (by omega)]
theorem fill_step (place : Nat → Option (Nat × Nat)) (cells : Array Value) (i off size : Nat) (v : Value) (rest : List (Nat × Value)) (hp : place i = some (off, size)) (hv : v.cells.size = size) (hf : off + size ≤ cells.size) :
    Instr.fill place cells ((i, v) :: rest) = Instr.fill place (splice cells.toList off v.cells.toList).toArray rest := by
  rw [Instr.fill, hp]
  simp only
  rw [if_neg (by simp; omega)]
  congr 1
  apply Array.toList_inj.1
  rw [← Array.foldl_toList, Array.toList_zipIdx, fold_splice _ _ _ _ (by simp; omega)]
  rfl
theorem fill_all (cells c : Array Value) (s : Nat) (hc : c.size = s) (hs : cells.size = s) : Instr.fill (fun i => some (i * s, s)) cells [(0, .agg c)] = some c := by
  rw [fill_step _ _ 0 0 s _ _ (by simp) (by simpa [Value.cells] using hc) (by omega), Instr.fill]
  congr 1
  apply Array.toList_inj.1
  simp only [splice, Value.cells]
  rw [List.take_zero, List.nil_append, List.drop_eq_nil_of_le (by simp; omega)]
  simp
theorem exec_build {P : Program} {a : Act} {w : World} {N : Option Tmp} {tt : TypeId} (t : TypeId) (parts : Array (Nat × Operand)) (cells : Array Value) (h : P.built t (parts.map fun (i, x) => (i, a.eval x)).toList = some cells) :
    (execOp a.eval ⟨N, .build t parts, tt, "", #[], none⟩).run P w = .ok (.value (.agg cells)) w := by
  unfold execOp
  simp only [Sem.run_bind, run_build w t _ cells h, Result.andThen_ok]
  rfl
/-- A slice of one element that is a struct or an array. -/
theorem one_slice {P : Program} {o : Oper} {a : Act} {w : World} {K : Act → World → Prop} {Q : Exit → Act → World → Prop} (t e : TypeId) (x : Operand) (ho : o.op = .buildSlice t 1 #[(0, x)]) (c : Array Value) (s : Nat) (hx : a.eval x = .agg c) (hc : c.size = s)
    (hu : P.underlying t = some (.slice e)) (hi : (P.info? e).map (fun i => (i.zero.isSome, i.size)) = some (true, s)) (h0 : 0 < s) (h1 : s ≤ 16777216)
    (h : K (a.put o.dst (.slice (some ⟨w.heap.size, 0, none⟩) 1 1)) (w.alloc (.cells c e))) : o.wp P a w K Q := by
  obtain ⟨ie, hie, hzz⟩ := Option.map_eq_some_iff.1 hi
  simp only [Prod.mk.injEq] at hzz
  obtain ⟨z, hz⟩ := Option.isSome_iff_exists.1 hzz.1
  refine wp_buildSlice t e 1 _ ho c ie z hu hie hz (by rw [hzz.2]; omega) (by rw [hzz.2]; omega) ?_ h
  rw [hzz.2]
  simp only [List.map_toArray, List.map_cons, List.map_nil, hx]
  exact fill_all _ c s hc (by simp)
/-- append of elements of any size to an own row. -/
theorem apv_wp {P : Program} {B : Nat} {w : World} {e : TypeId} {z bytes : Nat} {v : Value} {n : Nat} {xs : List Value} {K : Act → World → Prop} {Q : Exit → Act → World → Prop} {o : Oper} {a : Act} {t : TypeId}
    (ht : P.underlying t = some (.slice e)) (hinfo : (P.info? e).map (fun i => (i.zero.map (·.cells.size), i.size, i.bytes)) = some (some z, z, bytes)) (hz0 : 0 < z) (hown : RowV w B e z v n xs) (hbase : B ≤ w.heap.size)
    (ad : Addr) (m c : Nat) (news : List Value) (hl : news.length = m * z) (hnews : ∀ j u, news[j]? = some u → w.cell? (ad.add j) = some u) (h1 : ∀ u ∈ news, u.oneCell' = true) (h63 : n + m ≤ maxLen) (hbytes : (n + m) * bytes ≤ 140737488355328)
    (s x : Operand) (ho : o.op = .call { callee := .builtin .append, args := #[s, x], argTypes := #[t, t] }) (hs : a.eval s = v) (hx : a.eval x = .slice (some ad) m c)
    (h : ∀ v' w', RowV w' B e z v' (n + m) (xs ++ news) → w.grownBy w' v.ownBlock → (v'.ownBlock = v.ownBlock ∨ v'.ownBlock = some w.heap.size) → K (a.put o.dst v') w') : Oper.wp P o a w K Q := by
  obtain ⟨i, hi, hzz⟩ := Option.map_eq_some_iff.1 hinfo
  simp only [Prod.mk.injEq] at hzz
  obtain ⟨hz1, hsz, hby⟩ := hzz
  obtain ⟨z0, hz, hzc⟩ := Option.map_eq_some_iff.1 hz1
  obtain ⟨v', w', hr, h2, h3, _, h5⟩ := run_append_own_at (P := P) w B t o.type e i z0 z bytes ht hi hz hsz hby hzc hz0 v n xs hown ad m c news hl hnews h1 h63 hbytes hbase
  unfold Oper.wp execOp
  simp only [ho, resolve, invoke, builtin, Sem.run_bind, Sem.run_pure, Result.andThen_ok, List.map_toArray, List.map_cons, List.map_nil, hs, hx, hr]
  exact h v' w' h2 h3 h5
theorem exec_one_slice {P : Program} {a : Act} {w : World} {N : Option Tmp} {tt : TypeId} (t e : TypeId) (x : Operand) (c : Array Value) (s : Nat) (hx : a.eval x = .agg c) (hc : c.size = s)
    (hu : P.underlying t = some (.slice e)) (hi : (P.info? e).map (fun i => (i.zero.isSome, i.size)) = some (true, s)) (h0 : 0 < s) (h1 : s ≤ 16777216) :
    (execOp a.eval ⟨N, .buildSlice t 1 #[(0, x)], tt, "", #[], none⟩).run P w = .ok (.value (.slice (some ⟨w.heap.size, 0, none⟩) 1 1)) (w.alloc (.cells c e)) := by
  obtain ⟨ie, hie, hzz⟩ := Option.map_eq_some_iff.1 hi
  simp only [Prod.mk.injEq] at hzz
  obtain ⟨z, hz⟩ := Option.isSome_iff_exists.1 hzz.1
  have hf : Instr.fill (fun i => some (i * ie.size, ie.size)) ((Array.range (1 * ie.size)).map (z.cells[· % z.cells.size]!)) (#[(0, x)].map fun (i, x) => (i, a.eval x)).toList = some c := by
    rw [hzz.2]
    simp only [List.map_toArray, List.map_cons, List.map_nil, hx]
    exact fill_all _ c s hc (by simp)
  unfold execOp
  simp only [Sem.run_bind, run_buildSlice w t e 1 _ c ie z hu hie hz (by rw [hzz.2]; omega) (by rw [hzz.2]; omega) hf, Result.andThen_ok]
  rfl
/-- A load of one cell. -/
theorem exec_load_cell {P : Program} {a : Act} {w : World} {N : Option Tmp} {tt : TypeId} (ty : TypeId) (x : Operand) (ad : Addr) (v : Value) (hx : a.eval x = .pointer (some ad)) (hc : w.cell? ad = some v) (hag : ∀ W, (isAgg ty).run P W = .ok false W) :
    (execOp a.eval ⟨N, .load ty x, tt, "", #[], none⟩).run P w = .ok (.value v) w := by
  unfold execOp
  simp [hx, Instr.loadAt, Instr.sureAddr, loadVar, Sem.run_bind, Sem.run_pure, Result.andThen_ok, hag, run_load, hc]
theorem run_copy_v {P : Program} (w : World) (dT sT ty elem : TypeId) (z b o dLen dCap : Nat) (a : Addr) (sLen sCap n : Nat) (cs : List Value) (hu : P.underlying dT = some (.slice elem)) (hs : (P.info? elem).map (·.size) = some z) (hn : n = Nat.min sLen dLen) (hl : cs.length = n * z)
    (hsrc : ∀ j v, cs[j]? = some v → w.cell? (a.add j) = some v) (hth : w.there b o cs.length) (h1 : ∀ v ∈ cs, v.oneCell' = true) :
    (Builtin.copy_ #[dT, sT] ty #[.slice (some ⟨b, o, none⟩) dLen dCap, .slice (some a) sLen sCap]).run P w = .ok (goInt n) (w.setCells b o cs) := by
  have hld := run_loadCells_list (P := P) w a cs hsrc
  have hst := run_storeCells_cells (P := P) b o cs 0 w (fun j hj => by simpa using (hth j hj).1) (fun j hj => by simpa using (hth j hj).2) h1
  rw [hl] at hld
  cases hq : P.info? elem with
  | none => simp [hq] at hs
  | some i =>
    have hi : i.size = z := by simpa [hq] using hs
    simp [Builtin.copy_, run_underlying hu, Builtin.lenOf, Builtin.firstCells, sizeOf, typeInfo, hq, hi, ← hn, hld, hst]
theorem wp_copy_v {P : Program} {o : Oper} {a : Act} {w : World} {K : Act → World → Prop} {Q : Exit → Act → World → Prop} (d s : Operand) (dT sT elem : TypeId) (z g off dLen dCap : Nat) (ad : Addr) (sLen sCap n : Nat) (cs : List Value)
    (ho : o.op = .call { callee := .builtin .copy, args := #[d, s], argTypes := #[dT, sT] }) (hd : a.eval d = .slice (some ⟨g, off, none⟩) dLen dCap) (hss : a.eval s = .slice (some ad) sLen sCap)
    (hu : P.underlying dT = some (.slice elem)) (hs : (P.info? elem).map (·.size) = some z) (hn : n = Nat.min sLen dLen) (hl : cs.length = n * z)
    (hsrc : ∀ j v, cs[j]? = some v → w.cell? (ad.add j) = some v) (hth : w.there g off cs.length) (h1 : ∀ v ∈ cs, v.oneCell' = true) (hK : K (a.put o.dst (goInt n)) (w.setCells g off cs)) : Oper.wp P o a w K Q := by
  have hr := run_copy_v (P := P) w dT sT o.type elem z g off dLen dCap ad sLen sCap n cs hu hs hn hl hsrc hth h1
  unfold Oper.wp
  simp [execOp, ho, resolve, invoke, builtin, hd, hss, hr, Result.andThen]
  exact hK
end Go.Proofs.YticnjkdaccacaaaGreatDoor.OwnV
end
section
/- Steps of a walk over memory of the call's own. -/
namespace Go.Proofs.YticnjkdaccacaaaGreatDoor.Sx
open Go Go.RowKit Base Own

section
variable {Df : List Deferred} {N : Nat} {a : Act} {L : Env}
theorem FrD.vok (fr : FrD Df N a L) {d : Nat} {v : Value} (h : L.lookup d = some v) : Sx.vok v = true := (fr.get _ _ h).2
theorem vok_tup2 (fr : FrD Df N a L) {d e : Nat} {k k' : IntKind} {x y : Int} (h1 : L.lookup d = some (.int k x)) (h2 : L.lookup e = some (.int k' y)) : Sx.vok (.tuple #[.int k x, .int k' y]) = true := by
  have e1 := fr.vok h1
  have e2 := fr.vok h2
  show [Value.int k x, Value.int k' y].all vokC = true
  rw [List.all_cons, List.all_cons, show vokC (.int k x) = true from e1, show vokC (.int k' y) = true from e2]; rfl
theorem vok_tupii (fr : FrD Df N a L) {d : Nat} {e : Nat} {k0 : IntKind} {x0 : Int} {k1 : IntKind} {x1 : Int} (h0 : L.lookup d = some (.int k0 x0)) (h1 : L.lookup e = some (.int k1 x1)) : Sx.vok (.tuple #[(.int k0 x0), (.int k1 x1)]) = true := by
  show [(Value.int k0 x0), (Value.int k1 x1)].all vokC = true
  rw [List.all_cons, List.all_cons, show vokC (.int k0 x0) = true from fr.vok h0, show vokC (.int k1 x1) = true from fr.vok h1]; rfl
theorem vok_tupib (fr : FrD Df N a L) {d : Nat} {e : Nat} {k0 : IntKind} {x0 : Int} {x1 : Bool} (h0 : L.lookup d = some (.int k0 x0)) (h1 : L.lookup e = some (.bool x1)) : Sx.vok (.tuple #[(.int k0 x0), (.bool x1)]) = true := by
  show [(Value.int k0 x0), (Value.bool x1)].all vokC = true
  rw [List.all_cons, List.all_cons, show vokC (.int k0 x0) = true from fr.vok h0, show vokC (.bool x1) = true from fr.vok h1]; rfl
theorem vok_tupbi (fr : FrD Df N a L) {d : Nat} {e : Nat} {x0 : Bool} {k1 : IntKind} {x1 : Int} (h0 : L.lookup d = some (.bool x0)) (h1 : L.lookup e = some (.int k1 x1)) : Sx.vok (.tuple #[(.bool x0), (.int k1 x1)]) = true := by
  show [(Value.bool x0), (Value.int k1 x1)].all vokC = true
  rw [List.all_cons, List.all_cons, show vokC (.bool x0) = true from fr.vok h0, show vokC (.int k1 x1) = true from fr.vok h1]; rfl
theorem vok_tupbb (fr : FrD Df N a L) {d : Nat} {e : Nat} {x0 : Bool} {x1 : Bool} (h0 : L.lookup d = some (.bool x0)) (h1 : L.lookup e = some (.bool x1)) : Sx.vok (.tuple #[(.bool x0), (.bool x1)]) = true := by
  show [(Value.bool x0), (Value.bool x1)].all vokC = true
  rw [List.all_cons, List.all_cons, show vokC (.bool x0) = true from fr.vok h0, show vokC (.bool x1) = true from fr.vok h1]; rfl
theorem vok_tupiii (fr : FrD Df N a L) {d : Nat} {e : Nat} {f : Nat} {k0 : IntKind} {x0 : Int} {k1 : IntKind} {x1 : Int} {k2 : IntKind} {x2 : Int} (h0 : L.lookup d = some (.int k0 x0)) (h1 : L.lookup e = some (.int k1 x1)) (h2 : L.lookup f = some (.int k2 x2)) : Sx.vok (.tuple #[(.int k0 x0), (.int k1 x1), (.int k2 x2)]) = true := by
  show [(Value.int k0 x0), (Value.int k1 x1), (Value.int k2 x2)].all vokC = true
  rw [List.all_cons, List.all_cons, List.all_cons, show vokC (.int k0 x0) = true from fr.vok h0, show vokC (.int k1 x1) = true from fr.vok h1, show vokC (.int k2 x2) = true from fr.vok h2]; rfl
theorem vok_tupiib (fr : FrD Df N a L) {d : Nat} {e : Nat} {f : Nat} {k0 : IntKind} {x0 : Int} {k1 : IntKind} {x1 : Int} {x2 : Bool} (h0 : L.lookup d = some (.int k0 x0)) (h1 : L.lookup e = some (.int k1 x1)) (h2 : L.lookup f = some (.bool x2)) : Sx.vok (.tuple #[(.int k0 x0), (.int k1 x1), (.bool x2)]) = true := by
  show [(Value.int k0 x0), (Value.int k1 x1), (Value.bool x2)].all vokC = true
  rw [List.all_cons, List.all_cons, List.all_cons, show vokC (.int k0 x0) = true from fr.vok h0, show vokC (.int k1 x1) = true from fr.vok h1, show vokC (.bool x2) = true from fr.vok h2]; rfl
theorem vok_tupibi (fr : FrD Df N a L) {d : Nat} {e : Nat} {f : Nat} {k0 : IntKind} {x0 : Int} {x1 : Bool} {k2 : IntKind} {x2 : Int} (h0 : L.lookup d = some (.int k0 x0)) (h1 : L.lookup e = some (.bool x1)) (h2 : L.lookup f = some (.int k2 x2)) : Sx.vok (.tuple #[(.int k0 x0), (.bool x1), (.int k2 x2)]) = true := by
  show [(Value.int k0 x0), (Value.bool x1), (Value.int k2 x2)].all vokC = true
  rw [List.all_cons, List.all_cons, List.all_cons, show vokC (.int k0 x0) = true from fr.vok h0, show vokC (.bool x1) = true from fr.vok h1, show vokC (.int k2 x2) = true from fr.vok h2]; rfl
theorem vok_tupibb (fr : FrD Df N a L) {d : Nat} {e : Nat} {f : Nat} {k0 : IntKind} {x0 : Int} {x1 : Bool} {x2 : Bool} (h0 : L.lookup d = some (.int k0 x0)) (h1 : L.lookup e = some (.bool x1)) (h2 : L.lookup f = some (.bool x2)) : Sx.vok (.tuple #[(.int k0 x0), (.bool x1), (.bool x2)]) = true := by
  show [(Value.int k0 x0), (Value.bool x1), (Value.bool x2)].all vokC = true
  rw [List.all_cons, List.all_cons, List.all_cons, show vokC (.int k0 x0) = true from fr.vok h0, show vokC (.bool x1) = true from fr.vok h1, show vokC (.bool x2) = true from fr.vok h2]; rfl
theorem vok_tupbii (fr : FrD Df N a L) {d : Nat} {e : Nat} {f : Nat} {x0 : Bool} {k1 : IntKind} {x1 : Int} {k2 : IntKind} {x2 : Int} (h0 : L.lookup d = some (.bool x0)) (h1 : L.lookup e = some (.int k1 x1)) (h2 : L.lookup f = some (.int k2 x2)) : Sx.vok (.tuple #[(.bool x0), (.int k1 x1), (.int k2 x2)]) = true := by
  show [(Value.bool x0), (Value.int k1 x1), (Value.int k2 x2)].all vokC = true
  rw [List.all_cons, List.all_cons, List.all_cons, show vokC (.bool x0) = true from fr.vok h0, show vokC (.int k1 x1) = true from fr.vok h1, show vokC (.int k2 x2) = true from fr.vok h2]; rfl
theorem vok_tupbib (fr : FrD Df N a L) {d : Nat} {e : Nat} {f : Nat} {x0 : Bool} {k1 : IntKind} {x1 : Int} {x2 : Bool} (h0 : L.lookup d = some (.bool x0)) (h1 : L.lookup e = some (.int k1 x1)) (h2 : L.lookup f = some (.bool x2)) : Sx.vok (.tuple #[(.bool x0), (.int k1 x1), (.bool x2)]) = true := by
  show [(Value.bool x0), (Value.int k1 x1), (Value.bool x2)].all vokC = true
  rw [List.all_cons, List.all_cons, List.all_cons, show vokC (.bool x0) = true from fr.vok h0, show vokC (.int k1 x1) = true from fr.vok h1, show vokC (.bool x2) = true from fr.vok h2]; rfl
theorem vok_tupbbi (fr : FrD Df N a L) {d : Nat} {e : Nat} {f : Nat} {x0 : Bool} {x1 : Bool} {k2 : IntKind} {x2 : Int} (h0 : L.lookup d = some (.bool x0)) (h1 : L.lookup e = some (.bool x1)) (h2 : L.lookup f = some (.int k2 x2)) : Sx.vok (.tuple #[(.bool x0), (.bool x1), (.int k2 x2)]) = true := by
  show [(Value.bool x0), (Value.bool x1), (Value.int k2 x2)].all vokC = true
  rw [List.all_cons, List.all_cons, List.all_cons, show vokC (.bool x0) = true from fr.vok h0, show vokC (.bool x1) = true from fr.vok h1, show vokC (.int k2 x2) = true from fr.vok h2]; rfl
theorem vok_tupbbb (fr : FrD Df N a L) {d : Nat} {e : Nat} {f : Nat} {x0 : Bool} {x1 : Bool} {x2 : Bool} (h0 : L.lookup d = some (.bool x0)) (h1 : L.lookup e = some (.bool x1)) (h2 : L.lookup f = some (.bool x2)) : Sx.vok (.tuple #[(.bool x0), (.bool x1), (.bool x2)]) = true := by
  show [(Value.bool x0), (Value.bool x1), (Value.bool x2)].all vokC = true
  rw [List.all_cons, List.all_cons, List.all_cons, show vokC (.bool x0) = true from fr.vok h0, show vokC (.bool x1) = true from fr.vok h1, show vokC (.bool x2) = true from fr.vok h2]; rfl
theorem vok_tupiiii (fr : FrD Df N a L) {d : Nat} {e : Nat} {f : Nat} {g : Nat} {k0 : IntKind} {x0 : Int} {k1 : IntKind} {x1 : Int} {k2 : IntKind} {x2 : Int} {k3 : IntKind} {x3 : Int} (h0 : L.lookup d = some (.int k0 x0)) (h1 : L.lookup e = some (.int k1 x1)) (h2 : L.lookup f = some (.int k2 x2)) (h3 : L.lookup g = some (.int k3 x3)) : Sx.vok (.tuple #[(.int k0 x0), (.int k1 x1), (.int k2 x2), (.int k3 x3)]) = true := by
  show [(Value.int k0 x0), (Value.int k1 x1), (Value.int k2 x2), (Value.int k3 x3)].all vokC = true
  rw [List.all_cons, List.all_cons, List.all_cons, List.all_cons, show vokC (.int k0 x0) = true from fr.vok h0, show vokC (.int k1 x1) = true from fr.vok h1, show vokC (.int k2 x2) = true from fr.vok h2, show vokC (.int k3 x3) = true from fr.vok h3]; rfl
theorem vok_tupiiib (fr : FrD Df N a L) {d : Nat} {e : Nat} {f : Nat} {g : Nat} {k0 : IntKind} {x0 : Int} {k1 : IntKind} {x1 : Int} {k2 : IntKind} {x2 : Int} {x3 : Bool} (h0 : L.lookup d = some (.int k0 x0)) (h1 : L.lookup e = some (.int k1 x1)) (h2 : L.lookup f = some (.int k2 x2)) (h3 : L.lookup g = some (.bool x3)) : Sx.vok (.tuple #[(.int k0 x0), (.int k1 x1), (.int k2 x2), (.bool x3)]) = true := by
  show [(Value.int k0 x0), (Value.int k1 x1), (Value.int k2 x2), (Value.bool x3)].all vokC = true
  rw [List.all_cons, List.all_cons, List.all_cons, List.all_cons, show vokC (.int k0 x0) = true from fr.vok h0, show vokC (.int k1 x1) = true from fr.vok h1, show vokC (.int k2 x2) = true from fr.vok h2, show vokC (.bool x3) = true from fr.vok h3]; rfl
theorem vok_tupiibi (fr : FrD Df N a L) {d : Nat} {e : Nat} {f : Nat} {g : Nat} {k0 : IntKind} {x0 : Int} {k1 : IntKind} {x1 : Int} {x2 : Bool} {k3 : IntKind} {x3 : Int} (h0 : L.lookup d = some (.int k0 x0)) (h1 : L.lookup e = some (.int k1 x1)) (h2 : L.lookup f = some (.bool x2)) (h3 : L.lookup g = some (.int k3 x3)) : Sx.vok (.tuple #[(.int k0 x0), (.int k1 x1), (.bool x2), (.int k3 x3)]) = true := by
  show [(Value.int k0 x0), (Value.int k1 x1), (Value.bool x2), (Value.int k3 x3)].all vokC = true
  rw [List.all_cons, List.all_cons, List.all_cons, List.all_cons, show vokC (.int k0 x0) = true from fr.vok h0, show vokC (.int k1 x1) = true from fr.vok h1, show vokC (.bool x2) = true from fr.vok h2, show vokC (.int k3 x3) = true from fr.vok h3]; rfl
theorem vok_tupiibb (fr : FrD Df N a L) {d : Nat} {e : Nat} {f : Nat} {g : Nat} {k0 : IntKind} {x0 : Int} {k1 : IntKind} {x1 : Int} {x2 : Bool} {x3 : Bool} (h0 : L.lookup d = some (.int k0 x0)) (h1 : L.lookup e = some (.int k1 x1)) (h2 : L.lookup f = some (.bool x2)) (h3 : L.lookup g = some (.bool x3)) : Sx.vok (.tuple #[(.int k0 x0), (.int k1 x1), (.bool x2), (.bool x3)]) = true := by
  show [(Value.int k0 x0), (Value.int k1 x1), (Value.bool x2), (Value.bool x3)].all vokC = true
  rw [List.all_cons, List.all_cons, List.all_cons, List.all_cons, show vokC (.int k0 x0) = true from fr.vok h0, show vokC (.int k1 x1) = true from fr.vok h1, show vokC (.bool x2) = true from fr.vok h2, show vokC (.bool x3) = true from fr.vok h3]; rfl
theorem vok_tupibii (fr : FrD Df N a L) {d : Nat} {e : Nat} {f : Nat} {g : Nat} {k0 : IntKind} {x0 : Int} {x1 : Bool} {k2 : IntKind} {x2 : Int} {k3 : IntKind} {x3 : Int} (h0 : L.lookup d = some (.int k0 x0)) (h1 : L.lookup e = some (.bool x1)) (h2 : L.lookup f = some (.int k2 x2)) (h3 : L.lookup g = some (.int k3 x3)) : Sx.vok (.tuple #[(.int k0 x0), (.bool x1), (.int k2 x2), (.int k3 x3)]) = true := by
  show [(Value.int k0 x0), (Value.bool x1), (Value.int k2 x2), (Value.int k3 x3)].all vokC = true
  rw [List.all_cons, List.all_cons, List.all_cons, List.all_cons, show vokC (.int k0 x0) = true from fr.vok h0, show vokC (.bool x1) = true from fr.vok h1, show vokC (.int k2 x2) = true from fr.vok h2, show vokC (.int k3 x3) = true from fr.vok h3]; rfl
theorem vok_tupibib (fr : FrD Df N a L) {d : Nat} {e : Nat} {f : Nat} {g : Nat} {k0 : IntKind} {x0 : Int} {x1 : Bool} {k2 : IntKind} {x2 : Int} {x3 : Bool} (h0 : L.lookup d = some (.int k0 x0)) (h1 : L.lookup e = some (.bool x1)) (h2 : L.lookup f = some (.int k2 x2)) (h3 : L.lookup g = some (.bool x3)) : Sx.vok (.tuple #[(.int k0 x0), (.bool x1), (.int k2 x2), (.bool x3)]) = true := by
  show [(Value.int k0 x0), (Value.bool x1), (Value.int k2 x2), (Value.bool x3)].all vokC = true
  rw [List.all_cons, List.all_cons, List.all_cons, List.all_cons, show vokC (.int k0 x0) = true from fr.vok h0, show vokC (.bool x1) = true from fr.vok h1, show vokC (.int k2 x2) = true from fr.vok h2, show vokC (.bool x3) = true from fr.vok h3]; rfl
theorem vok_tupibbi (fr : FrD Df N a L) {d : Nat} {e : Nat} {f : Nat} {g : Nat} {k0 : IntKind} {x0 : Int} {x1 : Bool} {x2 : Bool} {k3 : IntKind} {x3 : Int} (h0 : L.lookup d = some (.int k0 x0)) (h1 : L.lookup e = some (.bool x1)) (h2 : L.lookup f = some (.bool x2)) (h3 : L.lookup g = some (.int k3 x3)) : Sx.vok (.tuple #[(.int k0 x0), (.bool x1), (.bool x2), (.int k3 x3)]) = true := by
  show [(Value.int k0 x0), (Value.bool x1), (Value.bool x2), (Value.int k3 x3)].all vokC = true
  rw [List.all_cons, List.all_cons, List.all_cons, List.all_cons, show vokC (.int k0 x0) = true from fr.vok h0, show vokC (.bool x1) = true from fr.vok h1, show vokC (.bool x2) = true from fr.vok h2, show vokC (.int k3 x3) = true from fr.vok h3]; rfl
theorem vok_tupbiii (fr : FrD Df N a L) {d : Nat} {e : Nat} {f : Nat} {g : Nat} {x0 : Bool} {k1 : IntKind} {x1 : Int} {k2 : IntKind} {x2 : Int} {k3 : IntKind} {x3 : Int} (h0 : L.lookup d = some (.bool x0)) (h1 : L.lookup e = some (.int k1 x1)) (h2 : L.lookup f = some (.int k2 x2)) (h3 : L.lookup g = some (.int k3 x3)) : Sx.vok (.tuple #[(.bool x0), (.int k1 x1), (.int k2 x2), (.int k3 x3)]) = true := by
  show [(Value.bool x0), (Value.int k1 x1), (Value.int k2 x2), (Value.int k3 x3)].all vokC = true
  rw [List.all_cons, List.all_cons, List.all_cons, List.all_cons, show vokC (.bool x0) = true from fr.vok h0, show vokC (.int k1 x1) = true from fr.vok h1, show vokC (.int k2 x2) = true from fr.vok h2, show vokC (.int k3 x3) = true from fr.vok h3]; rfl
theorem vok_tupbiib (fr : FrD Df N a L) {d : Nat} {e : Nat} {f : Nat} {g : Nat} {x0 : Bool} {k1 : IntKind} {x1 : Int} {k2 : IntKind} {x2 : Int} {x3 : Bool} (h0 : L.lookup d = some (.bool x0)) (h1 : L.lookup e = some (.int k1 x1)) (h2 : L.lookup f = some (.int k2 x2)) (h3 : L.lookup g = some (.bool x3)) : Sx.vok (.tuple #[(.bool x0), (.int k1 x1), (.int k2 x2), (.bool x3)]) = true := by
  show [(Value.bool x0), (Value.int k1 x1), (Value.int k2 x2), (Value.bool x3)].all vokC = true
  rw [List.all_cons, List.all_cons, List.all_cons, List.all_cons, show vokC (.bool x0) = true from fr.vok h0, show vokC (.int k1 x1) = true from fr.vok h1, show vokC (.int k2 x2) = true from fr.vok h2, show vokC (.bool x3) = true from fr.vok h3]; rfl
theorem vok_tupbibi (fr : FrD Df N a L) {d : Nat} {e : Nat} {f : Nat} {g : Nat} {x0 : Bool} {k1 : IntKind} {x1 : Int} {x2 : Bool} {k3 : IntKind} {x3 : Int} (h0 : L.lookup d = some (.bool x0)) (h1 : L.lookup e = some (.int k1 x1)) (h2 : L.lookup f = some (.bool x2)) (h3 : L.lookup g = some (.int k3 x3)) : Sx.vok (.tuple #[(.bool x0), (.int k1 x1), (.bool x2), (.int k3 x3)]) = true := by
  show [(Value.bool x0), (Value.int k1 x1), (Value.bool x2), (Value.int k3 x3)].all vokC = true
  rw [List.all_cons, List.all_cons, List.all_cons, List.all_cons, show vokC (.bool x0) = true from fr.vok h0, show vokC (.int k1 x1) = true from fr.vok h1, show vokC (.bool x2) = true from fr.vok h2, show vokC (.int k3 x3) = true from fr.vok h3]; rfl
theorem vok_tupbbii (fr : FrD Df N a L) {d : Nat} {e : Nat} {f : Nat} {g : Nat} {x0 : Bool} {x1 : Bool} {k2 : IntKind} {x2 : Int} {k3 : IntKind} {x3 : Int} (h0 : L.lookup d = some (.bool x0)) (h1 : L.lookup e = some (.bool x1)) (h2 : L.lookup f = some (.int k2 x2)) (h3 : L.lookup g = some (.int k3 x3)) : Sx.vok (.tuple #[(.bool x0), (.bool x1), (.int k2 x2), (.int k3 x3)]) = true := by
  show [(Value.bool x0), (Value.bool x1), (Value.int k2 x2), (Value.int k3 x3)].all vokC = true
  rw [List.all_cons, List.all_cons, List.all_cons, List.all_cons, show vokC (.bool x0) = true from fr.vok h0, show vokC (.bool x1) = true from fr.vok h1, show vokC (.int k2 x2) = true from fr.vok h2, show vokC (.int k3 x3) = true from fr.vok h3]; rfl
theorem vok_sl {A : Option Addr} {n c : Nat} (h : n ≤ c ∧ c ≤ maxLen) : Sx.vok (.slice A n c) = true := by simp [Sx.vok, vokC, vok1, h]
theorem vok_c {v : Value} {l : List Value} (h : Sx.vok v = true) (hl : l.all Sx.vok = true) : (v :: l).all Sx.vok = true := by rw [List.all_cons, h, hl]; rfl
theorem vok_ag {k : IntKind} {l : List Int} (h : ∀ z ∈ l, (Lit.int k z).wf = true) : Sx.vok (.agg (l.map (Value.int k)).toArray) = true := by
  show (l.map (Value.int k)).all vok1 = true
  rw [List.all_eq_true]
  intro v hv
  obtain ⟨z, hz, rfl⟩ := List.mem_map.1 hv
  exact h z hz
theorem vok_agb (l : List Bool) : Sx.vok (.agg (l.map Value.bool).toArray) = true := by
  show (l.map Value.bool).all vok1 = true
  rw [List.all_eq_true]
  intro v hv
  obtain ⟨z, _, rfl⟩ := List.mem_map.1 hv
  rfl
end
section
variable {T : Orc} {L : Env} {op : Op} {t ty : TypeId} {x y : Operand} {k k' : IntKind} {p q : Int}
theorem po_shr (ho : op = .binOp .shr t x y ty) (hx : ev L x = some (.int k p)) (hy : ev L y = some (.int k' q)) (hq : 0 ≤ q) : pureOp T L op = some (.int k (p.fdiv (2 ^ min q.toNat k.bits))) := by
  subst ho
  simp only [pureOp, hx, hy, Option.bind_some, binV, shI]
  rw [if_neg (by omega)]
theorem po_shl (ho : op = .binOp .shl t x y ty) (hx : ev L x = some (.int k p)) (hy : ev L y = some (.int k' q)) (hq : 0 ≤ q) : pureOp T L op = some (.int k (k.wrap (p * 2 ^ min q.toNat k.bits))) := by
  subst ho
  simp only [pureOp, hx, hy, Option.bind_some, binV, shI]
  rw [if_neg (by omega)]
theorem po_rem (ho : op = .binOp .rem t x y ty) (hx : ev L x = some (.int k p)) (hy : ev L y = some (.int k q)) (hq : q ≠ 0) : pureOp T L op = some (.int k (p.tmod q)) := by
  subst ho
  simp only [pureOp, hx, hy, Option.bind_some, binV, binI]
  rw [if_pos trivial, if_neg hq]
theorem po_quo (ho : op = .binOp .quo t x y ty) (hx : ev L x = some (.int k p)) (hy : ev L y = some (.int k q)) (hq : q ≠ 0) : pureOp T L op = some (.int k (k.wrap (p.tdiv q))) := by
  subst ho
  simp only [pureOp, hx, hy, Option.bind_some, binV, binI]
  rw [if_pos trivial, if_neg hq]
end
/-! ### Arrays of the call's own -/
section
variable {α : Type}
def arrA (f : α → Value) (e n b : Nat) (l : List α) : Asn where
  holds := fun w B F => w.heap[b]? = some (.cells (l.map f).toArray e (0, 0)) ∧ l.length = n ∧ (∀ z ∈ l, vok (f z) = true) ∧ B ≤ b ∧ ∀ g, F g ↔ g = b
  keep := fun ⟨h1, h2, h3, h4, h5⟩ hc hF _ => ⟨by rw [hc.block _ (Array.getElem?_eq_some_iff.1 h1).1 (hF _ ((h5 _).2 rfl))]; exact h1, h2, h3, h4, h5⟩
  dom := fun ⟨h1, _, _, h4, h5⟩ g hg => by rw [h5 g] at hg; subst hg; exact ⟨h4, (Array.getElem?_eq_some_iff.1 h1).1⟩
theorem Sat.arrAt {w0 w : World} {M : List Asn} {f : α → Value} {e n b : Nat} {l : List α} (S : Sat w0 w M) (i : Nat) (hi : M[i]? = some (arrA f e n b l)) : w.heap[b]? = some (.cells (l.map f).toArray e (0, 0)) ∧ l.length = n ∧ ∀ z ∈ l, vok (f z) = true := by
  obtain ⟨F, h1, h2, h3, _⟩ := (S.frontAt i hi).hd
  exact ⟨h1, h2, h3⟩
end
section
variable {P : Program} {T : Orc} {ops : Array Oper} {Q : Exit → Act → World → Prop} {S' : World → Prop} {Df : List Deferred} {N : Nat} {a : Act} {w w0 : World} {L : Env} {k : IntKind} {R : List Asn}
theorem cw_cut2 {x y z : Code} (M : Act → World → Prop) (hx : x.wp P (Exit.then (y.wp P (Exit.then M Q)) Q) a w) (hy : ∀ a w, M a w → z.wp P Q a w) : (Code.seq x (Code.seq y z)).wp P Q a w :=
  wp_seq (wp_mono hx fun e a w h => by cases e <;> first | exact cw_cut M h hy | exact h)
theorem wl_pv (hT : T.Ok P) {o : Oper} {rest : List Oper} {d : Nat} {v : Value} (fr : FrD Df N a L) (hw : wantL ops L o = some true) (hd : o.dst = some d) (hlt : Nat.blt d N = true) (hp : pureOp T L o.op = some v) (h : ∀ a', FrD Df N a' ((d, v) :: L) → wpList P ops Q rest a' w) : wpList P ops Q (o :: rest) a w :=
  wl_val fr hw hd hlt (pure_run hT fr hp w).1 (pure_run hT fr hp w).2 h
theorem sl_pv (hT : T.Ok P) {s : SOp} {rest : List Itm} {d : Nat} {v : Value} (fr : FrD Df N a L) (hw : wantS L s = some true) (hq : s.q = true) (hd : s.dst = some d) (hlt : Nat.blt d N = true) (hp : pureOp T L s.op = some v) (h : ∀ a', FrD Df N a' ((d, v) :: L) → SL P Q S' rest a' w) : SL P Q S' (.one s :: rest) a w :=
  sl_q fr hw hq hd hlt (fun w' _ => (pure_run hT fr (o := s.oper) hp w').1) (pure_run hT fr (o := s.oper) hp w).2 h
/-- An element in a drawn region. -/
theorem sl_ld (hT : T.Ok P) {s1 s2 : SOp} {rest : List Itm} {t te : TypeId} {x ix : Operand} {d1 d2 : Nat} {A : Option Addr} {l : List Int} {n c e : Nat} {ki : IntKind} {i : Int} {de : TypeDesc}
    (hr : ∀ w, S' w → Rk k w A l) (fr : FrD Df N a L) (hw : wantS L s1 = some true) (hq : s1.q = true) (ho1 : s1.op = .indexAddr t x ix) (hd1 : s1.dst = some d1) (hw2 : wantS L s2 = some true) (hq2 : s2.q = true) (ho2 : s2.op = .load te (.tmp d1)) (hd2 : s2.dst = some d2) (hl1 : Nat.blt d1 N = true) (hl2 : Nat.blt d2 N = true)
    (hx : ev L x = some (.slice A n c)) (hi : ev L ix = some (.int ki i)) (ht : T.ty.lookup t = some (.slice e)) (hs : T.sz.lookup e = some 1) (hte : T.ty.lookup te = some de) (hde : aggD de = false) (hn : n = l.length) (hf : L.lookup d1 = none) (hb : 0 ≤ i ∧ i < (l.length : Int))
    (hS : S' w) (h : ∀ a', FrD Df N a' ((d2, .int k (l.getD i.toNat 0)) :: L) → SL P Q S' rest a' w) : SL P Q S' (.one s1 :: .one s2 :: rest) a w := by
  subst hn
  obtain ⟨j, rfl⟩ : ∃ j : Nat, i = j := ⟨i.toNat, by omega⟩
  have hj : j < l.length := by omega
  obtain ⟨ad, rfl, -, -⟩ := (hr w hS).rd.cell hj
  refine sl_q fr hw hq hd1 hl1 (fun w' _ => indexAddr_run hT fr (o := s1.oper) ho1 hx hi ht hs (by omega) hb.2 w') rfl fun a1 fr1 => ?_
  have hw3 : wantS ((d1, .pointer (some (ad.add ((j : Int).toNat * 1)))) :: L) s2 = some true := by
    have hk := hw2
    unfold wantS at hk ⊢
    split at hk
    · rename_i hg'; rw [hg'] at *
    · rename_i t' want hg'
      split at hk
      · rename_i b hb'
        have hne : t' ≠ d1 := fun e => by subst e; rw [hf] at hb'; cases hb'
        rw [lookup_cons, if_neg hne, hb']; exact hk
      · cases hk
      · cases hk
  have hm : l.getD j 0 ∈ l := by rw [List.getD_eq_getElem?_getD, List.getElem?_eq_getElem hj]; exact List.getElem_mem hj
  refine sl_q (v := .int k (l.getD j 0)) fr1 hw3 hq2 hd2 hl2 (fun w' hS' => load_run hT fr1 (o := s2.oper) ho2 (by show ((d1, _) :: L).lookup d1 = _; rw [lookup_cons, if_pos rfl]) hte hde (by
    obtain ⟨ad', e', -, hc⟩ := (hr w' hS').rd.cell hj
    injection e' with e'
    rw [Int.toNat_natCast, Nat.mul_one, e']; exact hc)) ((hr w hS).wf _ hm) fun a2 fr2 => h a2 ?_
  refine ⟨fr2.size, fr2.defers, fun e u he => fr2.get e u ?_⟩
  rw [lookup_cons] at he ⊢
  by_cases h1 : e = d2
  · rw [if_pos h1] at he ⊢; rw [Int.toNat_natCast] at he; exact he
  · rw [if_neg h1] at he ⊢
    rw [lookup_cons]
    by_cases h2 : e = d1
    · subst h2; rw [hf] at he; cases he
    · rw [if_neg h2]; exact he
/-- The first so many of a slice. -/
theorem take_run (hT : T.Ok P) (fr : FrD Df N a L) {o : Oper} {t : TypeId} {x y : Operand} (ho : o.op = .slice t x none (some y) none) {A : Option Addr} {n c e s : Nat} {ki : IntKind} {i : Int} (hx : ev L x = some (.slice A n c)) (hy : ev L y = some (.int ki i))
    (ht : T.ty.lookup t = some (.slice e)) (hs : T.sz.lookup e = some s) (hb : 0 ≤ i ∧ i ≤ (c : Int)) (w : World) : (execOp a.eval o).run P w = .ok (.value (.slice A i.toNat c)) w := by
  unfold execOp
  simp only [ho, (fr.ev hx).1, Option.map_some, Option.map_none, (fr.ev hy).1, Instr.sliceAt]
  rw [Sem.run_bind, Sem.run_bind, run_underlying (hT.und ht), Result.andThen_ok]
  simp only [Instr.slice]
  rw [Sem.run_bind, run_underlying (hT.und ht), Result.andThen_ok]
  simp [Instr.sliceBounds, Instr.sliceBound, asIntOf, hb.1, hb.2, size_run hT hs]
  intro _
  cases A <;> simp [Addr.add]
theorem wl_take (hT : T.Ok P) {o : Oper} {rest : List Oper} {t : TypeId} {x y : Operand} {d : Nat} {A : Option Addr} {l : List Int} {n c e s : Nat} {ki : IntKind} {i : Int} (fr : FrD Df N a L) (hw : wantL ops L o = some true) (ho : o.op = .slice t x none (some y) none) (hd : o.dst = some d) (hlt : Nat.blt d N = true)
    (hx : ev L x = some (.slice A n c)) (hy : ev L y = some (.int ki i)) (ht : T.ty.lookup t = some (.slice e)) (hs : T.sz.lookup e = some s) (hn : n = l.length) (hb : 0 ≤ i ∧ i ≤ (l.length : Int))
    (h : ∀ a', FrD Df N a' ((d, .slice A (l.take i.toNat).length c) :: L) → wpList P ops Q rest a' w) : wpList P ops Q (o :: rest) a w := by
  subst hn
  have hv := (fr.ev hx).2
  have hv2 : l.length ≤ c ∧ c ≤ maxLen := by simpa [vok, vokC, vok1] using hv
  have hl : (l.take i.toNat).length = i.toNat := by rw [List.length_take]; omega
  exact wl_val fr hw hd hlt (take_run hT fr ho hx hy ht hs ⟨hb.1, by omega⟩ w) (vok_sl ⟨by omega, hv2.2⟩) fun a' fr' => h a' (by rw [hl]; exact fr')
theorem fill_int (k : IntKind) (n : Nat) (xs : List Int) (hn : xs.length = n) : ∀ (m : Nat), m ≤ n → Instr.fill (fun i => some (i * 1, 1)) ((xs.take m).map (Value.int k) ++ List.replicate (n - m) (Value.int k 0)).toArray (((xs.drop m).zipIdx m).map fun p => (p.2, Value.int k p.1)) = some (xs.map (Value.int k)).toArray := by
  intro m
  generalize hj : n - m = j
  induction j generalizing m with
  | zero =>
    intro hm
    have : m = n := by omega
    subst this
    rw [List.drop_eq_nil_of_le (by omega), List.take_of_length_le (by omega)]
    simp [Instr.fill]
  | succ j ih =>
    intro hm
    have hlt : m < xs.length := by omega
    have hml : ((xs.take m).map (Value.int k)).length = m := by simp; omega
    have hml2 : ((xs.take (m + 1)).map (Value.int k)).length = m + 1 := by simp; omega
    rw [List.drop_eq_getElem_cons hlt, List.zipIdx_cons, List.map_cons, OwnV.fill_step _ _ m m 1 _ _ (by simp) rfl (by simp; omega)]
    have := ih (m + 1) (by omega) (by omega)
    rw [← this]
    congr 2
    show splice _ m [Value.int k xs[m]] = _
    apply List.ext_getElem?
    intro q
    rw [OwnV.splice_get _ _ _ (by simp; omega), List.length_singleton]
    by_cases hq : m = q
    · subst hq
      rw [if_pos (by omega), List.getElem?_append_left (by omega), List.getElem?_map, List.getElem?_take_of_lt (by omega), List.getElem?_eq_getElem hlt, Nat.sub_self]; rfl
    · rw [if_neg (by omega)]
      by_cases hq2 : q < m
      · rw [List.getElem?_append_left (by omega), List.getElem?_append_left (by omega), List.getElem?_map, List.getElem?_map, List.getElem?_take_of_lt hq2, List.getElem?_take_of_lt (by omega)]
      · rw [List.getElem?_append_right (by omega), List.getElem?_append_right (by omega), hml, hml2, List.getElem?_replicate, List.getElem?_replicate]
        by_cases h3 : q - m < j + 1
        · rw [if_pos h3, if_pos (by omega)]
        · rw [if_neg h3, if_neg (by omega)]
theorem lit_run {t e : TypeId} (RT : RowTy P t e k) (n : Nat) (xs : List Int) (hn : xs.length = n) (h0 : 0 < n) (h1 : n ≤ 1000) (w : World) :
    (Instr.buildSlice t n ((xs.zipIdx 0).map fun p => (p.2, Value.int k p.1)).toArray).run P w = .ok (.slice (some ⟨w.heap.size, 0, none⟩) n n) (w.alloc (.cells (xs.map (Value.int k)).toArray e)) := by
  obtain ⟨bytes, hle, hinfo⟩ := RT.hi
  obtain ⟨ie, hie, hzz⟩ := Option.map_eq_some_iff.1 hinfo
  simp only [Prod.mk.injEq] at hzz
  obtain ⟨hz, hs, hb⟩ := hzz
  refine Go.run_buildSlice w t e n _ _ ie (.int k 0) RT.ht hie hz (by rw [hs]; omega) (by rw [hs]; omega) ?_
  rw [hs]
  have h := fill_int k n xs hn 0 (Nat.zero_le _)
  have e1 : (Array.range (n * 1)).map ((Value.int k 0).cells[· % (Value.int k 0).cells.size]!) = (List.replicate n (Value.int k 0)).toArray := by
    apply Array.ext
    · simp
    · intro i h1 h2
      simp [Value.cells, Nat.mod_one]
  rw [e1]
  simpa using h
/-- What the operands of a literal tell. -/
def litOps (L : Env) (k : IntKind) : Nat → List (Nat × Operand) → List Int → Prop
  | _, [], [] => True
  | i, p :: r, x :: xs => p.1 = i ∧ ev L p.2 = some (.int k x) ∧ litOps L k (i + 1) r xs
  | _, _, _ => False
theorem litOps_eval (fr : FrD Df N a L) : ∀ {ps : List (Nat × Operand)} {xs : List Int} {i : Nat}, litOps L k i ps xs → ps.map (fun p => (p.1, a.eval p.2)) = (xs.zipIdx i).map (fun p => (p.2, Value.int k p.1)) ∧ ∀ z ∈ xs, (Lit.int k z).wf = true := by
  intro ps
  induction ps with
  | nil => intro xs i h; cases xs with
    | nil => exact ⟨rfl, fun z hz => by cases hz⟩
    | cons x xs => exact h.elim
  | cons p r ih =>
    intro xs i h
    cases xs with
    | nil => exact h.elim
    | cons x xs =>
      obtain ⟨h1, h2, h3⟩ := h
      obtain ⟨h4, h5⟩ := ih h3
      refine ⟨by rw [List.map_cons, List.zipIdx_cons, List.map_cons, h4, h1, (fr.ev h2).1], fun z hz => ?_⟩
      rcases List.mem_cons.1 hz with rfl | hz
      · exact (fr.ev h2).2
      · exact h5 z hz
theorem lit_exec {t e : TypeId} (RT : RowTy P t e k) (fr : FrD Df N a L) {o : Oper} {n : Nat} {ps : Array (Nat × Operand)} {xs : List Int} (ho : o.op = .buildSlice t n ps) (hp : litOps L k 0 ps.toList xs) (hn : xs.length = n) (h0 : (Nat.blt 0 n && Nat.ble n 1000) = true) (S : Sat w0 w R) :
    ∃ A c w', (execOp a.eval o).run P w = .ok (.value (.slice A xs.length c)) w' ∧ vok (.slice A xs.length c) = true ∧ Sat w0 w' (ownA k e A c xs :: R) := by
  obtain ⟨e1, e2⟩ := litOps_eval fr hp
  simp only [Bool.and_eq_true] at h0
  have h1 : 0 < n := blt_lt h0.1
  have h2 : n ≤ 1000 := Nat.le_of_ble_eq_true h0.2
  have hr := lit_run (P := P) RT n xs hn h1 h2 w
  have hml : n ≤ maxLen := Nat.le_trans h2 (by decide)
  refine ⟨some ⟨w.heap.size, 0, none⟩, n, w.alloc (.cells (xs.map (Value.int k)).toArray e), ?_, ?_, ?_⟩
  · unfold execOp
    simp only [ho]
    have e3 : (ps.map fun (i, x) => (i, a.eval x)) = ((xs.zipIdx 0).map fun p => (p.2, Value.int k p.1)).toArray := by
      apply Array.toList_inj.1
      rw [Array.toList_map]
      exact e1
    rw [Sem.run_bind, e3, hr, hn]; rfl
  · exact vok_sl ⟨by omega, hml⟩
  · have hm := OwnI.made (B := w.heap.size) w k xs e (xs.map (Value.int k)).toArray rfl (Nat.le_refl _) (by omega)
    rw [hn] at hm
    obtain ⟨A, c, ev', _, h3⟩ := S.row (l := xs) ((Below.refl _ _).alloc (Nat.le_refl _) _) hm e2
    injection ev' with e4 e5 e6
    subst e4 e6
    exact h3
theorem wl_lit (_hT : T.Ok P) {t e : TypeId} (RT : RowTy P t e k) {o : Oper} {rest : List Oper} {d n : Nat} {ps : Array (Nat × Operand)} {xs : List Int} (fr : FrD Df N a L) (hw : wantL ops L o = some true) (hd : o.dst = some d) (hlt : Nat.blt d N = true) (ho : o.op = .buildSlice t n ps) (hp : litOps L k 0 ps.toList xs) (hn : xs.length = n) (h0 : (Nat.blt 0 n && Nat.ble n 1000) = true) (S : Sat w0 w R)
    (h : ∀ w' A c, Sat w0 w' (ownA k e A c xs :: R) → ∀ a', FrD Df N a' ((d, .slice A xs.length c) :: L) → wpList P ops Q rest a' w') : wpList P ops Q (o :: rest) a w := by
  obtain ⟨A, c, w', h1, h2, h3⟩ := lit_exec (P := P) RT fr ho hp hn h0 S
  exact wl_val fr hw hd hlt h1 h2 (h w' A c h3)
theorem sl_lit (_hT : T.Ok P) {t e : TypeId} (RT : RowTy P t e k) {s : SOp} {rest : List Itm} {d n : Nat} {ps : Array (Nat × Operand)} {xs : List Int} (fr : FrD Df N a L) (hw : wantS L s = some true) (hq : s.q = false) (hd : s.dst = some d) (hlt : Nat.blt d N = true) (ho : s.op = .buildSlice t n ps) (hp : litOps L k 0 ps.toList xs) (hn : xs.length = n) (h0 : (Nat.blt 0 n && Nat.ble n 1000) = true) (S : Sat w0 w R)
    (h : ∀ w' A c, Sat w0 w' (ownA k e A c xs :: R) → S' w' ∧ ∀ a', FrD Df N a' ((d, .slice A xs.length c) :: L) → SL P Q S' rest a' w') : SL P Q S' (.one s :: rest) a w := by
  obtain ⟨A, c, w', h1, h2, h3⟩ := lit_exec (P := P) RT fr (o := s.oper) ho hp hn h0 S
  exact sl_val fr hw hq hd hlt h1 (h w' A c h3).1 h2 (h w' A c h3).2
theorem make_exec {t e : TypeId} (RT : RowTy P t e k) (fr : FrD Df N a L) {o : Oper} {x y : Operand} {k1 k2 : IntKind} {n : Int} (ho : o.op = .makeSlice t x y) (hx : ev L x = some (.int k1 n)) (hy : ev L y = some (.int k2 n)) (hb : 0 ≤ n ∧ n ≤ 1000000000) (S : Sat w0 w R) :
    ∃ A c w', (execOp a.eval o).run P w = .ok (.value (.slice A (List.replicate n.toNat (0 : Int)).length c)) w' ∧ vok (.slice A (List.replicate n.toNat (0 : Int)).length c) = true ∧ Sat w0 w' (ownA k e A c (List.replicate n.toNat 0) :: R) := by
  obtain ⟨m, rfl⟩ : ∃ m : Nat, n = m := ⟨n.toNat, by omega⟩
  obtain ⟨bytes, hle, hinfo⟩ := RT.hi
  have hmul : bytes * m ≤ 8 * m := Nat.mul_le_mul_right _ hle
  have hr := mk_run (P := P) t e (.int k 0) bytes RT.ht hinfo rfl k1 k2 m (by omega) (by omega) w
  have hml : m ≤ maxLen := Nat.le_trans (show m ≤ 1000000000 by omega) (by decide)
  rw [Int.toNat_natCast, List.length_replicate]
  refine ⟨some ⟨w.heap.size, 0, none⟩, m, w.alloc (.cells (Array.replicate m (.int k 0)) e), ?_, vok_sl ⟨Nat.le_refl _, hml⟩, ?_⟩
  · unfold execOp
    simp only [ho, (fr.ev hx).1, (fr.ev hy).1]
    rw [Sem.run_bind, hr]; rfl
  · have hm := OwnI.made (B := w.heap.size) w k (List.replicate m 0) e (Array.replicate m (.int k 0)) (by simp) (Nat.le_refl _) (by rw [List.length_replicate]; exact hml)
    rw [List.length_replicate] at hm
    obtain ⟨A, c, ev', _, h3⟩ := S.row (l := List.replicate m 0) ((Below.refl _ _).alloc (Nat.le_refl _) _) hm (fun z hz => by
      rw [List.eq_of_mem_replicate hz]; cases k <;> decide)
    injection ev' with e4 e5 e6
    subst e4 e6
    exact h3
theorem wl_make {t e : TypeId} (RT : RowTy P t e k) {o : Oper} {rest : List Oper} {d : Nat} {x y : Operand} {k1 k2 : IntKind} {n : Int} (fr : FrD Df N a L) (hw : wantL ops L o = some true) (hd : o.dst = some d) (hlt : Nat.blt d N = true) (ho : o.op = .makeSlice t x y) (hx : ev L x = some (.int k1 n)) (hy : ev L y = some (.int k2 n)) (hb : 0 ≤ n ∧ n ≤ 1000000000) (S : Sat w0 w R)
    (h : ∀ w' A c, Sat w0 w' (ownA k e A c (List.replicate n.toNat 0) :: R) → ∀ a', FrD Df N a' ((d, .slice A (List.replicate n.toNat (0 : Int)).length c) :: L) → wpList P ops Q rest a' w') : wpList P ops Q (o :: rest) a w := by
  obtain ⟨A, c, w', h1, h2, h3⟩ := make_exec (P := P) RT fr ho hx hy hb S
  exact wl_val fr hw hd hlt h1 h2 (h w' A c h3)
theorem sl_make {t e : TypeId} (RT : RowTy P t e k) {s : SOp} {rest : List Itm} {d : Nat} {x y : Operand} {k1 k2 : IntKind} {n : Int} (fr : FrD Df N a L) (hw : wantS L s = some true) (hq : s.q = false) (hd : s.dst = some d) (hlt : Nat.blt d N = true) (ho : s.op = .makeSlice t x y) (hx : ev L x = some (.int k1 n)) (hy : ev L y = some (.int k2 n)) (hb : 0 ≤ n ∧ n ≤ 1000000000) (S : Sat w0 w R)
    (h : ∀ w' A c, Sat w0 w' (ownA k e A c (List.replicate n.toNat 0) :: R) → S' w' ∧ ∀ a', FrD Df N a' ((d, .slice A (List.replicate n.toNat (0 : Int)).length c) :: L) → SL P Q S' rest a' w') : SL P Q S' (.one s :: rest) a w := by
  obtain ⟨A, c, w', h1, h2, h3⟩ := make_exec (P := P) RT fr (o := s.oper) ho hx hy hb S
  exact sl_val fr hw hq hd hlt h1 (h w' A c h3).1 h2 (h w' A c h3).2
/-- append to a row of the call's own. -/
theorem app_exec {t e : TypeId} (RT : RowTy P t e k) (fr : FrD Df N a L) {o : Oper} {x y : Operand} {A Y : Option Addr} {n m c cy : Nat} {l news : List Int} (ho : o.op = .call { callee := .builtin .append, args := #[x, y], argTypes := #[t, t] }) (hx : ev L x = some (.slice A n c)) (hn : n = l.length) (hy : ev L y = some (.slice Y m cy)) (hm : m = news.length)
    (hr : Rk k w Y news) (hb : (l.length : Int) + (news.length : Int) ≤ 17592186044416) (S : Sat w0 w (ownA k e A c l :: R)) :
    ∃ A' c' w', (execOp a.eval o).run P w = .ok (.value (.slice A' (l ++ news).length c')) w' ∧ vok (.slice A' (l ++ news).length c') = true ∧ Sat w0 w' (ownA k e A' c' (l ++ news) :: R) := by
  subst hn hm
  obtain ⟨F, ⟨h1, h2, h3⟩, hF, hk⟩ := S.opened
  obtain ⟨bytes, hle, hinfo⟩ := RT.hi
  have hmul : (l.length + news.length) * bytes ≤ (l.length + news.length) * 8 := Nat.mul_le_mul_left _ hle
  obtain ⟨v', w', hrun, h4, h5, h6⟩ := ap_run (P := P) t o.type (.int k 0) bytes RT.ht hinfo rfl h1 Y news.length cy news rfl hr.rd (fun e => by rw [hr.rd.empty e]; rfl) (by unfold maxLen; omega) (by omega) S.below.size
  obtain ⟨A', c', rfl, h7, h8, _, _⟩ := h4.slice
  refine ⟨A', c', w', ?_, vok_sl ⟨h7, h8⟩, ?_⟩
  · unfold execOp
    simp only [ho, resolve]
    rw [Sem.run_bind, Sem.run_pure, Result.andThen_ok]
    simp only [invoke, builtin, List.map_toArray, List.map_cons, List.map_nil, (fr.ev hx).1, (fr.ev hy).1]
    rw [Sem.run_bind, hrun]; rfl
  · refine hk (A' := ownA k e A' c' (l ++ news)) (F' := fun g => (Value.slice A' (l ++ news).length c').ownBlock = some g) ⟨h4, fun z hz => ?_, fun g => Iff.rfl⟩ (Chg.of_grown h5) (fun g _ hg => (h3 g).2 hg.symm) fun g hg => ?_
    · rcases List.mem_append.1 hz with hz | hz
      · exact h2 z hz
      · exact hr.wf z hz
    · rcases h6 with h | h
      · rw [h] at hg; exact .inl ((h3 g).2 hg)
      · rw [h] at hg; injection hg with hg; subst hg; exact .inr (Nat.le_refl _)
theorem wl_app {t e : TypeId} (RT : RowTy P t e k) {o : Oper} {rest : List Oper} {d : Nat} {x y : Operand} {A Y : Option Addr} {n m c cy : Nat} {l news : List Int} (fr : FrD Df N a L) (hw : wantL ops L o = some true) (hd : o.dst = some d) (hlt : Nat.blt d N = true) (ho : o.op = .call { callee := .builtin .append, args := #[x, y], argTypes := #[t, t] }) (hx : ev L x = some (.slice A n c)) (hn : n = l.length) (hy : ev L y = some (.slice Y m cy)) (hm : m = news.length)
    (hr : Rk k w Y news) (hb : (l.length : Int) + (news.length : Int) ≤ 17592186044416) (S : Sat w0 w (ownA k e A c l :: R))
    (h : ∀ w' A' c', Sat w0 w' (ownA k e A' c' (l ++ news) :: R) → ∀ a', FrD Df N a' ((d, .slice A' (l ++ news).length c') :: L) → wpList P ops Q rest a' w') : wpList P ops Q (o :: rest) a w := by
  obtain ⟨A', c', w', h1, h2, h3⟩ := app_exec (P := P) RT fr ho hx hn hy hm hr hb S
  exact wl_val fr hw hd hlt h1 h2 (h w' A' c' h3)
theorem sl_app {t e : TypeId} (RT : RowTy P t e k) {s : SOp} {rest : List Itm} {d : Nat} {x y : Operand} {A Y : Option Addr} {n m c cy : Nat} {l news : List Int} (fr : FrD Df N a L) (hw : wantS L s = some true) (hq : s.q = false) (hd : s.dst = some d) (hlt : Nat.blt d N = true) (ho : s.op = .call { callee := .builtin .append, args := #[x, y], argTypes := #[t, t] }) (hx : ev L x = some (.slice A n c)) (hn : n = l.length) (hy : ev L y = some (.slice Y m cy)) (hm : m = news.length)
    (hr : Rk k w Y news) (hb : (l.length : Int) + (news.length : Int) ≤ 17592186044416) (S : Sat w0 w (ownA k e A c l :: R))
    (h : ∀ w' A' c', Sat w0 w' (ownA k e A' c' (l ++ news) :: R) → S' w' ∧ ∀ a', FrD Df N a' ((d, .slice A' (l ++ news).length c') :: L) → SL P Q S' rest a' w') : SL P Q S' (.one s :: rest) a w := by
  obtain ⟨A', c', w', h1, h2, h3⟩ := app_exec (P := P) RT fr (o := s.oper) ho hx hn hy hm hr hb S
  exact sl_val fr hw hq hd hlt h1 (h w' A' c' h3).1 h2 (h w' A' c' h3).2
end
end Go.Proofs.YticnjkdaccacaaaGreatDoor.Sx
end
section
/- Steps of a walk over arrays of the call's own. -/
namespace Go.Proofs.YticnjkdaccacaaaGreatDoor.Sx
open Go Go.RowKit Base Own

section
variable {α : Type} {P : Program} {T : Orc} {ops : Array Oper} {Q : Exit → Act → World → Prop} {S' : World → Prop} {Df : List Deferred} {N : Nat} {a : Act} {w w0 : World} {L : Env} {R : List Asn} {f : α → Value}
theorem wl_box {o : Oper} {rest : List Oper} {t : TypeId} {x : Operand} {d n : Nat} {l : List α} (fr : FrD Df N a L) (hw : wantL ops L o = some true) (hd : o.dst = some d) (hlt : Nat.blt d N = true) (ho : o.op = .box t x) (hx : ev L x = some (.agg (l.map f).toArray)) (hn : l.length = n) (hf : ∀ z, vok (f z) = vok1 (f z)) (S : Sat w0 w R)
    (h : ∀ w' b, Sat w0 w' (arrA f t n b l :: R) → ∀ a', FrD Df N a' ((d, .pointer (some ⟨b, 0, none⟩)) :: L) → wpList P ops Q rest a' w') : wpList P ops Q (o :: rest) a w := by
  have hv := (fr.ev hx).2
  refine wl_val (v := .pointer (some ⟨w.heap.size, 0, none⟩)) (w' := w.alloc (.cells (l.map f).toArray t)) fr hw hd hlt ?_ rfl (h _ _ ?_)
  · unfold execOp
    simp only [ho, (fr.ev hx).1]
    rfl
  · refine S.add (F := fun g => g = w.heap.size) ((Below.refl _ _).alloc (Nat.le_refl _) _) ⟨heap_alloc_new _ _, hn, fun z hz => ?_, S.below.size, fun g => Iff.rfl⟩ fun g hg => Nat.le_of_eq hg.symm
    rw [hf]
    exact (List.all_eq_true.1 (show (l.map f).all vok1 = true from hv)) _ (List.mem_map_of_mem hz)
theorem wl_alloc {o : Oper} {rest : List Oper} {t : TypeId} {d n : Nat} {l : List α} (fr : FrD Df N a L) (hw : wantL ops L o = some true) (hd : o.dst = some d) (hlt : Nat.blt d N = true) (ho : o.op = .alloc t) (hz : ∀ W, (zeroValue t).run P W = .ok (.agg (l.map f).toArray) W) (hn : l.length = n) (hok : l.all (fun z => vok (f z)) = true) (S : Sat w0 w R)
    (h : ∀ w' b, Sat w0 w' (arrA f t n b l :: R) → ∀ a', FrD Df N a' ((d, .pointer (some ⟨b, 0, none⟩)) :: L) → wpList P ops Q rest a' w') : wpList P ops Q (o :: rest) a w := by
  refine wl_val (v := .pointer (some ⟨w.heap.size, 0, none⟩)) (w' := w.alloc (.cells (l.map f).toArray t)) fr hw hd hlt ?_ rfl (h _ _ ?_)
  · unfold execOp
    simp only [ho, Instr.alloc]
    rw [Sem.run_bind, Sem.run_bind, hz, Result.andThen_ok]
    rfl
  · exact S.add (F := fun g => g = w.heap.size) ((Below.refl _ _).alloc (Nat.le_refl _) _) ⟨heap_alloc_new _ _, hn, fun z hz => (List.all_eq_true.1 hok) z hz, S.below.size, fun g => Iff.rfl⟩ fun g hg => Nat.le_of_eq hg.symm
theorem indexArr_run (hT : T.Ok P) (fr : FrD Df N a L) {o : Oper} {t : TypeId} {x ix : Operand} (ho : o.op = .indexAddr t x ix) {A : Addr} {n e s : Nat} {ki : IntKind} {i : Int} (hx : ev L x = some (.pointer (some A))) (hi : ev L ix = some (.int ki i))
    (ht : T.ty.lookup t = some (.array n e)) (hs : T.sz.lookup e = some s) (h0 : 0 ≤ i) (hlt : i < n) (w : World) : (execOp a.eval o).run P w = .ok (.value (.pointer (some (A.add (i.toNat * s))))) w := by
  unfold execOp
  simp only [ho, (fr.ev hx).1, (fr.ev hi).1, Instr.indexAt, asIntOf]
  simp [run_underlying (hT.und ht), size_run hT hs, h0, hlt, Instr.sureAddr]
theorem cell_arr {e b : Nat} {l : List α} (h : w.heap[b]? = some (.cells (l.map f).toArray e (0, 0))) {i : Nat} (hi : i < l.length) (dd : α) : w.cell? ((⟨b, 0, none⟩ : Addr).add (i * 1)) = some (f (l.getD i dd)) := by
  have e1 : (⟨b, 0, none⟩ : Addr).add (i * 1) = ⟨b, i, none⟩ := by unfold Addr.add; split <;> simp_all
  rw [e1, cell_of_row _ _ _ _ _ _ h]
  simp [List.getElem?_eq_getElem hi, List.getD_eq_getElem?_getD]
theorem wl_pa (hT : T.Ok P) {o : Oper} {rest : List Oper} {t : TypeId} {x ix : Operand} {d b n e : Nat} {ki : IntKind} {i : Int} (fr : FrD Df N a L) (hw : wantL ops L o = some true) (ho : o.op = .indexAddr t x ix) (hd : o.dst = some d) (hlt : Nat.blt d N = true) (hx : ev L x = some (.pointer (some ⟨b, 0, none⟩))) (hi : ev L ix = some (.int ki i))
    (ht : T.ty.lookup t = some (.array n e)) (hs : T.sz.lookup e = some 1) (hb : 0 ≤ i ∧ i < (n : Int)) (h : ∀ a', FrD Df N a' ((d, .pointer (some ((⟨b, 0, none⟩ : Addr).add (i.toNat * 1)))) :: L) → wpList P ops Q rest a' w) : wpList P ops Q (o :: rest) a w :=
  wl_val fr hw hd hlt (indexArr_run hT fr ho hx hi ht hs hb.1 hb.2 w) rfl h
theorem wl_lda (hT : T.Ok P) (dd : α) {o1 o2 : Oper} {rest : List Oper} {t te : TypeId} {x ix : Operand} {d1 d2 b n n' e e' : Nat} {l : List α} {ki : IntKind} {i : Int} {de : TypeDesc}
    (hr : w.heap[b]? = some (.cells (l.map f).toArray e (0, 0)) ∧ l.length = n ∧ ∀ z ∈ l, vok (f z) = true) (fr : FrD Df N a L) (hw : wantL ops L o1 = some true) (ho1 : o1.op = .indexAddr t x ix) (hd1 : o1.dst = some d1) (hw2 : wantL ops L o2 = some true) (ho2 : o2.op = .load te (.tmp d1)) (hd2 : o2.dst = some d2) (hl1 : Nat.blt d1 N = true) (hl2 : Nat.blt d2 N = true)
    (hx : ev L x = some (.pointer (some ⟨b, 0, none⟩))) (hi : ev L ix = some (.int ki i)) (ht : T.ty.lookup t = some (.array n' e')) (hn : n = n') (hs : T.sz.lookup e' = some 1) (hte : T.ty.lookup te = some de) (hde : aggD de = false) (hf : L.lookup d1 = none) (hb : 0 ≤ i ∧ i < (l.length : Int))
    (h : ∀ a', FrD Df N a' ((d2, f (l.getD i.toNat dd)) :: L) → wpList P ops Q rest a' w) : wpList P ops Q (o1 :: o2 :: rest) a w := by
  subst hn
  obtain ⟨h1, h2, h3⟩ := hr
  obtain ⟨j, rfl⟩ : ∃ j : Nat, i = j := ⟨i.toNat, by omega⟩
  have hj : j < l.length := by omega
  refine wl_val fr hw hd1 hl1 (indexArr_run hT fr ho1 hx hi ht hs (by omega) (by omega) w) rfl fun a1 fr1 => ?_
  have hw3 : wantL ops ((d1, .pointer (some ((⟨b, 0, none⟩ : Addr).add ((j : Int).toNat * 1)))) :: L) o2 = some true := by
    have hk := hw2
    unfold wantL at hk ⊢
    split at hk
    · exact hk
    · rename_i j' want hg'
      split at hk
      · rename_i t' ht'
        split at hk
        · rename_i b hb'
          have hne : t' ≠ d1 := fun e => by subst e; rw [hf] at hb'; cases hb'
          rw [lookup_cons, if_neg hne, hb']; exact hk
        · cases hk
        · cases hk
      · cases hk
  have hm : l.getD j dd ∈ l := by rw [List.getD_eq_getElem?_getD, List.getElem?_eq_getElem hj]; exact List.getElem_mem hj
  refine wl_val (v := f (l.getD j dd)) fr1 hw3 hd2 hl2 (load_run hT fr1 ho2 (by show ((d1, _) :: L).lookup d1 = _; rw [lookup_cons, if_pos rfl]) hte hde (by rw [Int.toNat_natCast]; exact cell_arr h1 hj dd)) (h3 _ hm) fun a2 fr2 => h a2 ?_
  refine ⟨fr2.size, fr2.defers, fun e u he => fr2.get e u ?_⟩
  rw [lookup_cons] at he ⊢
  by_cases h1 : e = d2
  · rw [if_pos h1] at he ⊢; rw [Int.toNat_natCast] at he; exact he
  · rw [if_neg h1] at he ⊢
    rw [lookup_cons]
    by_cases h2 : e = d1
    · subst h2; rw [hf] at he; cases he
    · rw [if_neg h2]; exact he
theorem sl_lda (hT : T.Ok P) (dd : α) {s1 s2 : SOp} {rest : List Itm} {t te : TypeId} {x ix : Operand} {d1 d2 b n n' e e' : Nat} {l : List α} {ki : IntKind} {i : Int} {de : TypeDesc}
    (hr : ∀ w, S' w → w.heap[b]? = some (.cells (l.map f).toArray e (0, 0)) ∧ l.length = n ∧ ∀ z ∈ l, vok (f z) = true) (fr : FrD Df N a L) (hw : wantS L s1 = some true) (hq : s1.q = true) (ho1 : s1.op = .indexAddr t x ix) (hd1 : s1.dst = some d1) (hw2 : wantS L s2 = some true) (hq2 : s2.q = true) (ho2 : s2.op = .load te (.tmp d1)) (hd2 : s2.dst = some d2) (hl1 : Nat.blt d1 N = true) (hl2 : Nat.blt d2 N = true)
    (hx : ev L x = some (.pointer (some ⟨b, 0, none⟩))) (hi : ev L ix = some (.int ki i)) (ht : T.ty.lookup t = some (.array n' e')) (hn : n = n') (hs : T.sz.lookup e' = some 1) (hte : T.ty.lookup te = some de) (hde : aggD de = false) (hf : L.lookup d1 = none) (hb : 0 ≤ i ∧ i < (l.length : Int)) (hS : S' w)
    (h : ∀ a', FrD Df N a' ((d2, f (l.getD i.toNat dd)) :: L) → SL P Q S' rest a' w) : SL P Q S' (.one s1 :: .one s2 :: rest) a w := by
  subst hn
  obtain ⟨h1, h2, h3⟩ := hr w hS
  obtain ⟨j, rfl⟩ : ∃ j : Nat, i = j := ⟨i.toNat, by omega⟩
  have hj : j < l.length := by omega
  refine sl_q fr hw hq hd1 hl1 (fun w' _ => indexArr_run hT fr (o := s1.oper) ho1 hx hi ht hs (by omega) (by omega) w') rfl fun a1 fr1 => ?_
  have hw3 : wantS ((d1, .pointer (some ((⟨b, 0, none⟩ : Addr).add ((j : Int).toNat * 1)))) :: L) s2 = some true := by
    have hk := hw2
    unfold wantS at hk ⊢
    split at hk
    · rename_i hg'; rw [hg'] at *
    · rename_i t' want hg'
      split at hk
      · rename_i b hb'
        have hne : t' ≠ d1 := fun e => by subst e; rw [hf] at hb'; cases hb'
        rw [lookup_cons, if_neg hne, hb']; exact hk
      · cases hk
      · cases hk
  have hm : l.getD j dd ∈ l := by rw [List.getD_eq_getElem?_getD, List.getElem?_eq_getElem hj]; exact List.getElem_mem hj
  refine sl_q (v := f (l.getD j dd)) fr1 hw3 hq2 hd2 hl2 (fun w' hS' => load_run hT fr1 (o := s2.oper) ho2 (by show ((d1, _) :: L).lookup d1 = _; rw [lookup_cons, if_pos rfl]) hte hde (by rw [Int.toNat_natCast]; exact cell_arr (hr w' hS').1 hj dd)) (h3 _ hm) fun a2 fr2 => h a2 ?_
  refine ⟨fr2.size, fr2.defers, fun e u he => fr2.get e u ?_⟩
  rw [lookup_cons] at he ⊢
  by_cases h1 : e = d2
  · rw [if_pos h1] at he ⊢; rw [Int.toNat_natCast] at he; exact he
  · rw [if_neg h1] at he ⊢
    rw [lookup_cons]
    by_cases h2 : e = d1
    · subst h2; rw [hf] at he; cases he
    · rw [if_neg h2]; exact he
theorem wl_sta (hT : T.Ok P) (z : α) {o : Oper} {rest : List Oper} {te : TypeId} {p v : Operand} {b n e : Nat} {l : List α} {i : Int} (fr : FrD Df N a L) (hw : wantL ops L o = some true) (hd : o.dst = none) (ho : o.op = .store te p v) (hp : ev L p = some (.pointer (some ((⟨b, 0, none⟩ : Addr).add (i.toNat * 1))))) (hv : ev L v = some (f z)) (hs : T.sz.lookup te = some 1)
    (hc : (f z).cells = #[f z]) (h1 : (f z).oneCell' = true) (S : Sat w0 w (arrA f e n b l :: R)) (hb : 0 ≤ i ∧ i < (n : Int)) (h : ∀ w', Sat w0 w' (arrA f e n b (l.set i.toNat z) :: R) → wpList P ops Q rest a w') : wpList P ops Q (o :: rest) a w := by
  obtain ⟨j, rfl⟩ : ∃ j : Nat, i = j := ⟨i.toNat, by omega⟩
  rw [Int.toNat_natCast] at h hp
  obtain ⟨F, ⟨g1, g2, g3, g4, g5⟩, hF, hk⟩ := S.opened
  have hj : j < l.length := by omega
  have e1 : (⟨b, 0, none⟩ : Addr).add (j * 1) = ⟨b, j, none⟩ := by unfold Addr.add; split <;> simp_all
  have hcell : w.cell? ⟨b, j, none⟩ = some (f l[j]) := by
    rw [cell_of_row _ _ _ _ _ _ g1]; simp [List.getElem?_eq_getElem hj]
  have hfz := frozen_of_row w b j _ _ g1
  have hrun : (storeCells (⟨b, j, none⟩ : Addr) [f z]).run P w = .ok () (w.setCell ⟨b, j, none⟩ (f z)) := by
    have h2 := run_storeCells_cells (P := P) b j [f z] 0 w (fun q hq => by
      have hq : q = 0 := by simpa using hq
      subst hq; simpa using by rw [hcell]; rfl) (fun q hq => by
      have hq : q = 0 := by simpa using hq
      subst hq; simpa using hfz) (fun u hu => by
      have hu : u = f z := by simpa using hu
      subst hu; exact h1)
    have h3 : (storeCells (⟨b, j, none⟩ : Addr) [f z]).run P w = .ok () (w.setCells b j [f z]) := by simpa using h2
    exact h3
  refine wl_skip (w' := w.setCell ⟨b, j, none⟩ (f z)) fr hw hd ?_ (h _ ?_)
  · unfold execOp
    simp only [ho, (fr.ev hp).1, (fr.ev hv).1, Instr.storeAt, Instr.sureAddr, storeVar, hc, e1]
    simp [size_run hT hs, hrun]
  · refine hk (A' := arrA f e n b (l.set j z)) (F' := F) (G := fun g => g = b) ⟨?_, by rw [List.length_set]; exact g2, fun u hu => ?_, g4, g5⟩ (Chg.setCell w ⟨b, j, none⟩ (f z)) (fun g _ hg => (g5 g).2 hg) fun g hg => .inl hg
    · have h3 := heap_setCell_same w b j _ e (f z) g1
      rw [h3]
      congr 2
      rw [List.map_set]
      simp
    · rcases List.mem_or_eq_of_mem_set hu with hu | hu
      · exact g3 u hu
      · subst hu; exact (fr.ev hv).2
/-- An element of an array by value. -/
theorem ix_run (hT : T.Ok P) (dd : α) (fr : FrD Df N a L) {o : Oper} {t : TypeId} {x ix : Operand} {n e : Nat} {l : List α} {ki : IntKind} {i : Int} {de : TypeDesc} (ho : o.op = .index t x ix) (hx : ev L x = some (.agg (l.map f).toArray)) (hi : ev L ix = some (.int ki i)) (hn : l.length = n) (ht : T.ty.lookup t = some (.array n e)) (hs : T.sz.lookup e = some 1) (hte : T.ty.lookup e = some de) (hde : aggD de = false)
    (hb : 0 ≤ i ∧ i < (l.length : Int)) (w : World) : (execOp a.eval o).run P w = .ok (.value (f (l.getD i.toNat dd))) w := by
  obtain ⟨j, rfl⟩ : ∃ j : Nat, i = j := ⟨i.toNat, by omega⟩
  have hj : j < l.length := by omega
  unfold execOp
  simp only [ho, (fr.ev hx).1, (fr.ev hi).1, Instr.index, asIntOf]
  have h1 : (0 : Int) ≤ j ∧ (j : Int) < n := by omega
  rw [Sem.run_bind, Sem.run_bind, Sem.run_pure, Result.andThen_ok]
  simp only
  rw [Sem.run_bind, run_underlying (hT.und ht), Result.andThen_ok]
  simp only
  rw [if_pos h1, Sem.run_bind, size_run hT hs, Result.andThen_ok]
  unfold part
  rw [Sem.run_bind, isAgg_run (hT.und hte), Result.andThen_ok, hde, if_neg (by decide)]
  simp [List.getElem?_eq_getElem hj, List.getD_eq_getElem?_getD]
theorem wl_ix (hT : T.Ok P) (dd : α) {o : Oper} {rest : List Oper} {t : TypeId} {x ix : Operand} {d n e : Nat} {l : List α} {ki : IntKind} {i : Int} {de : TypeDesc} (hf : ∀ z, vok (f z) = vok1 (f z)) (fr : FrD Df N a L) (hw : wantL ops L o = some true) (hd : o.dst = some d) (hlt : Nat.blt d N = true) (ho : o.op = .index t x ix) (hx : ev L x = some (.agg (l.map f).toArray)) (hi : ev L ix = some (.int ki i)) (hn : l.length = n) (ht : T.ty.lookup t = some (.array n e)) (hs : T.sz.lookup e = some 1) (hte : T.ty.lookup e = some de) (hde : aggD de = false)
    (hb : 0 ≤ i ∧ i < (l.length : Int)) (h : ∀ a', FrD Df N a' ((d, f (l.getD i.toNat dd)) :: L) → wpList P ops Q rest a' w) : wpList P ops Q (o :: rest) a w := by
  refine wl_val fr hw hd hlt (ix_run hT dd fr ho hx hi hn ht hs hte hde hb w) ?_ h
  rw [hf]
  have hj : i.toNat < l.length := by omega
  have hm : l.getD i.toNat dd ∈ l := by rw [List.getD_eq_getElem?_getD, List.getElem?_eq_getElem hj]; exact List.getElem_mem hj
  exact (List.all_eq_true.1 (show (l.map f).all vok1 = true from (fr.ev hx).2)) _ (List.mem_map_of_mem hm)
theorem sl_ix (hT : T.Ok P) (dd : α) {s : SOp} {rest : List Itm} {t : TypeId} {x ix : Operand} {d n e : Nat} {l : List α} {ki : IntKind} {i : Int} {de : TypeDesc} (hf : ∀ z, vok (f z) = vok1 (f z)) (fr : FrD Df N a L) (hw : wantS L s = some true) (hq : s.q = true) (hd : s.dst = some d) (hlt : Nat.blt d N = true) (ho : s.op = .index t x ix) (hx : ev L x = some (.agg (l.map f).toArray)) (hi : ev L ix = some (.int ki i)) (hn : l.length = n) (ht : T.ty.lookup t = some (.array n e)) (hs : T.sz.lookup e = some 1) (hte : T.ty.lookup e = some de) (hde : aggD de = false)
    (hb : 0 ≤ i ∧ i < (l.length : Int)) (h : ∀ a', FrD Df N a' ((d, f (l.getD i.toNat dd)) :: L) → SL P Q S' rest a' w) : SL P Q S' (.one s :: rest) a w := by
  refine sl_q fr hw hq hd hlt (fun w' _ => ix_run hT dd fr (o := s.oper) ho hx hi hn ht hs hte hde hb w') ?_ h
  rw [hf]
  have hj : i.toNat < l.length := by omega
  have hm : l.getD i.toNat dd ∈ l := by rw [List.getD_eq_getElem?_getD, List.getElem?_eq_getElem hj]; exact List.getElem_mem hj
  exact (List.all_eq_true.1 (show (l.map f).all vok1 = true from (fr.ev hx).2)) _ (List.mem_map_of_mem hm)
end
end Go.Proofs.YticnjkdaccacaaaGreatDoor.Sx
end
