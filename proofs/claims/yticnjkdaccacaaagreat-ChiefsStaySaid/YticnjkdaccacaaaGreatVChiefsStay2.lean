/- Texts of this work, one behind the other. -/
import Derived.Test.YticnjkdaccacaaaGreatVChiefsStay1
import Derived.Scope
import Derived.Deep.MidRow
import Derived.Great.BuildSlice
set_option maxRecDepth 100000
set_option maxHeartbeats 16000000
section
namespace Go.Proofs.YticnjkdaccacaaaGreat.Sx
open Go Go.RowKit Base Oq
theorem blt_lt {d N : Nat} (h : Nat.blt d N = true) : d < N := Nat.le_of_ble_eq_true h
section
variable {P : Program} {T : Orc} {ops : Array Oper} {Q : Exit → Act → World → Prop} {Df : List Deferred} {N : Nat} {a : Act} {w : World} {L L' : Env}
def wantL (ops : Array Oper) (L : Env) (o : Oper) : Option Bool :=
 match o.guard with
 | none => some true
 | some (j, want) => match (ops[j]?).bind (·.dst) with
  | some t => match L.lookup t with
   | some (.bool b) => some (b == want)
   | some (.tuple _) => some false
   | _ => none
  | none => none
theorem wantL_run (fr : FrD Df N a L) {o : Oper} {b : Bool} (h : wantL ops L o = some b) : Region.wanted o (yielded ops a.tmps) = b := by
 unfold wantL at h
 split at h
 ·rename_i hg
  injection h with h; subst h
  simp [Region.wanted, hg]
 ·rename_i j want hg
  split at h
  ·rename_i t ht
   split at h
   ·rename_i c hc
    injection h with h; subst h
    have := (fr.get _ _ hc).1
    simp only [Region.wanted, hg, yielded, ht, Option.bind_some]
    rw [this]; simp
   ·rename_i c hc
    injection h with h; subst h
    have := (fr.get _ _ hc).1
    simp only [Region.wanted, hg, yielded, ht, Option.bind_some]
    rw [this]; rfl
   ·cases h
  ·cases h
def stepL (T : Orc) (N : Nat) (ops : Array Oper) (o : Oper) (L : Env) : Option Env :=
 match o.dst with
 | none => none
 | some d => if d < N then
   match wantL ops L o with
   | some true => match pureOp T L o.op with
    | some v => some ((d, v) :: L)
    | none => none
   | some false => some ((d, undef) :: L)
   | none => none
  else none
def runL (T : Orc) (N : Nat) (ops : Array Oper) : Nat → List Oper → Env → Option (List Oper × Env)
 | 0, l, L => some (l, L)
 | _ + 1, [], _ => none
 | n + 1, o :: r, L => match stepL T N ops o L with
  | some L' => runL T N ops n r L'
  | none => none
theorem wl_op {o : Oper} {rest : List Oper} (fr : FrD Df N a L) (hw : wantL ops L o = some true) (h : ∀ K : Act → World → Prop, (∀ a w, wpList P ops Q rest a w → K a w) → o.wp P a w K Q) : wpList P ops Q (o :: rest) a w :=
 wpList_step fun K hK => by rw [wantL_run fr hw, if_pos rfl]; exact h K hK
theorem wl_no {o : Oper} {rest : List Oper} (fr : FrD Df N a L) (hw : wantL ops L o = some false) (h : wpList P ops Q rest (a.put o.dst undef) w) : wpList P ops Q (o :: rest) a w :=
 wpList_step fun K hK => by rw [wantL_run fr hw, if_neg (by decide)]; exact hK _ _ h
theorem wl_run (hT : T.Ok P) : ∀ (n : Nat) {l rest : List Oper} {L L' : Env} {a : Act}, runL T N ops n l L = some (rest, L') → FrD Df N a L → (∀ a', FrD Df N a' L' → wpList P ops Q rest a' w) → wpList P ops Q l a w := by
 intro n
 induction n with
 | zero => intro l rest L L' a hr fr h; simp only [runL, Option.some.injEq, Prod.mk.injEq] at hr; obtain ⟨rfl, rfl⟩ := hr; exact h a fr
 | succ n ih =>
  intro l rest L L' a hr fr h
  cases l with
  | nil => simp [runL] at hr
  | cons o r =>
   simp only [runL] at hr
   split at hr
   ·rename_i L1 h1
    unfold stepL at h1
    split at h1
    ·cases h1
    ·rename_i d hd
     split at h1
     ·rename_i hlt
      split at h1
      ·rename_i hw
       split at h1
       ·rename_i v hv
        injection h1 with h1; subst h1
        obtain ⟨e1, e2⟩ := pure_run hT fr hv w
        refine wl_op fr hw fun K hK => ?_
        refine wp_value e1 (hK _ _ ?_)
        rw [hd]
        exact ih hr (fr.put hlt e2) h
       ·cases h1
      ·rename_i hw
       injection h1 with h1; subst h1
       refine wl_no fr hw ?_
       rw [hd]
       exact ih hr (fr.put hlt rfl) h
      ·cases h1
     ·cases h1
   ·cases hr
theorem w_ (hT : T.Ok P) {l rest : List Oper} {L L' : Env} {a : Act} (h : runL T N ops 1 l L = some (rest, L')) (fr : FrD Df N a L) (k : ∀ a', FrD Df N a' L' → wpList P ops Q rest a' w) : wpList P ops Q l a w := wl_run hT 1 h fr k
theorem wl_val {o : Oper} {rest : List Oper} {d : Nat} {v : Value} {w' : World} (fr : FrD Df N a L) (hw : wantL ops L o = some true) (hd : o.dst = some d) (hlt : Nat.blt d N = true) (hrun : (execOp a.eval o).run P w = .ok (.value v) w') (hv : vok v = true)
  (h : ∀ a', FrD Df N a' ((d, v) :: L) → wpList P ops Q rest a' w') : wpList P ops Q (o :: rest) a w :=
 wl_op fr hw fun K hK => wp_value hrun (hK _ _ (by rw [hd]; exact h _ (fr.put (blt_lt hlt) hv)))
theorem wp_skipv {o : Oper} {K : Act → World → Prop} {Q' : Exit → Act → World → Prop} {w' : World} (h : (execOp a.eval o).run P w = .ok .skip w') (hK : K (a.put o.dst undef) w') : Oper.wp P o a w K Q' := by
 unfold Oper.wp
 rw [h, Oper.upon_skip]
 exact hK
theorem wl_skip {o : Oper} {rest : List Oper} {w' : World} (fr : FrD Df N a L) (hw : wantL ops L o = some true) (hd : o.dst = none) (hrun : (execOp a.eval o).run P w = .ok .skip w') (h : wpList P ops Q rest a w') : wpList P ops Q (o :: rest) a w :=
 wl_op fr hw fun K hK => wp_skipv hrun (hK _ _ (by rw [hd]; exact h))
def callL (L : Env) (o : Oper) : Option (FuncId × List Value) :=
 match o.op with
 | .call c => match c.callee with
  | .value (.func f) => (evs L c.args.toList).map fun xs => (f, xs)
  | _ => none
 | _ => none
def Enters (P : Program) (f : FuncId) : Prop := ∀ xs W, (callFunc f xs).run P W = .ok (.enter f xs) W
theorem call_run (fr : FrD Df N a L) {o : Oper} {f : FuncId} {xs : List Value} (h : callL L o = some (f, xs)) (hin : Enters P f) (w : World) : (execOp a.eval o).run P w = .ok (.enter f xs.toArray) w := by
 unfold callL at h
 split at h
 ·rename_i c hc
  split at h
  ·rename_i g hg
   simp only [Option.map_eq_some_iff, Prod.mk.injEq] at h
   obtain ⟨ys, h1, rfl, rfl⟩ := h
   have e : c.args.map a.eval = ys.toArray := by
    apply Array.toList_inj.1
    rw [Array.toList_map, (evs_run fr h1).1]
   unfold execOp
   simp only [hc, resolve, hg, Act.eval, Deferred.ofValue]
   rw [Sem.run_bind, Sem.run_pure, Result.andThen_ok]
   simp only [invoke]
   have e3 := hin ys.toArray w
   rw [← e] at e3 ⊢
   simpa using e3
  ·cases h
 ·cases h
theorem wp_call {o : Oper} {f : FuncId} {args : Array Value} {K : Act → World → Prop} {Q' : Exit → Act → World → Prop} (hrun : (execOp a.eval o).run P w = .ok (.enter f args) w) (h : Calls P f args w fun e w' => ∃ v, e = .returned v ∧ K (a.put o.dst v) w') : Oper.wp P o a w K Q' := by
 unfold Oper.wp
 rw [hrun, Oper.upon_enter]
 refine h.mono fun e w'' hh => ?_
 obtain ⟨v, rfl, hk⟩ := hh
 exact hk
theorem wl_call {o : Oper} {rest : List Oper} {d : Nat} {f : FuncId} {xs : List Value} {R : Ending → World → Prop} (fr : FrD Df N a L) (hw : wantL ops L o = some true) (hd : o.dst = some d) (hlt : Nat.blt d N = true) (hc : callL L o = some (f, xs)) (hin : Enters P f) (hcon : Calls P f xs.toArray w R)
  (h : ∀ e w', R e w' → ∃ v, e = .returned v ∧ vok v = true ∧ ∀ a', FrD Df N a' ((d, v) :: L) → wpList P ops Q rest a' w') : wpList P ops Q (o :: rest) a w :=
 wl_op fr hw fun K hK => wp_call (call_run fr hc hin w) (hcon.mono fun e w' hR => by
  obtain ⟨v, he, hv, hk⟩ := h e w' hR
  exact ⟨v, he, hK _ _ (by rw [hd]; exact hk _ (fr.put (blt_lt hlt) hv))⟩)
theorem wl_split {l : List Oper} {ρ : Type} {E1 E2 : Option ρ} {r : ρ} {b : Bool} (d : Nat) (fr : FrD Df N a L) (hd : L.lookup d = some (.bool b)) (h : (if b = true then E1 else E2) = some r)
  (ht : FrD Df N a ((d, .bool true) :: L) → E1 = some r → wpList P ops Q l a w) (hf : FrD Df N a ((d, .bool false) :: L) → E2 = some r → wpList P ops Q l a w) : wpList P ops Q l a w := by
 by_cases hb : b = true
 ·rw [if_pos hb] at h; exact ht (fr.bool hd hb) h
 ·rw [if_neg hb] at h; exact hf (fr.bool hd (by simpa using hb)) h
end
section
variable {P : Program} {T : Orc} {Q : Exit → Act → World → Prop} {S : World → Prop} {Df : List Deferred} {N : Nat} {a : Act} {w : World} {L L' : Env}
def wantS (L : Env) (s : SOp) : Option Bool :=
 match s.g with
 | none => some true
 | some (t, want) => match L.lookup t with
  | some (.bool b) => some (b == want)
  | some (.tuple _) => some false
  | _ => none
theorem wantS_run (fr : FrD Df N a L) {s : SOp} {b : Bool} (h : wantS L s = some b) : s.wanted a.tmps = b := by
 obtain ⟨q, dst, op, ty, g⟩ := s
 unfold wantS at h
 unfold SOp.wanted
 cases g with
 | none => injection h with h
 | some g =>
  obtain ⟨t, want⟩ := g
  simp only at h ⊢
  split at h
  ·rename_i c hc
   injection h with h; subst h
   have := (fr.get _ _ hc).1
   rw [Array.getD_eq_getD_getElem?, this]; rfl
  ·rename_i c hc
   injection h with h; subst h
   have := (fr.get _ _ hc).1
   rw [Array.getD_eq_getD_getElem?, this]; rfl
  ·cases h
def stepS (T : Orc) (N : Nat) (s : SOp) (L : Env) : Option Env :=
 match s.dst with
 | none => none
 | some d => if d < N then
   match wantS L s with
   | some true => match pureOp T L s.op with
    | some v => some ((d, v) :: L)
    | none => none
   | some false => some ((d, undef) :: L)
   | none => none
  else none
def runS (T : Orc) (N : Nat) : Nat → List Itm → Env → Option (List Itm × Env)
 | 0, l, L => some (l, L)
 | n + 1, .one s :: r, L => if s.q then match stepS T N s L with
  | some L' => runS T N n r L'
  | none => none else none
 | _ + 1, _, _ => none
theorem sl_run (hT : T.Ok P) : ∀ (n : Nat) {l rest : List Itm} {L L' : Env} {a : Act}, runS T N n l L = some (rest, L') → FrD Df N a L → (∀ a', FrD Df N a' L' → SL P Q S rest a' w) → SL P Q S l a w := by
 intro n
 induction n with
 | zero => intro l rest L L' a hr fr h; simp only [runS, Option.some.injEq, Prod.mk.injEq] at hr; obtain ⟨rfl, rfl⟩ := hr; exact h a fr
 | succ n ih =>
  intro l rest L L' a hr fr h
  cases l with
  | nil => simp [runS] at hr
  | cons i r =>
   cases i with
   | two s t => simp [runS] at hr
   | one s =>
    simp only [runS] at hr
    split at hr
    ·rename_i hq
     split at hr
     ·rename_i L1 h1
      unfold stepS at h1
      split at h1
      ·cases h1
      ·rename_i d hd
       split at h1
       ·rename_i hlt
        split at h1
        ·rename_i hw
         split at h1
         ·rename_i v hv
          injection h1 with h1; subst h1
          refine .inr (.inl ⟨wantS_run fr hw, hq, v, fun w' _ => (pure_run hT fr (o := s.oper) hv w').1, ?_⟩)
          rw [hd]
          exact ih hr (fr.put hlt (pure_run hT fr (o := s.oper) hv w).2) h
         ·cases h1
        ·rename_i hw
         injection h1 with h1; subst h1
         refine .inl ⟨wantS_run fr hw, .inl hq, ?_⟩
         rw [hd]
         exact ih hr (fr.put hlt rfl) h
        ·cases h1
       ·cases h1
     ·cases hr
    ·cases hr
theorem sl_q {s : SOp} {rest : List Itm} {d : Nat} {v : Value} (fr : FrD Df N a L) (hw : wantS L s = some true) (hq : s.q = true) (hd : s.dst = some d) (hlt : Nat.blt d N = true) (hrun : ∀ w', S w' → (execOp a.eval s.oper).run P w' = .ok (.value v) w') (hv : vok v = true)
  (h : ∀ a', FrD Df N a' ((d, v) :: L) → SL P Q S rest a' w) : SL P Q S (.one s :: rest) a w :=
 .inr (.inl ⟨wantS_run fr hw, hq, v, hrun, by rw [hd]; exact h _ (fr.put (blt_lt hlt) hv)⟩)
theorem sl_val {s : SOp} {rest : List Itm} {d : Nat} {v : Value} {w' : World} (fr : FrD Df N a L) (hw : wantS L s = some true) (hq : s.q = false) (hd : s.dst = some d) (hlt : Nat.blt d N = true) (hrun : (execOp a.eval s.oper).run P w = .ok (.value v) w') (hS : S w') (hv : vok v = true)
  (h : ∀ a', FrD Df N a' ((d, v) :: L) → SL P Q S rest a' w') : SL P Q S (.one s :: rest) a w :=
 .inr (.inr ⟨wantS_run fr hw, hq, fun _ hK => wp_value hrun (hK _ _ hS (by show SL P Q S rest (a.put s.dst v) w'; rw [hd]; exact h _ (fr.put (blt_lt hlt) hv)))⟩)
theorem sl_skip {s : SOp} {rest : List Itm} {w' : World} (fr : FrD Df N a L) (hw : wantS L s = some true) (hq : s.q = false) (hd : s.dst = none) (hrun : (execOp a.eval s.oper).run P w = .ok .skip w') (hS : S w') (h : SL P Q S rest a w') : SL P Q S (.one s :: rest) a w :=
 .inr (.inr ⟨wantS_run fr hw, hq, fun _ hK => wp_skipv hrun (hK _ _ hS (by show SL P Q S rest (a.put s.dst undef) w'; rw [hd]; exact h))⟩)
theorem sl_call {s : SOp} {rest : List Itm} {d : Nat} {f : FuncId} {xs : List Value} {R : Ending → World → Prop} (fr : FrD Df N a L) (hw : wantS L s = some true) (hq : s.q = false) (hd : s.dst = some d) (hlt : Nat.blt d N = true) (hc : callL L s.oper = some (f, xs)) (hin : Enters P f) (hcon : Calls P f xs.toArray w R)
  (h : ∀ e w', R e w' → ∃ v, e = .returned v ∧ vok v = true ∧ S w' ∧ ∀ a', FrD Df N a' ((d, v) :: L) → SL P Q S rest a' w') : SL P Q S (.one s :: rest) a w :=
 .inr (.inr ⟨wantS_run fr hw, hq, fun _ hK => wp_call (call_run fr hc hin w) (hcon.mono fun e w' hR => by
  obtain ⟨v, he, hv, hS, hk⟩ := h e w' hR
  exact ⟨v, he, hK _ _ hS (by show SL P Q S rest (a.put s.dst v) w'; rw [hd]; exact hk _ (fr.put (blt_lt hlt) hv))⟩)⟩)
theorem sl_no {s : SOp} {rest : List Itm} {d : Nat} (fr : FrD Df N a L) (hw : wantS L s = some false) (hS : S w) (hd : s.dst = some d) (hlt : Nat.blt d N = true) (h : ∀ a', FrD Df N a' ((d, undef) :: L) → SL P Q S rest a' w) : SL P Q S (.one s :: rest) a w :=
 .inl ⟨wantS_run fr hw, .inr hS, by rw [hd]; exact h _ (fr.put (blt_lt hlt) rfl)⟩
theorem sl_split {l : List Itm} {ρ : Type} {E1 E2 : Option ρ} {r : ρ} {b : Bool} (d : Nat) (fr : FrD Df N a L) (hd : L.lookup d = some (.bool b)) (h : (if b = true then E1 else E2) = some r)
  (ht : FrD Df N a ((d, .bool true) :: L) → E1 = some r → SL P Q S l a w) (hf : FrD Df N a ((d, .bool false) :: L) → E2 = some r → SL P Q S l a w) : SL P Q S l a w := by
 by_cases hb : b = true
 ·rw [if_pos hb] at h; exact ht (fr.bool hd hb) h
 ·rw [if_neg hb] at h; exact hf (fr.bool hd (by simpa using hb)) h
end
section
variable {P : Program} {Q : Exit → Act → World → Prop} {Df : List Deferred} {N : Nat} {a : Act} {w : World} {L : Env}
theorem then_n {K : Act → World → Prop} (h : K a w) : Exit.then K Q .normal a w := h
theorem then_e {K : Act → World → Prop} {id : Nat} (h : Q (.exit id) a w) : Exit.then K Q (.exit id) a w := h
theorem then_r {K : Act → World → Prop} (h : Q .ret a w) : Exit.then K Q .ret a w := h
theorem blk_n {id : Nat} (h : Q .normal a w) : Exit.inBlock id Q .normal a w := h
theorem blk_r {id : Nat} (h : Q .ret a w) : Exit.inBlock id Q .ret a w := h
theorem blk_y {id : Nat} (h : Q .normal a w) : Exit.inBlock id Q (.exit id) a w := by simp only [Exit.inBlock, if_true]; exact h
theorem blk_e {id j : Nat} (hj : (j == id) = false) (h : Q (.exit j) a w) : Exit.inBlock id Q (.exit j) a w := by
 have : ¬ j = id := by simpa using hj
 simp only [Exit.inBlock, if_neg this]; exact h
theorem cw_if {c : Operand} {x y : Code} {ρ : Type} {E1 E2 : Option ρ} {r : ρ} {b : Bool} (fr : FrD Df N a L) (hc : ev L c = some (.bool b)) (h : (if b = true then E1 else E2) = some r) (ht : E1 = some r → x.wp P Q a w) (hf : E2 = some r → y.wp P Q a w) : (Code.cond c x y).wp P Q a w := by
 refine wp_cond_split (fr.ev hc).1 (fun hb => ?_) (fun hb => ?_)
 ·rw [if_pos hb] at h; exact ht h
 ·rw [hb, if_neg (by decide)] at h; exact hf h
theorem cw_t {c : Operand} {x y : Code} (fr : FrD Df N a L) (hc : ev L c = some (.bool true)) (h : x.wp P Q a w) : (Code.cond c x y).wp P Q a w := wp_cond_true (fr.ev hc).1 h
theorem cw_f {c : Operand} {x y : Code} (fr : FrD Df N a L) (hc : ev L c = some (.bool false)) (h : y.wp P Q a w) : (Code.cond c x y).wp P Q a w := wp_cond_false (fr.ev hc).1 h
theorem cw_cut {x y : Code} (M : Act → World → Prop) (hx : x.wp P (Exit.then M Q) a w) (hy : ∀ a w, M a w → y.wp P Q a w) : (Code.seq x y).wp P Q a w :=
 wp_seq (wp_mono hx fun e a w h => by cases e <;> first | exact hy _ _ h | exact h)
theorem ng_n (h : Q .normal a w) : Exit.noGoto Q .normal a w := h
theorem ng_r (h : Q .ret a w) : Exit.noGoto Q .ret a w := h
theorem ng_e {id : Nat} (h : Q (.exit id) a w) : Exit.noGoto Q (.exit id) a w := h
theorem least {p : Nat → Prop} (h : ∃ n, p n) : ∃ n, p n ∧ ∀ m, p m → n ≤ m := by
 obtain ⟨n, hn⟩ := h
 induction n using Nat.strongRecOn with
 | _ n ih =>
  by_cases h2 : ∃ m, m < n ∧ p m
  ·obtain ⟨m, h3, h4⟩ := h2; exact ih m h3 h4
  ·exact ⟨n, hn, fun m hm => Nat.le_of_not_lt fun h => h2 ⟨m, h, hm⟩⟩
theorem cw_loop {c : Code} (I : Nat → Act → World → Prop) (k : Nat) (h0 : I k a w) (hz : ∀ a w, ¬ I 0 a w) (hs : ∀ k a w, I (k + 1) a w → c.wp P (Exit.then (I k) Q) a w) : (Code.loop c).wp P Q a w := by
 classical
 refine wp_loop (fun a w => ∃ k, I k a w) (fun a w => if h : ∃ k, I k a w then (least h).choose else 0) ⟨k, h0⟩ fun a w hI => ?_
 obtain ⟨h1, h2⟩ := (least hI).choose_spec
 generalize hn : (least hI).choose = n at h1 h2
 have hn' : (if h : ∃ k, I k a w then (least h).choose else 0) = n := by rw [dif_pos hI]; exact hn
 rw [hn']
 cases n with
 | zero => exact absurd h1 (hz _ _)
 | succ n =>
  refine wp_mono (hs _ _ _ h1) fun e a' w' h => ?_
  cases e <;> first | exact h | skip
  have h3 : I n a' w' := h
  refine ⟨⟨n, h3⟩, ?_⟩
  rw [dif_pos ⟨n, h3⟩]
  have := (least (p := fun k => I k a' w') ⟨n, h3⟩).choose_spec.2 n h3
  omega
theorem ret1 {fn : Func} {R : Ending → World → Prop} {t : Nat} {v : Value} (fr : Fr N a L) (hres : fn.results = #[.tmp t]) (hv : L.lookup t = some v) (hR : R (.returned v) w) : bodyPost P fn R .ret a w :=
 bodyPost_ret (v := v) (by rw [results_tmp hres, Array.getD_eq_getD_getElem?, (fr.get _ _ hv).1]; rfl) fr.defers hR
theorem ret2 {fn : Func} {R : Ending → World → Prop} {t u : Nat} {v z : Value} (fr : Fr N a L) (hres : fn.results = #[.tmp t, .tmp u]) (hv : L.lookup t = some v) (hz : L.lookup u = some z) (hR : R (.returned (.tuple #[v, z])) w) : bodyPost P fn R .ret a w :=
 bodyPost_ret (v := .tuple #[v, z]) (by rw [results_tmp2 hres, Array.getD_eq_getD_getElem?, Array.getD_eq_getD_getElem?, (fr.get _ _ hv).1, (fr.get _ _ hz).1]; rfl) fr.defers hR
theorem ret3 {fn : Func} {R : Ending → World → Prop} {t u s : Nat} {v z y : Value} (fr : Fr N a L) (hres : fn.results = #[.tmp t, .tmp u, .tmp s]) (hv : L.lookup t = some v) (hz : L.lookup u = some z) (hy : L.lookup s = some y) (hR : R (.returned (.tuple #[v, z, y])) w) : bodyPost P fn R .ret a w :=
 bodyPost_ret (v := .tuple #[v, z, y]) (by
  have e : (results fn a.tmps).run P w = .ok (.tuple #[a.tmps.getD t undef, a.tmps.getD u undef, a.tmps.getD s undef]) w := by simp [results, hres]
  rw [e, Array.getD_eq_getD_getElem?, Array.getD_eq_getD_getElem?, Array.getD_eq_getD_getElem?, (fr.get _ _ hv).1, (fr.get _ _ hz).1, (fr.get _ _ hy).1]; rfl) fr.defers hR
theorem ret0 {fn : Func} {R : Ending → World → Prop} (fr : Fr N a L) (hres : fn.results = #[]) (hR : R (.returned (.tuple #[])) w) : bodyPost P fn R .ret a w :=
 bodyPost_ret (v := .tuple #[]) (results_none hres _ _ _) fr.defers hR
theorem end_ret {fn : Func} {R : Ending → World → Prop} (h : bodyPost P fn R .ret a w) : bodyPost P fn R .normal a w := h
theorem calls_start {f : FuncId} {fn : Func} {c : Code} {R : Ending → World → Prop} (xs : List Value) (hf : P.funcs[f]? = some fn) (hb : fn.body = some c) (hN : fn.ntmps = N) (hl : Nat.ble xs.length N = true) (hv : xs.all vok = true)
  (h : ∀ a, Fr N a (EnvOf 0 xs) → c.wp P (bodyPost P fn R) a w) : Calls P f xs.toArray w R := by
 refine calls_of_wp hf hb (h _ ?_)
 subst hN
 have := Fr.start fn.ntmps xs (Nat.le_of_ble_eq_true hl) hv
 simpa using this
theorem ifs {ρ : Type} {c : Prop} [Decidable c] {E : Option ρ} {r : ρ} (h : (if c then E else none) = some r) : c ∧ E = some r := by
 split at h
 ·exact ⟨by assumption, h⟩
 ·cases h
def lt {α ρ : Type} (e : α) (f : α → Option ρ) : Option ρ := f e
theorem lt_h {α ρ : Type} {e : α} {f : α → Option ρ} {r : ρ} (h : lt e f = some r) : ∃ x, e = x ∧ f x = some r := ⟨e, rfl, h⟩
theorem lt_is {α ρ : Type} {e v : α} {f : α → Option ρ} (h : e = v) : lt e f = f v := by subst h; rfl
theorem bnd {α ρ : Type} {x : Option α} {f : α → Option ρ} {r : ρ} (h : x.bind f = some r) : ∃ y, x = some y ∧ f y = some r := Option.bind_eq_some_iff.1 h
end
structure Asn where
 holds : World → Nat → (Nat → Prop) → Prop
 keep : ∀ {w w' : World} {B : Nat} {F G : Nat → Prop}, holds w B F → Chg G w w' → (∀ k, F k → ¬ G k) → (∀ k, k < B → ¬ G k) → holds w' B F
 dom : ∀ {w : World} {B : Nat} {F : Nat → Prop}, holds w B F → ∀ k, F k → B ≤ k ∧ k < w.heap.size
def SatF (w : World) (B : Nat) : (Nat → Prop) → List Asn → Prop
 | _, [] => True
 | U, A :: L => ∃ F, A.holds w B F ∧ (∀ k, F k → ¬ U k) ∧ SatF w B (fun k => U k ∨ F k) L
structure Sat (w0 w : World) (L : List Asn) : Prop where
 below : Below w0.heap.size w0 w
 parts : SatF w w0.heap.size (fun _ => False) L
section
variable {w0 w w' : World} {B : Nat} {U V : Nat → Prop} {A A' : Asn} {L M X Y : List Asn}
theorem SatF.weak : ∀ {L : List Asn} {U V : Nat → Prop}, SatF w B U L → (∀ k, V k → U k) → SatF w B V L := by
 intro L
 induction L with
 | nil => intro _ _ _ _; trivial
 | cons A L ih =>
  rintro U V ⟨F, h1, h2, h3⟩ hv
  exact ⟨F, h1, fun k hk hv' => h2 k hk (hv k hv'), ih h3 fun k hk => hk.imp (hv k) id⟩
theorem SatF.swap {A A' : Asn} (h : SatF w B U (A :: A' :: L)) : SatF w B U (A' :: A :: L) := by
 obtain ⟨F, h1, h2, F', h3, h4, h5⟩ := h
 exact ⟨F', h3, fun k hk hu => h4 k hk (.inl hu), F, h1, fun k hk hu => hu.elim (h2 k hk) (fun hf => h4 k hf (.inr hk)), h5.weak fun k hk => by
  rcases hk with (h | h) | h
  ·exact .inl (.inl h)
  ·exact .inr h
  ·exact .inl (.inr h)⟩
theorem SatF.front : ∀ {X : List Asn} {U : Nat → Prop}, SatF w B U (X ++ A :: Y) → SatF w B U (A :: (X ++ Y)) := by
 intro X
 induction X with
 | nil => intro U h; exact h
 | cons C X ih =>
  rintro U ⟨F, h1, h2, h3⟩
  exact SatF.swap ⟨F, h1, h2, ih h3⟩
theorem Sat.front (X : List Asn) {A : Asn} {Y : List Asn} (h : Sat w0 w (X ++ A :: Y)) : Sat w0 w (A :: (X ++ Y)) := ⟨h.below, h.parts.front⟩
theorem Sat.tl (h : Sat w0 w (A :: L)) : Sat w0 w L := by
 obtain ⟨F, _, _, h3⟩ := h.parts
 exact ⟨h.below, h3.weak fun _ hk => hk.elim⟩
theorem Sat.start (w : World) : Sat w w [] := ⟨Below.refl _ _, trivial⟩
theorem SatF.keptU {G : Nat → Prop} (hc : Chg G w w') (hB : ∀ k, k < B → ¬ G k) (h0 : ∀ k, k < w.heap.size → ¬ G k) : ∀ {L : List Asn} {U : Nat → Prop}, SatF w B U L → SatF w' B U L := by
 intro L
 induction L with
 | nil => intro _ _; trivial
 | cons A L ih =>
  rintro U ⟨F, h1, h2, h3⟩
  exact ⟨F, A.keep h1 hc (fun k hk hg => h0 k (A.dom h1 k hk).2 hg) hB, h2, ih h3⟩
theorem Sat.new (h : Sat w0 w L) (hb : Below w.heap.size w w') : Sat w0 w' L :=
 ⟨h.below.trans (below_weak h.below.size hb), h.parts.keptU (Chg.of_new hb) (fun _ _ h => h) (fun _ _ h => h)⟩
theorem Sat.drew (h : Sat w0 w L) : Sat w0 w.drew L := h.new (Below.refl _ _).drew
theorem Sat.alloc (h : Sat w0 w L) (o : Obj) : Sat w0 (w.alloc o) L := h.new ((Below.refl _ _).alloc (Nat.le_refl _) o)
theorem Sat.add {F : Nat → Prop} (h : Sat w0 w L) (hb : Below w.heap.size w w') (hA : A.holds w' w0.heap.size F) (hF : ∀ k, F k → w.heap.size ≤ k) : Sat w0 w' (A :: L) := by
 have h2 := h.new hb
 refine ⟨h2.below, F, hA, fun _ _ h => h, ?_⟩
 have key : ∀ {L : List Asn} {U : Nat → Prop}, SatF w w0.heap.size U L → SatF w' w0.heap.size (fun k => U k ∨ F k) L := by
  intro L
  induction L with
  | nil => intro _ _; trivial
  | cons C L ih =>
   rintro U ⟨G, h1, h2, h3⟩
   refine ⟨G, C.keep h1 (Chg.of_new hb) (fun _ _ h => h) (fun _ _ h => h), fun k hk hu => ?_, (ih h3).weak fun k hk => ?_⟩
   ·rcases hu with hu | hu
    ·exact h2 k hk hu
    ·have := (C.dom h1 k hk).2; have := hF k hu; omega
   ·rcases hk with (h | h) | h
    ·exact .inl (.inl h)
    ·exact .inr h
    ·exact .inl (.inr h)
 exact key h.parts
theorem Sat.opened (h : Sat w0 w (A :: L)) : ∃ F, A.holds w w0.heap.size F ∧ (∀ k, F k → w0.heap.size ≤ k ∧ k < w.heap.size) ∧
  ∀ {A' : Asn} {w' : World} {F' G : Nat → Prop}, A'.holds w' w0.heap.size F' → Chg G w w' → (∀ k, k < w.heap.size → G k → F k) → (∀ k, F' k → F k ∨ w.heap.size ≤ k) → Sat w0 w' (A' :: L) := by
 obtain ⟨F, h1, h2, h3⟩ := h.parts
 refine ⟨F, h1, A.dom h1, fun {A' w' F' G} hA' hc hG hF' => ?_⟩
 have hc' : Chg F w w' := hc.mono hG
 have hB : ∀ k, k < w0.heap.size → ¬ F k := fun k hk hf => by have := (A.dom h1 k hf).1; omega
 refine ⟨hc'.below h.below h.below.size (fun k hk => (A.dom h1 k hk).1), F', hA', fun _ _ h => h, ?_⟩
 have key : ∀ {L : List Asn} {U : Nat → Prop}, (∀ k, F k → U k) → SatF w w0.heap.size U L → SatF w' w0.heap.size (fun k => U k ∨ F' k) L := by
  intro L
  induction L with
  | nil => intro _ _ _; trivial
  | cons C L ih =>
   rintro U hU ⟨H, h1, h2, h3⟩
   refine ⟨H, C.keep h1 hc' (fun k hk hf => h2 k hk (hU k hf)) hB, fun k hk hu => ?_, (ih (fun k hk => .inl (hU k hk)) h3).weak fun k hk => ?_⟩
   ·rcases hu with hu | hu
    ·exact h2 k hk hu
    ·rcases hF' k hu with h | h
     ·exact h2 k hk (hU k h)
     ·have := (C.dom h1 k hk).2; omega
   ·rcases hk with (h | h) | h
    ·exact .inl (.inl h)
    ·exact .inr h
    ·exact .inl (.inr h)
 exact (key (U := fun k => False ∨ F k) (fun k hk => .inr hk) h3).weak fun k hk => hk.elim (fun h => h.elim) .inr
theorem erase_split : ∀ {L : List Asn} {i : Nat}, L[i]? = some A → L = L.take i ++ A :: L.drop (i + 1) ∧ L.eraseIdx i = L.take i ++ L.drop (i + 1) := by
 intro L
 induction L with
 | nil => intro i h; simp at h
 | cons C L ih =>
  intro i h
  cases i with
  | zero => simp at h; subst h; exact ⟨rfl, rfl⟩
  | succ i =>
   obtain ⟨h1, h2⟩ := ih (by simpa using h)
   exact ⟨by simp only [List.take_succ_cons, List.drop_succ_cons, List.cons_append]; rw [← h1], by simp [h2]⟩
theorem Sat.frontAt (h : Sat w0 w L) (i : Nat) (hi : L[i]? = some A) : Sat w0 w (A :: L.eraseIdx i) := by
 obtain ⟨h1, h2⟩ := erase_split hi
 rw [h2]
 rw [h1] at h
 exact h.front _
def maskL : List Bool → List Asn → List Asn
 | [], L => L
 | _ :: _, [] => []
 | true :: m, A :: L => A :: maskL m L
 | false :: m, _ :: L => maskL m L
theorem Sat.mask (h : Sat w0 w L) (m : List Bool) : Sat w0 w (maskL m L) := by
 refine ⟨h.below, ?_⟩
 have key : ∀ {m : List Bool} {L : List Asn} {U : Nat → Prop}, SatF w w0.heap.size U L → SatF w w0.heap.size U (maskL m L) := by
  intro m
  induction m with
  | nil => intro L U h; exact h
  | cons b m ih =>
   intro L U h
   cases L with
   | nil => trivial
   | cons A L =>
    obtain ⟨F, h1, h2, h3⟩ := h
    cases b with
    | true => exact ⟨F, h1, h2, ih h3⟩
    | false => exact ih (h3.weak fun k hk => .inl hk)
 exact key h.parts
theorem Sat.hd (h : Sat w0 w (A :: L)) : ∃ F, A.holds w w0.heap.size F := by
 obtain ⟨F, h1, _⟩ := h.parts
 exact ⟨F, h1⟩
end
structure Rk (k : IntKind) (w : World) (A : Option Addr) (l : List Int) : Prop where
 rd : Rd k w A l
 wf : ∀ z ∈ l, (Lit.int k z).wf = true
section
variable {k : IntKind} {w w0 w' : World} {A : Option Addr} {l : List Int}
theorem Rk.below (h : Rk k w A l) (hb : Below w.heap.size w w') : Rk k w' A l := ⟨h.rd.below hb, h.wf⟩
theorem Rk.at {L : List Asn} (h : Rk k w0 A l) (S : Sat w0 w L) : Rk k w A l := h.below S.below
theorem Rk.take (h : Rk k w A l) (n : Nat) : Rk k w A (l.take n) := ⟨h.rd.take n, fun z hz => h.wf z (List.mem_of_mem_take hz)⟩
theorem Rk.drop (h : Rk k w A l) {n c : Nat} (hc : l.length ≤ c) : Rk k w (dropA A c n) (l.drop n) := ⟨h.rd.drop hc, fun z hz => h.wf z (List.mem_of_mem_drop hz)⟩
theorem Rk.bytes (h : Rk .u8 w A l) : ∀ z ∈ l, 0 ≤ z ∧ z < 256 := fun z hz => by
 have := h.wf z hz
 rw [wf_int] at this
 have h1 : IntKind.u8.min = 0 := by decide
 have h2 : IntKind.u8.max = 255 := by decide
 omega
def ownA (k : IntKind) (e : TypeId) (A : Option Addr) (c : Nat) (l : List Int) : Asn where
 holds := fun w B F => OwnI k w B e (.slice A l.length c) l ∧ (∀ z ∈ l, (Lit.int k z).wf = true) ∧ ∀ g, F g ↔ (Value.slice A l.length c).ownBlock = some g
 keep := fun ⟨h1, h2, h3⟩ hc hF _ => ⟨h1.kept hc fun g hg => hF g ((h3 g).2 hg), h2, h3⟩
 dom := fun ⟨h1, _, h3⟩ g hg => h1.lt g ((h3 g).1 hg)
variable {e : TypeId} {c : Nat} {R : List Asn}
theorem Sat.own (S : Sat w0 w (ownA k e A c l :: R)) : Rk k w A l ∧ l.length ≤ c ∧ c ≤ maxLen := by
 obtain ⟨F, h1, h2, _⟩ := S.hd
 obtain ⟨A', c', e', h3, h4, h5, _⟩ := h1.slice
 injection e' with e1 e2 e3
 subst e1 e3
 exact ⟨⟨h5, h2⟩, h3, h4⟩
theorem Sat.ownAt {L : List Asn} (S : Sat w0 w L) (i : Nat) (hi : L[i]? = some (ownA k e A c l)) : Rk k w A l := (S.frontAt i hi).own.1
theorem Sat.nilRow (k : IntKind) (e : TypeId) (S : Sat w0 w R) : Sat w0 w (ownA k e none 0 [] :: R) :=
 S.add (F := fun _ => False) (Below.refl _ _) ⟨OwnI.nil k w _ e, fun z hz => (by cases hz), fun g => by simp [Value.ownBlock]⟩ fun _ h => h.elim
theorem Sat.row {v : Value} (S : Sat w0 w R) (hb : Below w.heap.size w w') (h : OwnI k w' w.heap.size e v l) (hwf : ∀ z ∈ l, (Lit.int k z).wf = true) : ∃ A c, v = .slice A l.length c ∧ vok (.slice A l.length c) = true ∧ Sat w0 w' (ownA k e A c l :: R) := by
 obtain ⟨A, c, rfl, h1, h2, _, _⟩ := h.slice
 refine ⟨A, c, rfl, by simp [vok, vokC, vok1, h1, h2], S.add (F := fun g => (Value.slice A l.length c).ownBlock = some g) hb ⟨h.lower S.below.size, hwf, fun g => Iff.rfl⟩ fun g hg => (h.lt g hg).1⟩
end
section
variable {P : Program} {T : Orc} {ops : Array Oper} {Q : Exit → Act → World → Prop} {Df : List Deferred} {N : Nat} {a : Act} {w w0 : World} {L : Env} {k : IntKind}
theorem indexAddr_run (hT : T.Ok P) (fr : FrD Df N a L) {o : Oper} {t : TypeId} {x ix : Operand} (ho : o.op = .indexAddr t x ix) {A : Addr} {n c : Nat} {e s : Nat} {ki : IntKind} {i : Int} (hx : ev L x = some (.slice (some A) n c)) (hi : ev L ix = some (.int ki i))
  (ht : T.ty.lookup t = some (.slice e)) (hs : T.sz.lookup e = some s) (h0 : 0 ≤ i) (hlt : i < n) (w : World) : (execOp a.eval o).run P w = .ok (.value (.pointer (some (A.add (i.toNat * s))))) w := by
 unfold execOp
 simp only [ho, (fr.ev hx).1, (fr.ev hi).1, Instr.indexAt, asIntOf]
 simp [run_underlying (hT.und ht), size_run hT hs, h0, hlt]
theorem load_run (hT : T.Ok P) (fr : FrD Df N a L) {o : Oper} {t : TypeId} {x : Operand} (ho : o.op = .load t x) {A : Addr} {v : Value} {d : TypeDesc} (hx : ev L x = some (.pointer (some A))) (ht : T.ty.lookup t = some d) (hd : aggD d = false) (hc : w.cell? A = some v) : (execOp a.eval o).run P w = .ok (.value v) w := by
 unfold execOp
 simp only [ho, (fr.ev hx).1, Instr.loadAt, Instr.sureAddr, loadVar]
 simp [isAgg_run (hT.und ht), hd, run_load, hc]
theorem wl_ld (hT : T.Ok P) {o1 o2 : Oper} {rest : List Oper} {t te : TypeId} {x ix : Operand} {d1 d2 : Nat} {A : Option Addr} {l : List Int} {n c e : Nat} {ki : IntKind} {i : Int} {de : TypeDesc}
  (hr : Rk k w A l) (fr : FrD Df N a L) (hw : wantL ops L o1 = some true) (ho1 : o1.op = .indexAddr t x ix) (hd1 : o1.dst = some d1) (hw2 : wantL ops L o2 = some true) (ho2 : o2.op = .load te (.tmp d1)) (hd2 : o2.dst = some d2) (hl1 : Nat.blt d1 N = true) (hl2 : Nat.blt d2 N = true)
  (hx : ev L x = some (.slice A n c)) (hi : ev L ix = some (.int ki i)) (ht : T.ty.lookup t = some (.slice e)) (hs : T.sz.lookup e = some 1) (hte : T.ty.lookup te = some de) (hde : aggD de = false) (hn : n = l.length) (hf : L.lookup d1 = none) (hb : 0 ≤ i ∧ i < (l.length : Int))
  (h : ∀ a', FrD Df N a' ((d2, .int k (l.getD i.toNat 0)) :: L) → wpList P ops Q rest a' w) : wpList P ops Q (o1 :: o2 :: rest) a w := by
 subst hn
 obtain ⟨j, rfl⟩ : ∃ j : Nat, i = j := ⟨i.toNat, by omega⟩
 have hj : j < l.length := by omega
 obtain ⟨ad, rfl, -, hc⟩ := hr.rd.cell hj
 refine wl_val fr hw hd1 hl1 (indexAddr_run hT fr ho1 hx hi ht hs (by omega) hb.2 w) rfl fun a1 fr1 => ?_
 have hw3 : wantL ops ((d1, .pointer (some (ad.add ((j : Int).toNat * 1)))) :: L) o2 = some true := by
  have hk := hw2
  unfold wantL at hk ⊢
  split at hk
  ·exact hk
  ·rename_i j' want hg'
   split at hk
   ·rename_i t' ht'
    split at hk
    ·rename_i b hb'
     have hne : t' ≠ d1 := fun e => by subst e; rw [hf] at hb'; cases hb'
     rw [lookup_cons, if_neg hne, hb']; exact hk
    ·cases hk
    ·cases hk
   ·cases hk
 refine wl_val (v := .int k (l.getD j 0)) fr1 hw3 hd2 hl2 (load_run hT fr1 ho2 (by show ((d1, _) :: L).lookup d1 = _; rw [lookup_cons, if_pos rfl]) hte hde (by rw [Int.toNat_natCast, Nat.mul_one]; exact hc)) ?_ fun a2 fr2 => h a2 ?_
 ·have hm : l.getD j 0 ∈ l := by rw [List.getD_eq_getElem?_getD, List.getElem?_eq_getElem hj]; exact List.getElem_mem hj
  exact hr.wf _ hm
 ·refine ⟨fr2.size, fr2.defers, fun e u he => fr2.get e u ?_⟩
  rw [lookup_cons] at he ⊢
  by_cases h1 : e = d2
  ·rw [if_pos h1] at he ⊢; rw [Int.toNat_natCast] at he; exact he
  ·rw [if_neg h1] at he ⊢
   rw [lookup_cons]
   by_cases h2 : e = d1
   ·subst h2; rw [hf] at he; cases he
   ·rw [if_neg h2]; exact he
end
end Go.Proofs.YticnjkdaccacaaaGreat.Sx
end
section
namespace Go.Proofs.YticnjkdaccacaaaGreat.OwnV
open Go Go.RowKit Base Oq
def RowV (w : World) (B : Nat) (e : TypeId) (z : Nat) (v : Value) (n : Nat) (xs : List Value) : Prop := w.ownsRow B e z v n xs
section
variable {w w' : World} {B : Nat} {e : TypeId} {z : Nat} {v : Value} {n : Nat} {xs : List Value}
theorem RowV.nil (w : World) (B : Nat) (e : TypeId) (z : Nat) : RowV w B e z (.slice none 0 0) 0 [] := ⟨by simp, .inl ⟨rfl, rfl⟩⟩
theorem RowV.len (h : RowV w B e z v n xs) : xs.length = n * z := h.1
theorem RowV.slice (h : RowV w B e z v n xs) : ∃ A c, v = .slice A n c ∧ n ≤ c ∧ c ≤ maxLen ∧ (A = none → n = 0) ∧ ∀ ad, A = some ad → ∃ g, ad = ⟨g, 0, none⟩ ∧ B ≤ g ∧ g < w.heap.size ∧ w.rangeAt g 0 xs ∧ w.there g 0 (n * z) := by
 rcases h.2 with ⟨rfl, rfl⟩ | ⟨g, cap, cur, rfl, hB, hg, h1, h2, h3, h4⟩
 ·exact ⟨none, 0, rfl, Nat.le_refl _, Nat.zero_le _, fun _ => rfl, fun ad e => by cases e⟩
 ·refine ⟨some ⟨g, 0, none⟩, cap, rfl, h1, h2, fun e => absurd e (by simp), fun ad e => ?_⟩
  injection e with e; subst e
  have hsz : n * z ≤ cur.size := by rw [h3]; exact Nat.mul_le_mul_right _ h1
  refine ⟨g, rfl, hB, (Array.getElem?_eq_some_iff.1 hg).1, fun j u hj => ?_, fun j hj => ⟨?_, ?_⟩⟩
  ·rw [Nat.zero_add, cell_of_row _ _ _ _ _ _ hg]
   rw [← h4, List.getElem?_take] at hj
   split at hj
   ·rw [← hj]; simp
   ·cases hj
  ·rw [Nat.zero_add, cell_of_row _ _ _ _ _ _ hg, Array.getElem?_eq_getElem (by omega)]; rfl
  ·rw [Nat.zero_add]; exact frozen_of_row _ _ _ _ _ hg
theorem RowV.kept {F : Nat → Prop} (h : RowV w B e z v n xs) (hc : Chg F w w') (hF : ∀ g, v.ownBlock = some g → ¬ F g) : RowV w' B e z v n xs := by
 refine ⟨h.1, ?_⟩
 rcases h.2 with hn | ⟨g, cap, cur, rfl, hb, hgg, rest⟩
 ·exact .inl hn
 ·refine .inr ⟨g, cap, cur, rfl, hb, ?_, rest⟩
  rw [hc.block g (Array.getElem?_eq_some_iff.1 hgg).1 (hF g rfl)]
  exact hgg
theorem RowV.new (h : RowV w B e z v n xs) (hb : Below w.heap.size w w') : RowV w' B e z v n xs := h.kept (Chg.of_new hb) (fun _ _ hf => hf)
theorem RowV.alloc (h : RowV w B e z v n xs) (o : Obj) : RowV (w.alloc o) B e z v n xs := h.kept (Chg.alloc w o) (fun _ _ hf => hf)
theorem RowV.lower {B' : Nat} (h : RowV w B e z v n xs) (hB : B' ≤ B) : RowV w B' e z v n xs := by
 refine ⟨h.1, ?_⟩
 rcases h.2 with hn | ⟨g, cap, cur, rfl, hb, rest⟩
 ·exact .inl hn
 ·exact .inr ⟨g, cap, cur, rfl, Nat.le_trans hB hb, rest⟩
theorem RowV.lt (h : RowV w B e z v n xs) : ∀ g, v.ownBlock = some g → B ≤ g ∧ g < w.heap.size := World.ownsRow.lt h
theorem RowV.made (w : World) (e : TypeId) (z n : Nat) (cs : Array Value) (hB : B ≤ w.heap.size) (hl : cs.size = n * z) (hn : n ≤ maxLen) :
  RowV (w.alloc (.cells cs e)) B e z (.slice (some ⟨w.heap.size, 0, none⟩) n n) n cs.toList := by
 refine ⟨by simp [hl], .inr ⟨_, _, cs, rfl, hB, heap_alloc_new _ _, Nat.le_refl _, hn, hl, ?_⟩⟩
 exact List.take_of_length_le (by simp [hl])
theorem splice_get {α : Type} (L : List α) (o : Nat) (vs : List α) (h : o + vs.length ≤ L.length) (k : Nat) : (splice L o vs)[k]? = if o ≤ k ∧ k < o + vs.length then vs[k - o]? else L[k]? := by
 unfold splice
 rw [List.getElem?_append, List.length_take, show min o L.length = o by omega]
 by_cases h1 : k < o
 ·rw [if_pos h1, if_neg (by omega), List.getElem?_take, if_pos h1]
 ·rw [if_neg h1, List.getElem?_append]
  by_cases h2 : k - o < vs.length
  ·rw [if_pos h2, if_pos (by omega)]
  ·rw [if_neg h2, if_neg (by omega), List.getElem?_drop]
   congr 1; omega
theorem heap_setCells (b : Nat) : ∀ (vs : List Value) (o : Nat) (w : World) (cur : Array Value) (t : TypeId), w.heap[b]? = some (.cells cur t (0, 0)) → o + vs.length ≤ cur.size →
  (w.setCells b o vs).heap[b]? = some (.cells (splice cur.toList o vs).toArray t (0, 0)) := by
 intro vs
 induction vs with
 | nil => intro o w cur t hg _; simpa [World.setCells, splice] using hg
 | cons u vs ih =>
  intro o w cur t hg hl
  simp only [List.length_cons] at hl
  have h1 := heap_setCell_same w b o cur t u hg
  have h2 := ih (o + 1) (w.setCell ⟨b, o, none⟩ u) (cur.setIfInBounds o u) t h1 (by simp; omega)
  show ((w.setCell ⟨b, o, none⟩ u).setCells b (o + 1) vs).heap[b]? = _
  rw [h2]
  congr 3
  rw [Array.toList_setIfInBounds]
  apply List.ext_getElem?
  intro k
  rw [splice_get _ _ _ (by simp; omega), splice_get _ _ _ (by simp; omega), List.length_cons, List.getElem?_set]
  by_cases h3 : k = o
  ·subst h3
   rw [if_neg (by omega), if_pos rfl, if_pos (by simp; omega), if_pos (by omega)]; simp
  ·by_cases h4 : o + 1 ≤ k ∧ k < o + 1 + vs.length
   ·rw [if_pos h4, if_pos (by omega), show k - o = (k - (o + 1)) + 1 by omega, List.getElem?_cons_succ]
   ·rw [if_neg h4, if_neg (fun h => h3 h.symm), if_neg (by omega)]
theorem chg_setCells (b : Nat) : ∀ (vs : List Value) (o : Nat) (w : World), Chg (fun k => k = b) w (w.setCells b o vs) := by
 intro vs
 induction vs with
 | nil => intro o w; exact Chg.refl _ _
 | cons u vs ih => intro o w; exact (Chg.setCell w ⟨b, o, none⟩ u).trans (ih (o + 1) _) (fun _ _ h => h)
theorem RowV.set {g c : Nat} (h : RowV w B e z (.slice (some ⟨g, 0, none⟩) n c) n xs) (o : Nat) (vs : List Value) (ho : o + vs.length ≤ n * z) :
  RowV (w.setCells g o vs) B e z (.slice (some ⟨g, 0, none⟩) n c) n (splice xs o vs) := by
 rcases h.2 with ⟨h1, _⟩ | ⟨g', cap, cur, h1, hB, hg, h2, h3, h4, h5⟩
 ·cases h1
 ·injection h1 with h1 h6 h7
  injection h1 with h1
  injection h1 with h1
  subst h1 h7
  have hx : xs.length = n * z := h.1
  have hsz : n * z ≤ cur.size := by rw [h4]; exact Nat.mul_le_mul_right _ h2
  refine ⟨by rw [length_splice _ _ _ (by rw [hx]; exact ho), hx], .inr ⟨g, c, _, rfl, hB, heap_setCells g vs o w cur e hg (by omega), h2, h3, ?_, ?_⟩⟩
  ·rw [List.size_toArray, length_splice _ _ _ (by simp; omega)]; simpa using h4
  ·rw [← h5]
   apply List.ext_getElem?
   intro k
   rw [List.getElem?_take, splice_get _ _ _ (by simp; omega), splice_get _ _ _ (by rw [List.length_take]; simp; omega), List.getElem?_take]
   split <;> split <;> first | rfl | omega
end
theorem exec_load_mid {P : Program} {a : Act} {w : World} {N : Option Tmp} {tt : TypeId} (ty : TypeId) (x : Operand) (b o : Nat) (hx : a.eval x = .pointer (some ⟨b, o, none⟩)) (cs : List Value) (d : TypeDesc) (hc : w.rangeAt b o cs)
  (hu : P.underlying ty = some d) (hd : d.isRow = true) (hi : (P.info? ty).map (·.size) = some cs.length) : (execOp a.eval ⟨N, .load ty x, tt, "", #[], none⟩).run P w = .ok (.value (.agg cs.toArray)) w := by
 unfold execOp
 simp only [hx, Instr.loadAt, Instr.sureAddr, Sem.run_bind, Sem.run_pure, Result.andThen_ok, run_loadVar_mid w b o ty cs d hc hu hd hi]
theorem fold_splice : ∀ (vs : List Value) (k off : Nat) (cs : Array Value), off + k + vs.length ≤ cs.size →
  ((vs.zipIdx k).foldl (fun cs (x : Value × Nat) => cs.setIfInBounds (off + x.2) x.1) cs).toList = splice cs.toList (off + k) vs := by
 intro vs
 induction vs with
 | nil => intro k off cs _; simp [splice]
 | cons v vs ih =>
  intro k off cs h
  simp only [List.length_cons] at h
  rw [List.zipIdx_cons, List.foldl_cons, ih (k + 1) off _ (by simp; omega)]
  apply List.ext_getElem?
  intro j
  rw [Array.toList_setIfInBounds, splice_get _ _ _ (by simp; omega), splice_get _ _ _ (by simp; omega), List.length_cons, List.getElem?_set]
  by_cases h3 : j = off + k
  ·subst h3
   rw [if_neg (by omega), if_pos rfl, if_pos (by simp; omega), if_pos (by omega)]; simp
  ·by_cases h4 : off + (k + 1) ≤ j ∧ j < off + (k + 1) + vs.length
   ·rw [if_pos h4, if_pos (by omega), show j - (off + k) = (j - (off + (k + 1))) + 1 by omega, List.getElem?_cons_succ]
   ·rw [if_neg h4, if_neg (fun h => h3 h.symm), if_neg (by omega)]
theorem fill_step (place : Nat → Option (Nat × Nat)) (cells : Array Value) (i off size : Nat) (v : Value) (rest : List (Nat × Value)) (hp : place i = some (off, size)) (hv : v.cells.size = size) (hf : off + size ≤ cells.size) :
  Instr.fill place cells ((i, v) :: rest) = Instr.fill place (splice cells.toList off v.cells.toList).toArray rest := by
 rw [Instr.fill, hp]
 simp only
 rw [if_neg (by simp; omega)]
 congr 1
 apply Array.toList_inj.1
 rw [← Array.foldl_toList, Array.toList_zipIdx, fold_splice _ _ _ _ (by simp; omega)]
 rfl
theorem fill_all (cells c : Array Value) (s : Nat) (hc : c.size = s) (hs : cells.size = s) : Instr.fill (fun i => some (i * s, s)) cells [(0, .agg c)] = some c := by
 rw [fill_step _ _ 0 0 s _ _ (by simp) (by simpa [Value.cells] using hc) (by omega), Instr.fill]
 congr 1
 apply Array.toList_inj.1
 simp only [splice, Value.cells]
 rw [List.take_zero, List.nil_append, List.drop_eq_nil_of_le (by simp; omega)]
 simp
theorem exec_build {P : Program} {a : Act} {w : World} {N : Option Tmp} {tt : TypeId} (t : TypeId) (parts : Array (Nat × Operand)) (cells : Array Value) (h : P.built t (parts.map fun (i, x) => (i, a.eval x)).toList = some cells) :
  (execOp a.eval ⟨N, .build t parts, tt, "", #[], none⟩).run P w = .ok (.value (.agg cells)) w := by
 unfold execOp
 simp only [Sem.run_bind, run_build w t _ cells h, Result.andThen_ok]
 rfl
theorem apv_wp {P : Program} {B : Nat} {w : World} {e : TypeId} {z bytes : Nat} {v : Value} {n : Nat} {xs : List Value} {K : Act → World → Prop} {Q : Exit → Act → World → Prop} {o : Oper} {a : Act} {t : TypeId}
  (ht : P.underlying t = some (.slice e)) (hinfo : (P.info? e).map (fun i => (i.zero.map (·.cells.size), i.size, i.bytes)) = some (some z, z, bytes)) (hz0 : 0 < z) (hown : RowV w B e z v n xs) (hbase : B ≤ w.heap.size)
  (ad : Addr) (m c : Nat) (news : List Value) (hl : news.length = m * z) (hnews : ∀ j u, news[j]? = some u → w.cell? (ad.add j) = some u) (h1 : ∀ u ∈ news, u.oneCell' = true) (h63 : n + m ≤ maxLen) (hbytes : (n + m) * bytes ≤ 140737488355328)
  (s x : Operand) (ho : o.op = .call { callee := .builtin .append, args := #[s, x], argTypes := #[t, t] }) (hs : a.eval s = v) (hx : a.eval x = .slice (some ad) m c)
  (h : ∀ v' w', RowV w' B e z v' (n + m) (xs ++ news) → w.grownBy w' v.ownBlock → (v'.ownBlock = v.ownBlock ∨ v'.ownBlock = some w.heap.size) → K (a.put o.dst v') w') : Oper.wp P o a w K Q := by
 obtain ⟨i, hi, hzz⟩ := Option.map_eq_some_iff.1 hinfo
 simp only [Prod.mk.injEq] at hzz
 obtain ⟨hz1, hsz, hby⟩ := hzz
 obtain ⟨z0, hz, hzc⟩ := Option.map_eq_some_iff.1 hz1
 obtain ⟨v', w', hr, h2, h3, _, h5⟩ := run_append_own_at (P := P) w B t o.type e i z0 z bytes ht hi hz hsz hby hzc hz0 v n xs hown ad m c news hl hnews h1 h63 hbytes hbase
 unfold Oper.wp execOp
 simp only [ho, resolve, invoke, builtin, Sem.run_bind, Sem.run_pure, Result.andThen_ok, List.map_toArray, List.map_cons, List.map_nil, hs, hx, hr]
 exact h v' w' h2 h3 h5
theorem exec_one_slice {P : Program} {a : Act} {w : World} {N : Option Tmp} {tt : TypeId} (t e : TypeId) (x : Operand) (c : Array Value) (s : Nat) (hx : a.eval x = .agg c) (hc : c.size = s)
  (hu : P.underlying t = some (.slice e)) (hi : (P.info? e).map (fun i => (i.zero.isSome, i.size)) = some (true, s)) (h0 : 0 < s) (h1 : s ≤ 16777216) :
  (execOp a.eval ⟨N, .buildSlice t 1 #[(0, x)], tt, "", #[], none⟩).run P w = .ok (.value (.slice (some ⟨w.heap.size, 0, none⟩) 1 1)) (w.alloc (.cells c e)) := by
 obtain ⟨ie, hie, hzz⟩ := Option.map_eq_some_iff.1 hi
 simp only [Prod.mk.injEq] at hzz
 obtain ⟨z, hz⟩ := Option.isSome_iff_exists.1 hzz.1
 have hf : Instr.fill (fun i => some (i * ie.size, ie.size)) ((Array.range (1 * ie.size)).map (z.cells[· % z.cells.size]!)) (#[(0, x)].map fun (i, x) => (i, a.eval x)).toList = some c := by
  rw [hzz.2]
  simp only [List.map_toArray, List.map_cons, List.map_nil, hx]
  exact fill_all _ c s hc (by simp)
 unfold execOp
 simp only [Sem.run_bind, run_buildSlice w t e 1 _ c ie z hu hie hz (by rw [hzz.2]; omega) (by rw [hzz.2]; omega) hf, Result.andThen_ok]
 rfl
theorem exec_load_cell {P : Program} {a : Act} {w : World} {N : Option Tmp} {tt : TypeId} (ty : TypeId) (x : Operand) (ad : Addr) (v : Value) (hx : a.eval x = .pointer (some ad)) (hc : w.cell? ad = some v) (hag : ∀ W, (isAgg ty).run P W = .ok false W) :
  (execOp a.eval ⟨N, .load ty x, tt, "", #[], none⟩).run P w = .ok (.value v) w := by
 unfold execOp
 simp [hx, Instr.loadAt, Instr.sureAddr, loadVar, Sem.run_bind, Sem.run_pure, Result.andThen_ok, hag, run_load, hc]
theorem run_copy_v {P : Program} (w : World) (dT sT ty elem : TypeId) (z b o dLen dCap : Nat) (a : Addr) (sLen sCap n : Nat) (cs : List Value) (hu : P.underlying dT = some (.slice elem)) (hs : (P.info? elem).map (·.size) = some z) (hn : n = Nat.min sLen dLen) (hl : cs.length = n * z)
  (hsrc : ∀ j v, cs[j]? = some v → w.cell? (a.add j) = some v) (hth : w.there b o cs.length) (h1 : ∀ v ∈ cs, v.oneCell' = true) :
  (Builtin.copy_ #[dT, sT] ty #[.slice (some ⟨b, o, none⟩) dLen dCap, .slice (some a) sLen sCap]).run P w = .ok (goInt n) (w.setCells b o cs) := by
 have hld := run_loadCells_list (P := P) w a cs hsrc
 have hst := run_storeCells_cells (P := P) b o cs 0 w (fun j hj => by simpa using (hth j hj).1) (fun j hj => by simpa using (hth j hj).2) h1
 rw [hl] at hld
 cases hq : P.info? elem with
 | none => simp [hq] at hs
 | some i =>
  have hi : i.size = z := by simpa [hq] using hs
  simp [Builtin.copy_, run_underlying hu, Builtin.lenOf, Builtin.firstCells, sizeOf, typeInfo, hq, hi, ← hn, hld, hst]
theorem wp_copy_v {P : Program} {o : Oper} {a : Act} {w : World} {K : Act → World → Prop} {Q : Exit → Act → World → Prop} (d s : Operand) (dT sT elem : TypeId) (z g off dLen dCap : Nat) (ad : Addr) (sLen sCap n : Nat) (cs : List Value)
  (ho : o.op = .call { callee := .builtin .copy, args := #[d, s], argTypes := #[dT, sT] }) (hd : a.eval d = .slice (some ⟨g, off, none⟩) dLen dCap) (hss : a.eval s = .slice (some ad) sLen sCap)
  (hu : P.underlying dT = some (.slice elem)) (hs : (P.info? elem).map (·.size) = some z) (hn : n = Nat.min sLen dLen) (hl : cs.length = n * z)
  (hsrc : ∀ j v, cs[j]? = some v → w.cell? (ad.add j) = some v) (hth : w.there g off cs.length) (h1 : ∀ v ∈ cs, v.oneCell' = true) (hK : K (a.put o.dst (goInt n)) (w.setCells g off cs)) : Oper.wp P o a w K Q := by
 have hr := run_copy_v (P := P) w dT sT o.type elem z g off dLen dCap ad sLen sCap n cs hu hs hn hl hsrc hth h1
 unfold Oper.wp
 simp [execOp, ho, resolve, invoke, builtin, hd, hss, hr, Result.andThen]
 exact hK
end Go.Proofs.YticnjkdaccacaaaGreat.OwnV
end
section
namespace Go.Proofs.YticnjkdaccacaaaGreat.Sx
open Go Go.RowKit Base Oq
section
variable {Df : List Deferred} {N : Nat} {a : Act} {L : Env}
theorem FrD.vok (fr : FrD Df N a L) {d : Nat} {v : Value} (h : L.lookup d = some v) : Sx.vok v = true := (fr.get _ _ h).2
theorem vok_tupii (fr : FrD Df N a L) {d : Nat} {e : Nat} {k0 : IntKind} {x0 : Int} {k1 : IntKind} {x1 : Int} (h0 : L.lookup d = some (.int k0 x0)) (h1 : L.lookup e = some (.int k1 x1)) : Sx.vok (.tuple #[(.int k0 x0), (.int k1 x1)]) = true := by
 show [(Value.int k0 x0), (Value.int k1 x1)].all vokC = true
 rw [List.all_cons, List.all_cons, show vokC (.int k0 x0) = true from fr.vok h0, show vokC (.int k1 x1) = true from fr.vok h1]; rfl
theorem vok_tupib (fr : FrD Df N a L) {d : Nat} {e : Nat} {k0 : IntKind} {x0 : Int} {x1 : Bool} (h0 : L.lookup d = some (.int k0 x0)) (h1 : L.lookup e = some (.bool x1)) : Sx.vok (.tuple #[(.int k0 x0), (.bool x1)]) = true := by
 show [(Value.int k0 x0), (Value.bool x1)].all vokC = true
 rw [List.all_cons, List.all_cons, show vokC (.int k0 x0) = true from fr.vok h0, show vokC (.bool x1) = true from fr.vok h1]; rfl
theorem vok_sl {A : Option Addr} {n c : Nat} (h : n ≤ c ∧ c ≤ maxLen) : Sx.vok (.slice A n c) = true := by simp [Sx.vok, vokC, vok1, h]
theorem vok_c {v : Value} {l : List Value} (h : Sx.vok v = true) (hl : l.all Sx.vok = true) : (v :: l).all Sx.vok = true := by rw [List.all_cons, h, hl]; rfl
end
section
variable {T : Orc} {L : Env} {op : Op} {t ty : TypeId} {x y : Operand} {k k' : IntKind} {p q : Int}
theorem po_shl (ho : op = .binOp .shl t x y ty) (hx : ev L x = some (.int k p)) (hy : ev L y = some (.int k' q)) (hq : 0 ≤ q) : pureOp T L op = some (.int k (k.wrap (p * 2 ^ min q.toNat k.bits))) := by
 subst ho
 simp only [pureOp, hx, hy, Option.bind_some, binV, shI]
 rw [if_neg (by omega)]
theorem po_rem (ho : op = .binOp .rem t x y ty) (hx : ev L x = some (.int k p)) (hy : ev L y = some (.int k q)) (hq : q ≠ 0) : pureOp T L op = some (.int k (p.tmod q)) := by
 subst ho
 simp only [pureOp, hx, hy, Option.bind_some, binV, binI]
 rw [if_pos trivial, if_neg hq]
end
section
variable {α : Type}
end
section
variable {P : Program} {T : Orc} {ops : Array Oper} {Q : Exit → Act → World → Prop} {S' : World → Prop} {Df : List Deferred} {N : Nat} {a : Act} {w w0 : World} {L : Env} {k : IntKind} {R : List Asn}
theorem wl_pv (hT : T.Ok P) {o : Oper} {rest : List Oper} {d : Nat} {v : Value} (fr : FrD Df N a L) (hw : wantL ops L o = some true) (hd : o.dst = some d) (hlt : Nat.blt d N = true) (hp : pureOp T L o.op = some v) (h : ∀ a', FrD Df N a' ((d, v) :: L) → wpList P ops Q rest a' w) : wpList P ops Q (o :: rest) a w :=
 wl_val fr hw hd hlt (pure_run hT fr hp w).1 (pure_run hT fr hp w).2 h
theorem sl_ld (hT : T.Ok P) {s1 s2 : SOp} {rest : List Itm} {t te : TypeId} {x ix : Operand} {d1 d2 : Nat} {A : Option Addr} {l : List Int} {n c e : Nat} {ki : IntKind} {i : Int} {de : TypeDesc}
  (hr : ∀ w, S' w → Rk k w A l) (fr : FrD Df N a L) (hw : wantS L s1 = some true) (hq : s1.q = true) (ho1 : s1.op = .indexAddr t x ix) (hd1 : s1.dst = some d1) (hw2 : wantS L s2 = some true) (hq2 : s2.q = true) (ho2 : s2.op = .load te (.tmp d1)) (hd2 : s2.dst = some d2) (hl1 : Nat.blt d1 N = true) (hl2 : Nat.blt d2 N = true)
  (hx : ev L x = some (.slice A n c)) (hi : ev L ix = some (.int ki i)) (ht : T.ty.lookup t = some (.slice e)) (hs : T.sz.lookup e = some 1) (hte : T.ty.lookup te = some de) (hde : aggD de = false) (hn : n = l.length) (hf : L.lookup d1 = none) (hb : 0 ≤ i ∧ i < (l.length : Int))
  (hS : S' w) (h : ∀ a', FrD Df N a' ((d2, .int k (l.getD i.toNat 0)) :: L) → SL P Q S' rest a' w) : SL P Q S' (.one s1 :: .one s2 :: rest) a w := by
 subst hn
 obtain ⟨j, rfl⟩ : ∃ j : Nat, i = j := ⟨i.toNat, by omega⟩
 have hj : j < l.length := by omega
 obtain ⟨ad, rfl, -, -⟩ := (hr w hS).rd.cell hj
 refine sl_q fr hw hq hd1 hl1 (fun w' _ => indexAddr_run hT fr (o := s1.oper) ho1 hx hi ht hs (by omega) hb.2 w') rfl fun a1 fr1 => ?_
 have hw3 : wantS ((d1, .pointer (some (ad.add ((j : Int).toNat * 1)))) :: L) s2 = some true := by
  have hk := hw2
  unfold wantS at hk ⊢
  split at hk
  ·rename_i hg'; rw [hg'] at *
  ·rename_i t' want hg'
   split at hk
   ·rename_i b hb'
    have hne : t' ≠ d1 := fun e => by subst e; rw [hf] at hb'; cases hb'
    rw [lookup_cons, if_neg hne, hb']; exact hk
   ·cases hk
   ·cases hk
 have hm : l.getD j 0 ∈ l := by rw [List.getD_eq_getElem?_getD, List.getElem?_eq_getElem hj]; exact List.getElem_mem hj
 refine sl_q (v := .int k (l.getD j 0)) fr1 hw3 hq2 hd2 hl2 (fun w' hS' => load_run hT fr1 (o := s2.oper) ho2 (by show ((d1, _) :: L).lookup d1 = _; rw [lookup_cons, if_pos rfl]) hte hde (by
  obtain ⟨ad', e', -, hc⟩ := (hr w' hS').rd.cell hj
  injection e' with e'
  rw [Int.toNat_natCast, Nat.mul_one, e']; exact hc)) ((hr w hS).wf _ hm) fun a2 fr2 => h a2 ?_
 refine ⟨fr2.size, fr2.defers, fun e u he => fr2.get e u ?_⟩
 rw [lookup_cons] at he ⊢
 by_cases h1 : e = d2
 ·rw [if_pos h1] at he ⊢; rw [Int.toNat_natCast] at he; exact he
 ·rw [if_neg h1] at he ⊢
  rw [lookup_cons]
  by_cases h2 : e = d1
  ·subst h2; rw [hf] at he; cases he
  ·rw [if_neg h2]; exact he
theorem take_run (hT : T.Ok P) (fr : FrD Df N a L) {o : Oper} {t : TypeId} {x y : Operand} (ho : o.op = .slice t x none (some y) none) {A : Option Addr} {n c e s : Nat} {ki : IntKind} {i : Int} (hx : ev L x = some (.slice A n c)) (hy : ev L y = some (.int ki i))
  (ht : T.ty.lookup t = some (.slice e)) (hs : T.sz.lookup e = some s) (hb : 0 ≤ i ∧ i ≤ (c : Int)) (w : World) : (execOp a.eval o).run P w = .ok (.value (.slice A i.toNat c)) w := by
 unfold execOp
 simp only [ho, (fr.ev hx).1, Option.map_some, Option.map_none, (fr.ev hy).1, Instr.sliceAt]
 rw [Sem.run_bind, Sem.run_bind, run_underlying (hT.und ht), Result.andThen_ok]
 simp only [Instr.slice]
 rw [Sem.run_bind, run_underlying (hT.und ht), Result.andThen_ok]
 simp [Instr.sliceBounds, Instr.sliceBound, asIntOf, hb.1, hb.2, size_run hT hs]
 intro _
 cases A <;> simp [Addr.add]
theorem fill_int (k : IntKind) (n : Nat) (xs : List Int) (hn : xs.length = n) : ∀ (m : Nat), m ≤ n → Instr.fill (fun i => some (i * 1, 1)) ((xs.take m).map (Value.int k) ++ List.replicate (n - m) (Value.int k 0)).toArray (((xs.drop m).zipIdx m).map fun p => (p.2, Value.int k p.1)) = some (xs.map (Value.int k)).toArray := by
 intro m
 generalize hj : n - m = j
 induction j generalizing m with
 | zero =>
  intro hm
  have : m = n := by omega
  subst this
  rw [List.drop_eq_nil_of_le (by omega), List.take_of_length_le (by omega)]
  simp [Instr.fill]
 | succ j ih =>
  intro hm
  have hlt : m < xs.length := by omega
  have hml : ((xs.take m).map (Value.int k)).length = m := by simp; omega
  have hml2 : ((xs.take (m + 1)).map (Value.int k)).length = m + 1 := by simp; omega
  rw [List.drop_eq_getElem_cons hlt, List.zipIdx_cons, List.map_cons, OwnV.fill_step _ _ m m 1 _ _ (by simp) rfl (by simp; omega)]
  have := ih (m + 1) (by omega) (by omega)
  rw [← this]
  congr 2
  show splice _ m [Value.int k xs[m]] = _
  apply List.ext_getElem?
  intro q
  rw [OwnV.splice_get _ _ _ (by simp; omega), List.length_singleton]
  by_cases hq : m = q
  ·subst hq
   rw [if_pos (by omega), List.getElem?_append_left (by omega), List.getElem?_map, List.getElem?_take_of_lt (by omega), List.getElem?_eq_getElem hlt, Nat.sub_self]; rfl
  ·rw [if_neg (by omega)]
   by_cases hq2 : q < m
   ·rw [List.getElem?_append_left (by omega), List.getElem?_append_left (by omega), List.getElem?_map, List.getElem?_map, List.getElem?_take_of_lt hq2, List.getElem?_take_of_lt (by omega)]
   ·rw [List.getElem?_append_right (by omega), List.getElem?_append_right (by omega), hml, hml2, List.getElem?_replicate, List.getElem?_replicate]
    by_cases h3 : q - m < j + 1
    ·rw [if_pos h3, if_pos (by omega)]
    ·rw [if_neg h3, if_neg (by omega)]
theorem lit_run {t e : TypeId} (RT : RowTy P t e k) (n : Nat) (xs : List Int) (hn : xs.length = n) (h0 : 0 < n) (h1 : n ≤ 1000) (w : World) :
  (Instr.buildSlice t n ((xs.zipIdx 0).map fun p => (p.2, Value.int k p.1)).toArray).run P w = .ok (.slice (some ⟨w.heap.size, 0, none⟩) n n) (w.alloc (.cells (xs.map (Value.int k)).toArray e)) := by
 obtain ⟨bytes, hle, hinfo⟩ := RT.hi
 obtain ⟨ie, hie, hzz⟩ := Option.map_eq_some_iff.1 hinfo
 simp only [Prod.mk.injEq] at hzz
 obtain ⟨hz, hs, hb⟩ := hzz
 refine Go.run_buildSlice w t e n _ _ ie (.int k 0) RT.ht hie hz (by rw [hs]; omega) (by rw [hs]; omega) ?_
 rw [hs]
 have h := fill_int k n xs hn 0 (Nat.zero_le _)
 have e1 : (Array.range (n * 1)).map ((Value.int k 0).cells[· % (Value.int k 0).cells.size]!) = (List.replicate n (Value.int k 0)).toArray := by
  apply Array.ext
  ·simp
  ·intro i h1 h2
   simp [Value.cells, Nat.mod_one]
 rw [e1]
 simpa using h
def litOps (L : Env) (k : IntKind) : Nat → List (Nat × Operand) → List Int → Prop
 | _, [], [] => True
 | i, p :: r, x :: xs => p.1 = i ∧ ev L p.2 = some (.int k x) ∧ litOps L k (i + 1) r xs
 | _, _, _ => False
theorem litOps_eval (fr : FrD Df N a L) : ∀ {ps : List (Nat × Operand)} {xs : List Int} {i : Nat}, litOps L k i ps xs → ps.map (fun p => (p.1, a.eval p.2)) = (xs.zipIdx i).map (fun p => (p.2, Value.int k p.1)) ∧ ∀ z ∈ xs, (Lit.int k z).wf = true := by
 intro ps
 induction ps with
 | nil => intro xs i h; cases xs with
  | nil => exact ⟨rfl, fun z hz => by cases hz⟩
  | cons x xs => exact h.elim
 | cons p r ih =>
  intro xs i h
  cases xs with
  | nil => exact h.elim
  | cons x xs =>
   obtain ⟨h1, h2, h3⟩ := h
   obtain ⟨h4, h5⟩ := ih h3
   refine ⟨by rw [List.map_cons, List.zipIdx_cons, List.map_cons, h4, h1, (fr.ev h2).1], fun z hz => ?_⟩
   rcases List.mem_cons.1 hz with rfl | hz
   ·exact (fr.ev h2).2
   ·exact h5 z hz
theorem lit_exec {t e : TypeId} (RT : RowTy P t e k) (fr : FrD Df N a L) {o : Oper} {n : Nat} {ps : Array (Nat × Operand)} {xs : List Int} (ho : o.op = .buildSlice t n ps) (hp : litOps L k 0 ps.toList xs) (hn : xs.length = n) (h0 : (Nat.blt 0 n && Nat.ble n 1000) = true) (S : Sat w0 w R) :
  ∃ A c w', (execOp a.eval o).run P w = .ok (.value (.slice A xs.length c)) w' ∧ vok (.slice A xs.length c) = true ∧ Sat w0 w' (ownA k e A c xs :: R) := by
 obtain ⟨e1, e2⟩ := litOps_eval fr hp
 simp only [Bool.and_eq_true] at h0
 have h1 : 0 < n := blt_lt h0.1
 have h2 : n ≤ 1000 := Nat.le_of_ble_eq_true h0.2
 have hr := lit_run (P := P) RT n xs hn h1 h2 w
 have hml : n ≤ maxLen := Nat.le_trans h2 (by decide)
 refine ⟨some ⟨w.heap.size, 0, none⟩, n, w.alloc (.cells (xs.map (Value.int k)).toArray e), ?_, ?_, ?_⟩
 ·unfold execOp
  simp only [ho]
  have e3 : (ps.map fun (i, x) => (i, a.eval x)) = ((xs.zipIdx 0).map fun p => (p.2, Value.int k p.1)).toArray := by
   apply Array.toList_inj.1
   rw [Array.toList_map]
   exact e1
  rw [Sem.run_bind, e3, hr, hn]; rfl
 ·exact vok_sl ⟨by omega, hml⟩
 ·have hm := OwnI.made (B := w.heap.size) w k xs e (xs.map (Value.int k)).toArray rfl (Nat.le_refl _) (by omega)
  rw [hn] at hm
  obtain ⟨A, c, ev', _, h3⟩ := S.row (l := xs) ((Below.refl _ _).alloc (Nat.le_refl _) _) hm e2
  injection ev' with e4 e5 e6
  subst e4 e6
  exact h3
theorem wl_lit (_hT : T.Ok P) {t e : TypeId} (RT : RowTy P t e k) {o : Oper} {rest : List Oper} {d n : Nat} {ps : Array (Nat × Operand)} {xs : List Int} (fr : FrD Df N a L) (hw : wantL ops L o = some true) (hd : o.dst = some d) (hlt : Nat.blt d N = true) (ho : o.op = .buildSlice t n ps) (hp : litOps L k 0 ps.toList xs) (hn : xs.length = n) (h0 : (Nat.blt 0 n && Nat.ble n 1000) = true) (S : Sat w0 w R)
  (h : ∀ w' A c, Sat w0 w' (ownA k e A c xs :: R) → ∀ a', FrD Df N a' ((d, .slice A xs.length c) :: L) → wpList P ops Q rest a' w') : wpList P ops Q (o :: rest) a w := by
 obtain ⟨A, c, w', h1, h2, h3⟩ := lit_exec (P := P) RT fr ho hp hn h0 S
 exact wl_val fr hw hd hlt h1 h2 (h w' A c h3)
theorem sl_lit (_hT : T.Ok P) {t e : TypeId} (RT : RowTy P t e k) {s : SOp} {rest : List Itm} {d n : Nat} {ps : Array (Nat × Operand)} {xs : List Int} (fr : FrD Df N a L) (hw : wantS L s = some true) (hq : s.q = false) (hd : s.dst = some d) (hlt : Nat.blt d N = true) (ho : s.op = .buildSlice t n ps) (hp : litOps L k 0 ps.toList xs) (hn : xs.length = n) (h0 : (Nat.blt 0 n && Nat.ble n 1000) = true) (S : Sat w0 w R)
  (h : ∀ w' A c, Sat w0 w' (ownA k e A c xs :: R) → S' w' ∧ ∀ a', FrD Df N a' ((d, .slice A xs.length c) :: L) → SL P Q S' rest a' w') : SL P Q S' (.one s :: rest) a w := by
 obtain ⟨A, c, w', h1, h2, h3⟩ := lit_exec (P := P) RT fr (o := s.oper) ho hp hn h0 S
 exact sl_val fr hw hq hd hlt h1 (h w' A c h3).1 h2 (h w' A c h3).2
theorem make_exec {t e : TypeId} (RT : RowTy P t e k) (fr : FrD Df N a L) {o : Oper} {x y : Operand} {k1 k2 : IntKind} {n : Int} (ho : o.op = .makeSlice t x y) (hx : ev L x = some (.int k1 n)) (hy : ev L y = some (.int k2 n)) (hb : 0 ≤ n ∧ n ≤ 1000000000) (S : Sat w0 w R) :
  ∃ A c w', (execOp a.eval o).run P w = .ok (.value (.slice A (List.replicate n.toNat (0 : Int)).length c)) w' ∧ vok (.slice A (List.replicate n.toNat (0 : Int)).length c) = true ∧ Sat w0 w' (ownA k e A c (List.replicate n.toNat 0) :: R) := by
 obtain ⟨m, rfl⟩ : ∃ m : Nat, n = m := ⟨n.toNat, by omega⟩
 obtain ⟨bytes, hle, hinfo⟩ := RT.hi
 have hmul : bytes * m ≤ 8 * m := Nat.mul_le_mul_right _ hle
 have hr := mk_run (P := P) t e (.int k 0) bytes RT.ht hinfo rfl k1 k2 m (by omega) (by omega) w
 have hml : m ≤ maxLen := Nat.le_trans (show m ≤ 1000000000 by omega) (by decide)
 rw [Int.toNat_natCast, List.length_replicate]
 refine ⟨some ⟨w.heap.size, 0, none⟩, m, w.alloc (.cells (Array.replicate m (.int k 0)) e), ?_, vok_sl ⟨Nat.le_refl _, hml⟩, ?_⟩
 ·unfold execOp
  simp only [ho, (fr.ev hx).1, (fr.ev hy).1]
  rw [Sem.run_bind, hr]; rfl
 ·have hm := OwnI.made (B := w.heap.size) w k (List.replicate m 0) e (Array.replicate m (.int k 0)) (by simp) (Nat.le_refl _) (by rw [List.length_replicate]; exact hml)
  rw [List.length_replicate] at hm
  obtain ⟨A, c, ev', _, h3⟩ := S.row (l := List.replicate m 0) ((Below.refl _ _).alloc (Nat.le_refl _) _) hm (fun z hz => by
   rw [List.eq_of_mem_replicate hz]; cases k <;> decide)
  injection ev' with e4 e5 e6
  subst e4 e6
  exact h3
theorem wl_make {t e : TypeId} (RT : RowTy P t e k) {o : Oper} {rest : List Oper} {d : Nat} {x y : Operand} {k1 k2 : IntKind} {n : Int} (fr : FrD Df N a L) (hw : wantL ops L o = some true) (hd : o.dst = some d) (hlt : Nat.blt d N = true) (ho : o.op = .makeSlice t x y) (hx : ev L x = some (.int k1 n)) (hy : ev L y = some (.int k2 n)) (hb : 0 ≤ n ∧ n ≤ 1000000000) (S : Sat w0 w R)
  (h : ∀ w' A c, Sat w0 w' (ownA k e A c (List.replicate n.toNat 0) :: R) → ∀ a', FrD Df N a' ((d, .slice A (List.replicate n.toNat (0 : Int)).length c) :: L) → wpList P ops Q rest a' w') : wpList P ops Q (o :: rest) a w := by
 obtain ⟨A, c, w', h1, h2, h3⟩ := make_exec (P := P) RT fr ho hx hy hb S
 exact wl_val fr hw hd hlt h1 h2 (h w' A c h3)
theorem app_exec {t e : TypeId} (RT : RowTy P t e k) (fr : FrD Df N a L) {o : Oper} {x y : Operand} {A Y : Option Addr} {n m c cy : Nat} {l news : List Int} (ho : o.op = .call { callee := .builtin .append, args := #[x, y], argTypes := #[t, t] }) (hx : ev L x = some (.slice A n c)) (hn : n = l.length) (hy : ev L y = some (.slice Y m cy)) (hm : m = news.length)
  (hr : Rk k w Y news) (hb : (l.length : Int) + (news.length : Int) ≤ 17592186044416) (S : Sat w0 w (ownA k e A c l :: R)) :
  ∃ A' c' w', (execOp a.eval o).run P w = .ok (.value (.slice A' (l ++ news).length c')) w' ∧ vok (.slice A' (l ++ news).length c') = true ∧ Sat w0 w' (ownA k e A' c' (l ++ news) :: R) := by
 subst hn hm
 obtain ⟨F, ⟨h1, h2, h3⟩, hF, hk⟩ := S.opened
 obtain ⟨bytes, hle, hinfo⟩ := RT.hi
 have hmul : (l.length + news.length) * bytes ≤ (l.length + news.length) * 8 := Nat.mul_le_mul_left _ hle
 obtain ⟨v', w', hrun, h4, h5, h6⟩ := ap_run (P := P) t o.type (.int k 0) bytes RT.ht hinfo rfl h1 Y news.length cy news rfl hr.rd (fun e => by rw [hr.rd.empty e]; rfl) (by unfold maxLen; omega) (by omega) S.below.size
 obtain ⟨A', c', rfl, h7, h8, _, _⟩ := h4.slice
 refine ⟨A', c', w', ?_, vok_sl ⟨h7, h8⟩, ?_⟩
 ·unfold execOp
  simp only [ho, resolve]
  rw [Sem.run_bind, Sem.run_pure, Result.andThen_ok]
  simp only [invoke, builtin, List.map_toArray, List.map_cons, List.map_nil, (fr.ev hx).1, (fr.ev hy).1]
  rw [Sem.run_bind, hrun]; rfl
 ·refine hk (A' := ownA k e A' c' (l ++ news)) (F' := fun g => (Value.slice A' (l ++ news).length c').ownBlock = some g) ⟨h4, fun z hz => ?_, fun g => Iff.rfl⟩ (Chg.of_grown h5) (fun g _ hg => (h3 g).2 hg.symm) fun g hg => ?_
  ·rcases List.mem_append.1 hz with hz | hz
   ·exact h2 z hz
   ·exact hr.wf z hz
  ·rcases h6 with h | h
   ·rw [h] at hg; exact .inl ((h3 g).2 hg)
   ·rw [h] at hg; injection hg with hg; subst hg; exact .inr (Nat.le_refl _)
theorem wl_app {t e : TypeId} (RT : RowTy P t e k) {o : Oper} {rest : List Oper} {d : Nat} {x y : Operand} {A Y : Option Addr} {n m c cy : Nat} {l news : List Int} (fr : FrD Df N a L) (hw : wantL ops L o = some true) (hd : o.dst = some d) (hlt : Nat.blt d N = true) (ho : o.op = .call { callee := .builtin .append, args := #[x, y], argTypes := #[t, t] }) (hx : ev L x = some (.slice A n c)) (hn : n = l.length) (hy : ev L y = some (.slice Y m cy)) (hm : m = news.length)
  (hr : Rk k w Y news) (hb : (l.length : Int) + (news.length : Int) ≤ 17592186044416) (S : Sat w0 w (ownA k e A c l :: R))
  (h : ∀ w' A' c', Sat w0 w' (ownA k e A' c' (l ++ news) :: R) → ∀ a', FrD Df N a' ((d, .slice A' (l ++ news).length c') :: L) → wpList P ops Q rest a' w') : wpList P ops Q (o :: rest) a w := by
 obtain ⟨A', c', w', h1, h2, h3⟩ := app_exec (P := P) RT fr ho hx hn hy hm hr hb S
 exact wl_val fr hw hd hlt h1 h2 (h w' A' c' h3)
theorem sl_app {t e : TypeId} (RT : RowTy P t e k) {s : SOp} {rest : List Itm} {d : Nat} {x y : Operand} {A Y : Option Addr} {n m c cy : Nat} {l news : List Int} (fr : FrD Df N a L) (hw : wantS L s = some true) (hq : s.q = false) (hd : s.dst = some d) (hlt : Nat.blt d N = true) (ho : s.op = .call { callee := .builtin .append, args := #[x, y], argTypes := #[t, t] }) (hx : ev L x = some (.slice A n c)) (hn : n = l.length) (hy : ev L y = some (.slice Y m cy)) (hm : m = news.length)
  (hr : Rk k w Y news) (hb : (l.length : Int) + (news.length : Int) ≤ 17592186044416) (S : Sat w0 w (ownA k e A c l :: R))
  (h : ∀ w' A' c', Sat w0 w' (ownA k e A' c' (l ++ news) :: R) → S' w' ∧ ∀ a', FrD Df N a' ((d, .slice A' (l ++ news).length c') :: L) → SL P Q S' rest a' w') : SL P Q S' (.one s :: rest) a w := by
 obtain ⟨A', c', w', h1, h2, h3⟩ := app_exec (P := P) RT fr (o := s.oper) ho hx hn hy hm hr hb S
 exact sl_val fr hw hq hd hlt h1 (h w' A' c' h3).1 h2 (h w' A' c' h3).2
end
section
variable {α : Type} {P : Program} {T : Orc} {ops : Array Oper} {Q : Exit → Act → World → Prop} {S' : World → Prop} {Df : List Deferred} {N : Nat} {a : Act} {w w0 : World} {L : Env} {R : List Asn} {f : α → Value}
theorem indexArr_run (hT : T.Ok P) (fr : FrD Df N a L) {o : Oper} {t : TypeId} {x ix : Operand} (ho : o.op = .indexAddr t x ix) {A : Addr} {n e s : Nat} {ki : IntKind} {i : Int} (hx : ev L x = some (.pointer (some A))) (hi : ev L ix = some (.int ki i))
  (ht : T.ty.lookup t = some (.array n e)) (hs : T.sz.lookup e = some s) (h0 : 0 ≤ i) (hlt : i < n) (w : World) : (execOp a.eval o).run P w = .ok (.value (.pointer (some (A.add (i.toNat * s))))) w := by
 unfold execOp
 simp only [ho, (fr.ev hx).1, (fr.ev hi).1, Instr.indexAt, asIntOf]
 simp [run_underlying (hT.und ht), size_run hT hs, h0, hlt, Instr.sureAddr]
end
end Go.Proofs.YticnjkdaccacaaaGreat.Sx
end
