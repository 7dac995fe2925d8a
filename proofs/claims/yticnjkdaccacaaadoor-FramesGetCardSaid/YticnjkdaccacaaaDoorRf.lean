/- Ranges over functions: the statement, its rounds, the call of yield, the way out; over the steps of this work. -/
import Derived.Test.YticnjkdaccacaaaDoorSl
import Derived.Test.YticnjkdaccacaaaDoorIt
import Derived.RangeFuncLeaves
import Derived.RangeFuncRecord
import Derived.RangeFuncCalls
namespace Go.Proofs.YticnjkdaccacaaaDoor.Sx
open Go Go.RowKit Base Own

/-! ### Other things in memory -/
def objA (o : Obj) (b : Nat) : Asn where
  holds := fun w B F => w.heap[b]? = some o ∧ B ≤ b ∧ ∀ g, F g ↔ g = b
  keep := fun ⟨h1, h3, h4⟩ hc hF _ => ⟨by rw [hc.block _ (Array.getElem?_eq_some_iff.1 h1).1 (hF _ ((h4 _).2 rfl))]; exact h1, h3, h4⟩
  dom := fun ⟨h1, h3, h4⟩ g hg => by rw [h4 g] at hg; subst hg; exact ⟨h3, (Array.getElem?_eq_some_iff.1 h1).1⟩
section
variable {w0 w : World} {M R : List Asn} {o o' : Obj} {b : Nat}
theorem Sat.objAt (S : Sat w0 w M) (i : Nat) (hi : M[i]? = some (objA o b)) : w.heap[b]? = some o := by
  obtain ⟨F, h1, _⟩ := (S.frontAt i hi).hd
  exact h1
theorem Sat.putObj (o' : Obj) (S : Sat w0 w (objA o b :: R)) : Sat w0 (w.putObj b o') (objA o' b :: R) := by
  obtain ⟨F, ⟨h1, h3, h4⟩, hF, hk⟩ := S.opened
  exact hk (A' := objA o' b) (F' := F) (G := fun g => g = b) ⟨World.putObj_heap_same (Array.getElem?_eq_some_iff.1 h1).1, h3, h4⟩ (putObj_chg w b o') (fun g _ hg => (h4 g).2 hg) fun g hg => .inl hg
theorem Sat.putLoop {r : Loop} (f : Loop → Loop) (S : Sat w0 w (objA (.loop r) b :: R)) : Sat w0 (w.putObj b (.loop (f r))) (objA (.loop (f r)) b :: R) := S.putObj _
theorem Sat.addObj (o : Obj) (S : Sat w0 w R) : Sat w0 (w.alloc o) (objA o w.heap.size :: R) :=
  S.add (F := fun g => g = w.heap.size) ((Below.refl _ _).alloc (Nat.le_refl _) _) ⟨heap_alloc_new _ _, S.below.size, fun g => Iff.rfl⟩ fun g hg => Nat.le_of_eq hg.symm
end
/-- Two things as one. -/
def sepA (A B : Asn) : Asn where
  holds := fun w b F => ∃ F1 F2 : Nat → Prop, A.holds w b F1 ∧ B.holds w b F2 ∧ (∀ k, F2 k → ¬ F1 k) ∧ ∀ k, F k ↔ F1 k ∨ F2 k
  keep := fun ⟨F1, F2, h1, h2, h3, h4⟩ hc hF hB => ⟨F1, F2, A.keep h1 hc (fun k hk => hF k ((h4 k).2 (.inl hk))) hB, B.keep h2 hc (fun k hk => hF k ((h4 k).2 (.inr hk))) hB, h3, h4⟩
  dom := fun ⟨F1, F2, h1, h2, h3, h4⟩ k hk => ((h4 k).1 hk).elim (A.dom h1 k) (B.dom h2 k)
/-- One of some things. -/
def exA {ι : Type} (f : ι → Asn) : Asn where
  holds := fun w b F => ∃ i, (f i).holds w b F
  keep := fun ⟨i, h⟩ hc hF hB => ⟨i, (f i).keep h hc hF hB⟩
  dom := fun ⟨i, h⟩ k hk => (f i).dom h k hk
section
variable {w0 w : World} {M : List Asn} {A B : Asn}
theorem Sat.ofSep (S : Sat w0 w (sepA A B :: M)) : Sat w0 w (A :: B :: M) := by
  obtain ⟨F, ⟨F1, F2, h1, h2, h3, h4⟩, h5, h6⟩ := S.parts
  exact ⟨S.below, F1, h1, fun _ _ h => h, F2, h2, fun k hk hh => hh.elim id (h3 k hk), h6.weak fun k hk => by
    rcases hk with (h | h) | h
    · exact h.elim
    · exact .inr ((h4 k).2 (.inl h))
    · exact .inr ((h4 k).2 (.inr h))⟩
theorem Sat.toSep (S : Sat w0 w (A :: B :: M)) : Sat w0 w (sepA A B :: M) := by
  obtain ⟨F1, h1, h2, F2, h3, h4, h5⟩ := S.parts
  exact ⟨S.below, fun k => F1 k ∨ F2 k, ⟨F1, F2, h1, h3, fun k hk hh => h4 k hk (.inr hh), fun k => Iff.rfl⟩, fun _ _ h => h, h5.weak fun k hk => by
    rcases hk with h | h | h
    · exact h.elim
    · exact .inl (.inr h)
    · exact .inr h⟩
theorem Sat.ofEx {ι : Type} {f : ι → Asn} (S : Sat w0 w (exA f :: M)) : ∃ i, Sat w0 w (f i :: M) := by
  obtain ⟨F, ⟨i, h1⟩, h2, h3⟩ := S.parts
  exact ⟨i, S.below, F, h1, h2, h3⟩
theorem Sat.toEx {ι : Type} {f : ι → Asn} (i : ι) (S : Sat w0 w (f i :: M)) : Sat w0 w (exA f :: M) := by
  obtain ⟨F, h1, h2, h3⟩ := S.parts
  exact ⟨S.below, F, ⟨i, h1⟩, h2, h3⟩
end
/-! ### From the open steps to those in a round -/
section
variable {P : Program} {n r : Nat}
theorem opIn {o : Oper} {a : Act} {w : World} {K K' : Act → World → Prop} {Q : Exit → Act → World → Prop} (hd : ∀ c, o.op ≠ .defer c) (h : o.wp P a w K Q) (hK : ∀ a w, K a w → K' a w) : o.wpIn (Fence.wide.inRound r) n P a w K' Q := by
  refine ⟨fun _ _ => trivial, ?_⟩
  rw [Oper.semAt_eq _ _ _ hd]
  unfold Oper.wp at h
  generalize hres : (execOp a.eval o).run P w = res at h
  cases res with
  | ok x w' =>
    cases x with
    | value v => exact hK _ _ h
    | skip => exact hK _ _ h
    | defer d => exact hK _ _ h
    | enter f args =>
      refine ⟨(fun hh => by cases hh), CallsIn.inRound r (callsIn_wide.2 (Calls.mono h fun e w'' hh => ?_))⟩
      cases e with
      | returned v => exact hK _ _ hh
      | panicked c => exact hh
      | outgrown => exact hh
    | row row args => exact ⟨(fun hh => by cases hh), fun c cs _ => let ⟨v, w'', q, s⟩ := h c cs; ⟨v, w'', hK _ _ q, stepsIn_wide.2 s⟩⟩
    | round l f t x y => exact h.elim
    | _ => exact h.elim
  | halt hl w' =>
    cases hl with
    | panic v => exact h
    | _ => exact h.elim
theorem wlIn {ops : Array Oper} {Q : Exit → Act → World → Prop} (hQ : ∀ a w, ¬ Q .outgrown a w) : ∀ {lst : List Oper} {a : Act} {w : World}, (∀ o ∈ lst, ∀ c, o.op ≠ .defer c) → wpList P ops Q lst a w → wpListIn (Fence.wide.inRound r) n P ops Q lst a w := by
  intro lst
  induction lst with
  | nil => intro a w _ h; exact h
  | cons o rest ih =>
    intro a w hd h
    have hd' : ∀ o ∈ rest, ∀ c, o.op ≠ .defer c := fun o ho => hd o (List.mem_cons_of_mem _ ho)
    unfold wpList at h
    unfold wpListIn
    split at h
    · rename_i hw
      rw [if_pos hw]
      rcases h with h | ⟨-, a0, w0, h⟩
      · exact opIn (hd o List.mem_cons_self) h fun a w hh => ih hd' hh
      · exact absurd h (hQ a0 w0)
    · rename_i hw
      rw [if_neg hw]
      exact ⟨fun _ _ => trivial, ih hd' h⟩
theorem regIn {id : Nat} {lst : List Oper} {Q : Exit → Act → World → Prop} {a : Act} {w : World} (hQ : ∀ a w, ¬ Q .outgrown a w) (hd : ∀ o ∈ lst, ∀ c, o.op ≠ .defer c) (h : wpList P lst.toArray Q lst a w) : (Code.region id lst.toArray false).wpIn (Fence.wide.inRound r) n P Q a w := wpIn_region_lit (wlIn hQ hd h)
end
/-! ### A list of operations that calls yield -/
section
variable {P : Program} {T : Orc} {ops : Array Oper} {Q : Exit → Act → World → Prop} {N n : Nat} {a : Act} {w w0 : World} {L : Env} {R : List Asn}
theorem reg_out {id : Nat} {lst : List Oper} (h : wpListIn Fence.wide n P lst.toArray Q lst a w) : (Code.region id lst.toArray false).wp P Q a w := wpIn_wide.1 (wpIn_region_lit h)
theorem wli_run (hT : T.Ok P) : ∀ (q : Nat) {l rest : List Oper} {L L' : Env} {a : Act}, runL T N ops q l L = some (rest, L') → Fr N a L → (∀ a', Fr N a' L' → wpListIn Fence.wide n P ops Q rest a' w) → wpListIn Fence.wide n P ops Q l a w := by
  intro q
  induction q with
  | zero => intro l rest L L' a hr fr h; simp only [runL, Option.some.injEq, Prod.mk.injEq] at hr; obtain ⟨rfl, rfl⟩ := hr; exact h a fr
  | succ q ih =>
    intro l rest L L' a hr fr h
    cases l with
    | nil => simp [runL] at hr
    | cons o r =>
      simp only [runL] at hr
      split at hr
      · rename_i L1 h1
        unfold stepL at h1
        split at h1
        · cases h1
        · rename_i d hd
          split at h1
          · rename_i hlt
            split at h1
            · rename_i hw
              split at h1
              · rename_i v hv
                injection h1 with h1; subst h1
                obtain ⟨e1, e2⟩ := pure_run hT fr hv w
                unfold wpListIn
                rw [wantL_run fr hw, if_pos rfl]
                refine ⟨fun _ _ => trivial, ?_⟩
                show o.uponIn Fence.wide n P a _ Q ((execOp a.eval o).run P w)
                rw [e1]
                show wpListIn Fence.wide n P ops Q r (a.put o.dst v) w
                rw [hd]
                exact ih hr (fr.put hlt e2) h
              · cases h1
            · rename_i hw
              injection h1 with h1; subst h1
              unfold wpListIn
              rw [wantL_run fr hw, if_neg (by decide)]
              refine ⟨fun _ _ => trivial, ?_⟩
              rw [hd]
              exact ih hr (fr.put hlt rfl) h
            · cases h1
          · cases h1
      · cases hr
/-- yield is called: a round. -/
theorem wli_yield {o : Oper} {rest : List Oper} {d lp : Nat} {x : Operand} {v : Value} {c : Call} {fn : FuncId} {tmps : Array Value} {assign body : Code} {I : World → Prop} (fr : Fr N a L) (hw : wantL ops L o = some true) (hd : o.dst = some d) (hlt : Nat.blt d N = true) (ho : o.op = .call c) (hc : c.callee = .value x)
    (hx : ev L x = some (.func (.yield lp) #[] #[])) (hxs : evs L c.args.toList = some [v]) (hy : (Instr.yield lp #[v]).run P w = .ok (.round lp fn tmps assign body) w)
    (hR : RoundIn Fence.wide (n - 1) P lp fn tmps assign body w fun e w' => e = .returned (.bool true) ∧ I w') (h : ∀ w', I w' → ∀ a', Fr N a' ((d, .bool true) :: L) → wpListIn Fence.wide n P ops Q rest a' w') : wpListIn Fence.wide n P ops Q (o :: rest) a w := by
  have e : c.args.map a.eval = #[v] := by
    apply Array.toList_inj.1
    rw [Array.toList_map, (evs_run fr hxs).1]
  have hrun : (execOp a.eval o).run P w = .ok (.round lp fn tmps assign body) w := by
    unfold execOp
    simp only [ho, resolve, hc, (fr.ev hx).1, Deferred.ofValue]
    rw [Sem.run_bind, Sem.run_pure, Result.andThen_ok]
    simp only [invoke, e]
    simpa using hy
  unfold wpListIn
  rw [wantL_run fr hw, if_pos rfl]
  refine ⟨fun _ _ => trivial, ?_⟩
  show o.uponIn Fence.wide n P a _ Q ((execOp a.eval o).run P w)
  rw [hrun]
  refine ⟨(fun hh => by cases hh), hR.mono ?_⟩
  rintro e' w' ⟨rfl, hI⟩
  show wpListIn Fence.wide n P ops Q rest (a.put o.dst (.bool true)) w'
  rw [hd]
  exact h w' hI _ (fr.put (blt_lt hlt) rfl)
/-- The statement, where no round leaves it. -/
theorem cw_rangeF {g : Operand} {gf : FuncId} {lb : Array Value} {ps : Array Tmp} {assign body : Code} (fr : Fr N a L) (hg : ev L g = some (.func (.func gf) #[] lb)) (hin : Enters P gf) (S : Sat w0 w R)
    (hcall : ∀ (fn : FuncId) (lp D : Nat) (w1 : World), Sat w0 w1 (objA (.loop { state := .ready, pending := none, fn, tmps := a.tmps, params := ps, assign, body, defers := D }) lp :: objA (.deferred (some [])) D :: R) →
      Calls P gf (#[.func (.yield lp) #[] #[]] ++ lb) w1 fun e w' => (∃ v, e = .returned v) ∧ w'.heap[lp]? = some (.loop { state := .ready, pending := none, fn, tmps := a.tmps, params := ps, assign, body, defers := D }) ∧
        Q .normal { a with defers := { target := .collected D, args := #[] } :: a.defers } (w'.putObj lp (.loop { state := .exhausted, pending := none, fn, tmps := a.tmps, params := ps, assign, body, defers := D }))) :
    (Code.rangeFunc g ps assign body).wp P Q a w := by
  refine (wpIn_wide (n := 1)).1 (wpIn_rangeFunc fun fn _ => ?_)
  have S1 := (S.addObj (.deferred (some []))).addObj (.loop { state := .ready, pending := none, fn, tmps := a.tmps, params := ps, assign, body, defers := w.heap.size })
  have hs : (w.alloc (.deferred (some []))).heap.size = w.heap.size + 1 := by simp
  rw [hs] at S1
  obtain ⟨W1, hW1⟩ : ∃ W1, W1 = (w.alloc (.deferred (some []))).alloc (.loop { state := .ready, pending := none, fn, tmps := a.tmps, params := ps, assign, body, defers := w.heap.size }) := ⟨_, rfl⟩
  rw [← hW1] at S1
  refine ⟨w.heap.size + 1, [{ target := .collected w.heap.size, args := #[] }], W1, { target := .fn (.func gf) lb, args := #[.func (.yield (w.heap.size + 1)) #[] #[]] }, W1, gf, #[.func (.yield (w.heap.size + 1)) #[] #[]] ++ lb, W1, by rw [hW1]; exact run_enterLoop_outer _ _ _ _ _, ?_, fun _ _ => trivial, ?_, (fun hh => by cases hh), ?_⟩
  · simp only [resolve, (fr.ev hg).1]
    simp [go_sem]
  · simp only [invoke]
    have := hin (#[.func (.yield (w.heap.size + 1)) #[] #[]] ++ lb) W1
    simpa using this
  · refine callsIn_wide.2 ((hcall fn (w.heap.size + 1) w.heap.size _ S1).mono ?_)
    rintro e w' ⟨⟨v, rfl⟩, hl, hq⟩
    exact ⟨none, _, run_endLoop hl (by simp), hq⟩
/-- A function whose body ranges over a function returns. -/
theorem calls_marks {f : FuncId} {fn : Func} {c : Code} {E : Ending → World → Prop} (xs : List Value) (hf : P.funcs[f]? = some fn) (hb : fn.body = some c) (hN : fn.ntmps = N) (hl : Nat.ble xs.length N = true) (hv : xs.all vok = true)
    (h : ∀ a, Fr N a (EnvOf 0 xs) → c.wp P (bodyPostM Fence.wide 1 P fn E) a w) : Calls P f xs.toArray w E := by
  refine (callsIn_wide (n := 1)).1 (callsIn_of_wp_marks hf hb trivial (wpIn_wide.2 (h _ ?_)))
  subst hN
  have := Fr.start fn.ntmps xs (Nat.le_of_ble_eq_true hl) hv
  simpa using this
theorem wl_raw {o : Oper} {rest : List Oper} {v : Value} {w' : World} (hg : o.guard = none) (hrun : (execOp a.eval o).run P w = .ok (.value v) w') (h : wpList P ops Q rest (a.put o.dst v) w') : wpList P ops Q (o :: rest) a w :=
  wpList_step fun K hK => by
    have : Region.wanted o (yielded ops a.tmps) = true := by simp [Region.wanted, hg]
    rw [if_pos this]
    exact wp_value hrun (hK _ _ h)
end
end Go.Proofs.YticnjkdaccacaaaDoor.Sx
