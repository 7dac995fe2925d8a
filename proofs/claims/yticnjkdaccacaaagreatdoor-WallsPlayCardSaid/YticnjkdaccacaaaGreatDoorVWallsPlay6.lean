/- Texts of this work, one behind the other. -/
import Derived.Test.YticnjkdaccacaaaGreatDoorVWallsPlay5
import Derived.RangeFuncLeaves
import Derived.RangeFuncRecord
import Derived.RangeFuncCalls
import Derived.IntWalk
section
namespace Go.Proofs.YticnjkdaccacaaaGreatDoor.Sx
open Go Go.RowKit Base _root_.Go.Proofs.YticnjkdaccacaaaGreatDoor.Own
def objA (o : Obj) (b : Nat) : Asn where
  holds := fun w B F => w.heap[b]? = some o ∧ B ≤ b ∧ ∀ g, F g ↔ g = b
  keep := fun ⟨h1, h3, h4⟩ hc hF _ => ⟨by rw [hc.block _ (Array.getElem?_eq_some_iff.1 h1).1 (hF _ ((h4 _).2 rfl))]; exact h1, h3, h4⟩
  dom := fun ⟨h1, h3, h4⟩ g hg => by rw [h4 g] at hg; subst hg; exact ⟨h3, (Array.getElem?_eq_some_iff.1 h1).1⟩
section
variable {w0 w : World} {M R : List Asn} {o o' : Obj} {b : Nat}
theorem Sat.objAt (S : Sat w0 w M) (i : Nat) (hi : M[i]? = some (objA o b)) : w.heap[b]? = some o := by
  obtain ⟨F, h1, _⟩ := (S.frontAt i hi).hd
  exact h1
theorem Sat.putObj (o' : Obj) (S : Sat w0 w (objA o b :: R)) : Sat w0 (w.putObj b o') (objA o' b :: R) := by
  obtain ⟨F, ⟨h1, h3, h4⟩, hF, hk⟩ := S.opened
  exact hk (A' := objA o' b) (F' := F) (G := fun g => g = b) ⟨World.putObj_heap_same (Array.getElem?_eq_some_iff.1 h1).1, h3, h4⟩ (putObj_chg w b o') (fun g _ hg => (h4 g).2 hg) fun g hg => .inl hg
theorem Sat.putLoop {r : Loop} (f : Loop → Loop) (S : Sat w0 w (objA (.loop r) b :: R)) : Sat w0 (w.putObj b (.loop (f r))) (objA (.loop (f r)) b :: R) := S.putObj _
theorem Sat.addObj (o : Obj) (S : Sat w0 w R) : Sat w0 (w.alloc o) (objA o w.heap.size :: R) :=
  S.add (F := fun g => g = w.heap.size) ((Below.refl _ _).alloc (Nat.le_refl _) _) ⟨heap_alloc_new _ _, S.below.size, fun g => Iff.rfl⟩ fun g hg => Nat.le_of_eq hg.symm
end
def sepA (A B : Asn) : Asn where
  holds := fun w b F => ∃ F1 F2 : Nat → Prop, A.holds w b F1 ∧ B.holds w b F2 ∧ (∀ k, F2 k → ¬ F1 k) ∧ ∀ k, F k ↔ F1 k ∨ F2 k
  keep := fun ⟨F1, F2, h1, h2, h3, h4⟩ hc hF hB => ⟨F1, F2, A.keep h1 hc (fun k hk => hF k ((h4 k).2 (.inl hk))) hB, B.keep h2 hc (fun k hk => hF k ((h4 k).2 (.inr hk))) hB, h3, h4⟩
  dom := fun ⟨F1, F2, h1, h2, h3, h4⟩ k hk => ((h4 k).1 hk).elim (A.dom h1 k) (B.dom h2 k)
def exA {ι : Type} (f : ι → Asn) : Asn where
  holds := fun w b F => ∃ i, (f i).holds w b F
  keep := fun ⟨i, h⟩ hc hF hB => ⟨i, (f i).keep h hc hF hB⟩
  dom := fun ⟨i, h⟩ k hk => (f i).dom h k hk
section
variable {w0 w : World} {M : List Asn} {A B : Asn}
theorem Sat.ofSep (S : Sat w0 w (sepA A B :: M)) : Sat w0 w (A :: B :: M) := by
  obtain ⟨F, ⟨F1, F2, h1, h2, h3, h4⟩, h5, h6⟩ := S.parts
  exact ⟨S.below, F1, h1, fun _ _ h => h, F2, h2, fun k hk hh => hh.elim id (h3 k hk), h6.weak fun k hk => by
    rcases hk with (h | h) | h
    · exact h.elim
    · exact .inr ((h4 k).2 (.inl h))
    · exact .inr ((h4 k).2 (.inr h))⟩
theorem Sat.toSep (S : Sat w0 w (A :: B :: M)) : Sat w0 w (sepA A B :: M) := by
  obtain ⟨F1, h1, h2, F2, h3, h4, h5⟩ := S.parts
  exact ⟨S.below, fun k => F1 k ∨ F2 k, ⟨F1, F2, h1, h3, fun k hk hh => h4 k hk (.inr hh), fun k => Iff.rfl⟩, fun _ _ h => h, h5.weak fun k hk => by
    rcases hk with h | h | h
    · exact h.elim
    · exact .inl (.inr h)
    · exact .inr h⟩
theorem Sat.ofEx {ι : Type} {f : ι → Asn} (S : Sat w0 w (exA f :: M)) : ∃ i, Sat w0 w (f i :: M) := by
  obtain ⟨F, ⟨i, h1⟩, h2, h3⟩ := S.parts
  exact ⟨i, S.below, F, h1, h2, h3⟩
theorem Sat.toEx {ι : Type} {f : ι → Asn} (i : ι) (S : Sat w0 w (f i :: M)) : Sat w0 w (exA f :: M) := by
  obtain ⟨F, h1, h2, h3⟩ := S.parts
  exact ⟨S.below, F, ⟨i, h1⟩, h2, h3⟩
end
section
variable {P : Program} {n r : Nat}
theorem opIn {o : Oper} {a : Act} {w : World} {K K' : Act → World → Prop} {Q : Exit → Act → World → Prop} (hd : ∀ c, o.op ≠ .defer c) (h : o.wp P a w K Q) (hK : ∀ a w, K a w → K' a w) : o.wpIn (Fence.wide.inRound r) n P a w K' Q := by
  refine ⟨fun _ _ => trivial, ?_⟩
  rw [Oper.semAt_eq _ _ _ hd]
  unfold Oper.wp at h
  generalize hres : (execOp a.eval o).run P w = res at h
  cases res with
  | ok x w' =>
    cases x with
    | value v => exact hK _ _ h
    | skip => exact hK _ _ h
    | defer d => exact hK _ _ h
    | enter f args =>
      refine ⟨(fun hh => by cases hh), CallsIn.inRound r (callsIn_wide.2 (Calls.mono h fun e w'' hh => ?_))⟩
      cases e with
      | returned v => exact hK _ _ hh
      | panicked c => exact hh
      | outgrown => exact hh
    | row row args => exact ⟨(fun hh => by cases hh), fun c cs _ => let ⟨v, w'', q, s⟩ := h c cs; ⟨v, w'', hK _ _ q, stepsIn_wide.2 s⟩⟩
    | round l f t x y => exact h.elim
    | _ => exact h.elim
  | halt hl w' =>
    cases hl with
    | panic v => exact h
    | _ => exact h.elim
theorem wlIn {ops : Array Oper} {Q : Exit → Act → World → Prop} (hQ : ∀ a w, ¬ Q .outgrown a w) : ∀ {lst : List Oper} {a : Act} {w : World}, (∀ o ∈ lst, ∀ c, o.op ≠ .defer c) → wpList P ops Q lst a w → wpListIn (Fence.wide.inRound r) n P ops Q lst a w := by
  intro lst
  induction lst with
  | nil => intro a w _ h; exact h
  | cons o rest ih =>
    intro a w hd h
    have hd' : ∀ o ∈ rest, ∀ c, o.op ≠ .defer c := fun o ho => hd o (List.mem_cons_of_mem _ ho)
    unfold wpList at h
    unfold wpListIn
    split at h
    · rename_i hw
      rw [if_pos hw]
      rcases h with h | ⟨-, a0, w0, h⟩
      · exact opIn (hd o List.mem_cons_self) h fun a w hh => ih hd' hh
      · exact absurd h (hQ a0 w0)
    · rename_i hw
      rw [if_neg hw]
      exact ⟨fun _ _ => trivial, ih hd' h⟩
theorem regIn {id : Nat} {lst : List Oper} {Q : Exit → Act → World → Prop} {a : Act} {w : World} (hQ : ∀ a w, ¬ Q .outgrown a w) (hd : ∀ o ∈ lst, ∀ c, o.op ≠ .defer c) (h : wpList P lst.toArray Q lst a w) : (Code.region id lst.toArray false).wpIn (Fence.wide.inRound r) n P Q a w := wpIn_region_lit (wlIn hQ hd h)
end
section
variable {P : Program} {T : Orc} {ops : Array Oper} {Q : Exit → Act → World → Prop} {N n : Nat} {a : Act} {w w0 : World} {L : Env} {R : List Asn}
theorem reg_out {id : Nat} {lst : List Oper} (h : wpListIn Fence.wide n P lst.toArray Q lst a w) : (Code.region id lst.toArray false).wp P Q a w := wpIn_wide.1 (wpIn_region_lit h)
theorem wli_run (hT : T.Ok P) : ∀ (q : Nat) {l rest : List Oper} {L L' : Env} {a : Act}, runL T N ops q l L = some (rest, L') → Fr N a L → (∀ a', Fr N a' L' → wpListIn Fence.wide n P ops Q rest a' w) → wpListIn Fence.wide n P ops Q l a w := by
  intro q
  induction q with
  | zero => intro l rest L L' a hr fr h; simp only [runL, Option.some.injEq, Prod.mk.injEq] at hr; obtain ⟨rfl, rfl⟩ := hr; exact h a fr
  | succ q ih =>
    intro l rest L L' a hr fr h
    cases l with
    | nil => simp [runL] at hr
    | cons o r =>
      simp only [runL] at hr
      split at hr
      · rename_i L1 h1
        unfold stepL at h1
        split at h1
        · cases h1
        · rename_i d hd
          split at h1
          · rename_i hlt
            split at h1
            · rename_i hw
              split at h1
              · rename_i v hv
                injection h1 with h1; subst h1
                obtain ⟨e1, e2⟩ := pure_run hT fr hv w
                unfold wpListIn
                rw [wantL_run fr hw, if_pos rfl]
                refine ⟨fun _ _ => trivial, ?_⟩
                show o.uponIn Fence.wide n P a _ Q ((execOp a.eval o).run P w)
                rw [e1]
                show wpListIn Fence.wide n P ops Q r (a.put o.dst v) w
                rw [hd]
                exact ih hr (fr.put hlt e2) h
              · cases h1
            · rename_i hw
              injection h1 with h1; subst h1
              unfold wpListIn
              rw [wantL_run fr hw, if_neg (by decide)]
              refine ⟨fun _ _ => trivial, ?_⟩
              rw [hd]
              exact ih hr (fr.put hlt rfl) h
            · cases h1
          · cases h1
      · cases hr
theorem wli_yield {o : Oper} {rest : List Oper} {d lp : Nat} {x : Operand} {v : Value} {c : Call} {fn : FuncId} {tmps : Array Value} {assign body : Code} {I : World → Prop} (fr : Fr N a L) (hw : wantL ops L o = some true) (hd : o.dst = some d) (hlt : Nat.blt d N = true) (ho : o.op = .call c) (hc : c.callee = .value x)
    (hx : ev L x = some (.func (.yield lp) #[] #[])) (hxs : evs L c.args.toList = some [v]) (hy : (Instr.yield lp #[v]).run P w = .ok (.round lp fn tmps assign body) w)
    (hR : RoundIn Fence.wide (n - 1) P lp fn tmps assign body w fun e w' => e = .returned (.bool true) ∧ I w') (h : ∀ w', I w' → ∀ a', Fr N a' ((d, .bool true) :: L) → wpListIn Fence.wide n P ops Q rest a' w') : wpListIn Fence.wide n P ops Q (o :: rest) a w := by
  have e : c.args.map a.eval = #[v] := by
    apply Array.toList_inj.1
    rw [Array.toList_map, (evs_run fr hxs).1]
  have hrun : (execOp a.eval o).run P w = .ok (.round lp fn tmps assign body) w := by
    unfold execOp
    simp only [ho, resolve, hc, (fr.ev hx).1, Deferred.ofValue]
    rw [Sem.run_bind, Sem.run_pure, Result.andThen_ok]
    simp only [invoke, e]
    simpa using hy
  unfold wpListIn
  rw [wantL_run fr hw, if_pos rfl]
  refine ⟨fun _ _ => trivial, ?_⟩
  show o.uponIn Fence.wide n P a _ Q ((execOp a.eval o).run P w)
  rw [hrun]
  refine ⟨(fun hh => by cases hh), hR.mono ?_⟩
  rintro e' w' ⟨rfl, hI⟩
  show wpListIn Fence.wide n P ops Q rest (a.put o.dst (.bool true)) w'
  rw [hd]
  exact h w' hI _ (fr.put (blt_lt hlt) rfl)
theorem cw_rangeF {g : Operand} {gf : FuncId} {lb : Array Value} {ps : Array Tmp} {assign body : Code} (fr : Fr N a L) (hg : ev L g = some (.func (.func gf) #[] lb)) (hin : Enters P gf) (S : Sat w0 w R)
    (hcall : ∀ (fn : FuncId) (lp D : Nat) (w1 : World), Sat w0 w1 (objA (.loop { state := .ready, pending := none, fn, tmps := a.tmps, params := ps, assign, body, defers := D }) lp :: objA (.deferred (some [])) D :: R) →
      Calls P gf (#[.func (.yield lp) #[] #[]] ++ lb) w1 fun e w' => (∃ v, e = .returned v) ∧ w'.heap[lp]? = some (.loop { state := .ready, pending := none, fn, tmps := a.tmps, params := ps, assign, body, defers := D }) ∧
        Q .normal { a with defers := { target := .collected D, args := #[] } :: a.defers } (w'.putObj lp (.loop { state := .exhausted, pending := none, fn, tmps := a.tmps, params := ps, assign, body, defers := D }))) :
    (Code.rangeFunc g ps assign body).wp P Q a w := by
  refine (wpIn_wide (n := 1)).1 (wpIn_rangeFunc fun fn _ => ?_)
  have S1 := (S.addObj (.deferred (some []))).addObj (.loop { state := .ready, pending := none, fn, tmps := a.tmps, params := ps, assign, body, defers := w.heap.size })
  have hs : (w.alloc (.deferred (some []))).heap.size = w.heap.size + 1 := by simp
  rw [hs] at S1
  obtain ⟨W1, hW1⟩ : ∃ W1, W1 = (w.alloc (.deferred (some []))).alloc (.loop { state := .ready, pending := none, fn, tmps := a.tmps, params := ps, assign, body, defers := w.heap.size }) := ⟨_, rfl⟩
  rw [← hW1] at S1
  refine ⟨w.heap.size + 1, [{ target := .collected w.heap.size, args := #[] }], W1, { target := .fn (.func gf) lb, args := #[.func (.yield (w.heap.size + 1)) #[] #[]] }, W1, gf, #[.func (.yield (w.heap.size + 1)) #[] #[]] ++ lb, W1, by rw [hW1]; exact run_enterLoop_outer _ _ _ _ _, ?_, fun _ _ => trivial, ?_, (fun hh => by cases hh), ?_⟩
  · simp only [resolve, (fr.ev hg).1]
    simp [go_sem]
  · simp only [invoke]
    have := hin (#[.func (.yield (w.heap.size + 1)) #[] #[]] ++ lb) W1
    simpa using this
  · refine callsIn_wide.2 ((hcall fn (w.heap.size + 1) w.heap.size _ S1).mono ?_)
    rintro e w' ⟨⟨v, rfl⟩, hl, hq⟩
    exact ⟨none, _, run_endLoop hl (by simp), hq⟩
theorem calls_marks {f : FuncId} {fn : Func} {c : Code} {E : Ending → World → Prop} (xs : List Value) (hf : P.funcs[f]? = some fn) (hb : fn.body = some c) (hN : fn.ntmps = N) (hl : Nat.ble xs.length N = true) (hv : xs.all vok = true)
    (h : ∀ a, Fr N a (EnvOf 0 xs) → c.wp P (bodyPostM Fence.wide 1 P fn E) a w) : Calls P f xs.toArray w E := by
  refine (callsIn_wide (n := 1)).1 (callsIn_of_wp_marks hf hb trivial (wpIn_wide.2 (h _ ?_)))
  subst hN
  have := Fr.start fn.ntmps xs (Nat.le_of_ble_eq_true hl) hv
  simpa using this
theorem wl_raw {o : Oper} {rest : List Oper} {v : Value} {w' : World} (hg : o.guard = none) (hrun : (execOp a.eval o).run P w = .ok (.value v) w') (h : wpList P ops Q rest (a.put o.dst v) w') : wpList P ops Q (o :: rest) a w :=
  wpList_step fun K hK => by
    have : Region.wanted o (yielded ops a.tmps) = true := by simp [Region.wanted, hg]
    rw [if_pos this]
    exact wp_value hrun (hK _ _ h)
end
end Go.Proofs.YticnjkdaccacaaaGreatDoor.Sx
end
section
namespace Go.Proofs.YticnjkdaccacaaaGreatDoor.Sx
open Go Go.RowKit Base _root_.Go.Proofs.YticnjkdaccacaaaGreatDoor.Own OwnV
theorem row_of_rk {k : IntKind} {w : World} {A : Option Addr} {l : List Int} (h : Rk k w A l) : Rdr.Row (Rdr.int k) w A l := fun hne => by
  obtain ⟨ad, e, h1, h2⟩ := h.rd hne
  refine ⟨ad, e, fun _ => h1, fun i y hy => ⟨[.int k y], ⟨rfl, h.wf y (List.mem_of_getElem? hy)⟩, fun j u hu => ?_⟩⟩
  cases j with
  | zero =>
    injection hu with hu
    obtain ⟨hi, hy⟩ := List.getElem?_eq_some_iff.1 hy
    have := h2 i hi
    rw [show i * (Rdr.int k).sz + 0 = i from by show i * 1 + 0 = i; omega, this, ← hu, List.getD_eq_getElem?_getD, List.getElem?_eq_getElem hi, ← hy]; rfl
  | succ j => cases hu
theorem rk_of_row {k : IntKind} {w : World} {A : Option Addr} {l : List Int} (h : Rdr.Row (Rdr.int k) w A l) : Rk k w A l := ⟨(Rdr.Row.rd h).1, (Rdr.Row.rd h).2⟩
abbrev RR (k : IntKind) (w : World) (A : Option Addr) (ls : List (List Int)) : Prop := Rdr.Row (Rdr.sl (Rdr.int k)) w A ls
theorem RR.take {k : IntKind} {w : World} {A : Option Addr} {ls : List (List Int)} (h : RR k w A ls) (n : Nat) : RR k w A (ls.take n) := fun hne => by
  have hn : ls ≠ [] := fun e => hne (by rw [e, List.take_nil])
  obtain ⟨ad, e, h1, h2⟩ := h hn
  refine ⟨ad, e, h1, fun i y hy => ?_⟩
  rw [List.getElem?_take] at hy
  split at hy
  · exact h2 i y hy
  · cases hy
theorem RR.nil {k : IntKind} {w : World} {A : Option Addr} : RR k w A [] := fun h => absurd rfl h
theorem RR.get {k : IntKind} {w : World} {A : Option Addr} {ls : List (List Int)} (h : RR k w A ls) {i : Int} (hi : 0 ≤ i ∧ i < (ls.length : Int)) :
    ∃ A' c', Rk k w A' (ls.getD i.toNat []) ∧ ((ls.getD i.toNat []).length ≤ c' ∧ c' ≤ maxLen) ∧ ∃ ad, A = some ad ∧ w.cell? (ad.add (i.toNat * 1)) = some (.slice A' (ls.getD i.toNat []).length c') := by
  obtain ⟨j, rfl⟩ : ∃ j : Nat, i = j := ⟨i.toNat, by omega⟩
  have hj : j < ls.length := by omega
  obtain ⟨ad, e, _, h2⟩ := h (by intro e; rw [e] at hj; exact absurd hj (Nat.not_lt_zero _))
  obtain ⟨c, ⟨A', c', rfl, h3, h4, h5⟩, h6⟩ := h2 j _ (List.getElem?_eq_getElem hj)
  have hg : ls.getD j [] = ls[j] := by rw [List.getD_eq_getElem?_getD, List.getElem?_eq_getElem hj]; rfl
  have h7 := h6 0 _ rfl
  have h8 : (Rdr.sl (Rdr.int k)).sz = 1 := rfl
  rw [h8, Nat.add_zero] at h7
  rw [Int.toNat_natCast, hg]
  exact ⟨A', c', rk_of_row h5, ⟨h3, h4⟩, ad, e, h7⟩
theorem RR.cellAt {w0 w : World} (hb : Below w0.heap.size w0 w) {ad : Addr} {v : Value} (h : w0.cell? ad = some v) : w.cell? ad = some v := by
  rw [hb.cell (World.block_lt_of_cell? w0 _ h)]; exact h
theorem RR.facts {k : IntKind} {w : World} {A : Option Addr} {ls : List (List Int)} (h : RR k w A ls) : ∀ x ∈ ls, x.length ≤ maxLen ∧ ∀ z ∈ x, (Lit.int k z).wf = true := fun x hx => by
  obtain ⟨i, hi, rfl⟩ := List.getElem_of_mem hx
  obtain ⟨ad, e, _, h2⟩ := h (by intro e; rw [e] at hi; exact absurd hi (Nat.not_lt_zero _))
  obtain ⟨c, ⟨A', c', rfl, h3, h4, h5⟩, h6⟩ := h2 i _ (List.getElem?_eq_getElem hi)
  exact ⟨Nat.le_trans h3 h4, (rk_of_row h5).wf⟩
section
variable {P : Program} {T : Orc} {ops : Array Oper} {Q : Exit → Act → World → Prop} {S' : World → Prop} {Df : List Deferred} {N : Nat} {a : Act} {w w0 : World} {L : Env} {R : List Asn}
theorem FrD.skip2 {d1 d2 : Nat} {v1 v2 : Value} (fr : FrD Df N a ((d2, v2) :: (d1, v1) :: L)) (h1 : L.lookup d1 = none) : FrD Df N a ((d2, v2) :: L) :=
  ⟨fr.size, fr.defers, fun e u he => fr.get e u (by
    rw [lookup_cons] at he ⊢
    by_cases h3 : e = d2
    · rw [if_pos h3] at he ⊢; exact he
    · rw [if_neg h3] at he ⊢
      rw [lookup_cons]
      by_cases h4 : e = d1
      · subst h4; rw [h1] at he; cases he
      · rw [if_neg h4]; exact he)⟩
theorem want_skip {o : Oper} {d : Nat} {v : Value} {b : Bool} (h : wantL ops L o = some b) (hf : L.lookup d = none) : wantL ops ((d, v) :: L) o = some b := by
  unfold wantL at h ⊢
  split at h
  · exact h
  · rename_i j' want hg'
    split at h
    · rename_i t' ht'
      split at h
      · rename_i b hb'
        have hne : t' ≠ d := fun e => by subst e; rw [hf] at hb'; cases hb'
        rw [lookup_cons, if_neg hne, hb']; exact h
      · rename_i vs hb'
        have hne : t' ≠ d := fun e => by subst e; rw [hf] at hb'; cases hb'
        rw [lookup_cons, if_neg hne, hb']; exact h
      · cases h
    · cases h
theorem wl_ldc (hT : T.Ok P) {o1 o2 : Oper} {rest : List Oper} {t te : TypeId} {x ix : Operand} {d1 d2 : Nat} {A : Option Addr} {v : Value} {n c e : Nat} {ki : IntKind} {i : Int} {de : TypeDesc}
    (hr : ∃ ad, A = some ad ∧ w.cell? (ad.add (i.toNat * 1)) = some v) (hv : vok v = true) (fr : FrD Df N a L) (hw : wantL ops L o1 = some true) (ho1 : o1.op = .indexAddr t x ix) (hd1 : o1.dst = some d1) (hw2 : wantL ops L o2 = some true) (ho2 : o2.op = .load te (.tmp d1)) (hd2 : o2.dst = some d2) (hl1 : Nat.blt d1 N = true) (hl2 : Nat.blt d2 N = true)
    (hx : ev L x = some (.slice A n c)) (hi : ev L ix = some (.int ki i)) (ht : T.ty.lookup t = some (.slice e)) (hs : T.sz.lookup e = some 1) (hte : T.ty.lookup te = some de) (hde : aggD de = false) (hf : L.lookup d1 = none) (hb : 0 ≤ i ∧ i < (n : Int))
    (h : ∀ a', FrD Df N a' ((d2, v) :: L) → wpList P ops Q rest a' w) : wpList P ops Q (o1 :: o2 :: rest) a w := by
  obtain ⟨ad, rfl, hc⟩ := hr
  refine wl_val fr hw hd1 hl1 (indexAddr_run hT fr ho1 hx hi ht hs hb.1 hb.2 w) rfl fun a1 fr1 => ?_
  exact wl_val fr1 (want_skip hw2 hf) hd2 hl2 (load_run hT fr1 ho2 (by show ((d1, _) :: L).lookup d1 = _; rw [lookup_cons, if_pos rfl]) hte hde hc) hv fun a2 fr2 => h a2 (fr2.skip2 hf)
def rwsA (e : TypeId) (A : Option Addr) (c : Nat) (rs : List Rw) : Asn where
  holds := fun w B F => RowV w B e 1 (.slice A rs.length c) rs.length (rs.map rwV) ∧ (∀ r ∈ rs, vok (rwV r) = true) ∧ ∀ g, F g ↔ (Value.slice A rs.length c).ownBlock = some g
  keep := fun ⟨h1, h2, h3⟩ hc hF _ => ⟨h1.kept hc fun g hg => hF g ((h3 g).2 hg), h2, h3⟩
  dom := fun ⟨h1, _, h3⟩ g hg => h1.lt g ((h3 g).1 hg)
def empA : Asn where
  holds := fun _ _ F => ∀ g, ¬ F g
  keep := fun h _ _ _ => h
  dom := fun h g hg => absurd hg (h g)
def allA : List Asn → Asn
  | [] => empA
  | A :: L => sepA A (allA L)
theorem allA_mem {w : World} {B : Nat} : ∀ {L : List Asn} {F : Nat → Prop}, (allA L).holds w B F → ∀ A ∈ L, ∃ F', A.holds w B F' := by
  intro L
  induction L with
  | nil => intro F _ A hA; cases hA
  | cons C L ih =>
    rintro F ⟨F1, F2, h1, h2, _, _⟩ A hA
    rcases List.mem_cons.1 hA with rfl | hA
    · exact ⟨F1, h1⟩
    · exact ih h2 A hA
theorem Sat.empA (S : Sat w0 w R) : Sat w0 w (empA :: R) := S.add (F := fun _ => False) (Below.refl _ _) (fun _ h => h) fun _ h => h.elim
def recsA (k : IntKind) (eo ei : TypeId) (A : Option Addr) (c : Nat) (ls : List (List Int)) : Asn :=
  exA fun rs : { rs : List Rw // rs.map (·.2.2) = ls } => sepA (rwsA eo A c rs.1) (allA (rs.1.reverse.map fun r => ownA k ei r.1 r.2.1 r.2.2))
theorem Sat.noRecs (k : IntKind) (eo ei : TypeId) (S : Sat w0 w R) : Sat w0 w (recsA k eo ei none 0 [] :: R) := by
  refine Sat.toEx (f := fun rs : { rs : List Rw // rs.map (·.2.2) = [] } => sepA (rwsA eo none 0 rs.1) (allA (rs.1.reverse.map fun r => ownA k ei r.1 r.2.1 r.2.2))) ⟨[], rfl⟩ (Sat.toSep ?_)
  exact S.empA.add (F := fun _ => False) (Below.refl _ _) ⟨RowV.nil w _ eo 1, fun r hr => (by cases hr), fun g => by simp [Value.ownBlock]⟩ fun _ h => h.elim
theorem rec_read {k : IntKind} {eo ei : TypeId} {A : Option Addr} {c : Nat} {ls : List (List Int)} {B : Nat} {F : Nat → Prop} (h : (recsA k eo ei A c ls).holds w B F) : RR k w A ls ∧ (ls.length ≤ c ∧ c ≤ maxLen) := by
  obtain ⟨⟨rs, rfl⟩, F1, F2, ⟨h1, h2, h3⟩, h4, _, _⟩ := h
  obtain ⟨A', c', e, h5, h6, h7, h8⟩ := h1.slice
  injection e with e1 e2 e3
  subst e1 e3
  rw [List.length_map]
  refine ⟨fun hne => ?_, h5, h6⟩
  have hpos : 0 < rs.length := by
    rcases Nat.eq_zero_or_pos rs.length with h0 | h0
    · rw [List.eq_nil_of_length_eq_zero h0] at hne; exact absurd rfl hne
    · exact h0
  cases A with
  | none =>
    have h0 : rs.length = 0 := h7 rfl
    omega
  | some ad =>
    obtain ⟨g, rfl, h9, h10, h11, _⟩ := h8 ad rfl
    refine ⟨⟨g, 0, none⟩, rfl, fun _ => h10, fun i y hy => ?_⟩
    rw [List.getElem?_map] at hy
    obtain ⟨r, hr, rfl⟩ := Option.map_eq_some_iff.1 hy
    have hm := List.mem_of_getElem? hr
    obtain ⟨F', g1, g2, _⟩ := allA_mem h4 (ownA k ei r.1 r.2.1 r.2.2) (List.mem_map.2 ⟨r, List.mem_reverse.2 hm, rfl⟩)
    obtain ⟨A2, c2, e', g3, g4, g5, _⟩ := g1.slice
    injection e' with e1 e2 e3
    refine ⟨[rwV r], ⟨r.1, r.2.1, rfl, by rw [e3]; exact g3, by rw [e3]; exact g4, row_of_rk ⟨by rw [e1]; exact g5, g2⟩⟩, fun j u hu => ?_⟩
    cases j with
    | zero =>
      injection hu with hu
      subst hu
      have := h11 i (rwV r) (by rw [List.getElem?_map, hr]; rfl)
      rw [show i * (Rdr.sl (Rdr.int k)).sz + 0 = i from by show i * 1 + 0 = i; omega, addr0]
      rw [Nat.zero_add] at this
      exact this
    | succ j => cases hu
theorem Sat.recAt {M : List Asn} {k : IntKind} {eo ei : TypeId} {A : Option Addr} {c : Nat} {ls : List (List Int)} (S : Sat w0 w M) (i : Nat) (hi : M[i]? = some (recsA k eo ei A c ls)) : RR k w A ls ∧ (ls.length ≤ c ∧ c ≤ maxLen) := by
  obtain ⟨F, h1⟩ := (S.frontAt i hi).hd
  exact rec_read h1
theorem one_cell_exec {t e : TypeId} (fr : FrD Df N a L) {o : Oper} {x : Operand} {v : Value} (ho : o.op = .buildSlice t 1 #[(0, x)]) (hx : ev L x = some v) (hv : v.cells = #[v]) (hu : P.underlying t = some (.slice e)) (hi : (P.info? e).map (fun i => (i.zero.isSome, i.size)) = some (true, 1)) :
    (execOp a.eval o).run P w = .ok (.value (.slice (some ⟨w.heap.size, 0, none⟩) 1 1)) (w.alloc (.cells #[v] e)) := by
  obtain ⟨ie, hie, hzz⟩ := Option.map_eq_some_iff.1 hi
  simp only [Prod.mk.injEq] at hzz
  obtain ⟨z, hz⟩ := Option.isSome_iff_exists.1 hzz.1
  have hf : Instr.fill (fun i => some (i * ie.size, ie.size)) ((Array.range (1 * ie.size)).map (z.cells[· % z.cells.size]!)) (#[(0, x)].map fun (i, x) => (i, a.eval x)).toList = some #[v] := by
    rw [hzz.2]
    simp only [List.map_toArray, List.map_cons, List.map_nil, (fr.ev hx).1]
    rw [fill_step _ _ 0 0 1 v [] (by simp) (by rw [hv]; rfl) (by simp), Instr.fill]
    congr 1
    rw [hv]
    apply Array.toList_inj.1
    unfold splice
    simp
  unfold execOp
  simp only [ho]
  rw [Sem.run_bind, run_buildSlice w t e 1 _ #[v] ie z hu hie hz (by rw [hzz.2]; omega) (by rw [hzz.2]; omega) hf, Result.andThen_ok]
  rfl
theorem rws_app_exec {t e : TypeId} {bytes : Nat} (ht : P.underlying t = some (.slice e)) (hinfo : (P.info? e).map (fun i => (i.zero.map (·.cells.size), i.size, i.bytes)) = some (some 1, 1, bytes)) (hby : bytes ≤ 64) (fr : FrD Df N a L) {o : Oper} {x y : Operand} {A : Option Addr} {ad : Addr} {n c cy : Nat} {rs : List Rw} {r : Rw}
    (ho : o.op = .call { callee := .builtin .append, args := #[x, y], argTypes := #[t, t] }) (hx : ev L x = some (.slice A n c)) (hn : n = rs.length) (hy : ev L y = some (.slice (some ad) 1 cy)) (hc : w.cell? ad = some (rwV r)) (hv : vok (rwV r) = true) (hb : rs.length ≤ 1000000000) (S : Sat w0 w (rwsA e A c rs :: R)) :
    ∃ A' c' w', (execOp a.eval o).run P w = .ok (.value (.slice A' (rs ++ [r]).length c')) w' ∧ vok (.slice A' (rs ++ [r]).length c') = true ∧ Sat w0 w' (rwsA e A' c' (rs ++ [r]) :: R) := by
  subst hn
  obtain ⟨F, ⟨h1, h2, h3⟩, hF, hk⟩ := S.opened
  obtain ⟨i, hi, hzz⟩ := Option.map_eq_some_iff.1 hinfo
  simp only [Prod.mk.injEq] at hzz
  obtain ⟨hz1, hsz, hbi⟩ := hzz
  obtain ⟨z0, hz, hzc⟩ := Option.map_eq_some_iff.1 hz1
  have hmul : (rs.length + 1) * bytes ≤ (rs.length + 1) * 64 := Nat.mul_le_mul_left _ hby
  obtain ⟨v', w', hr, g2, g3, _, g5⟩ := run_append_own_at (P := P) w w0.heap.size t o.type e i z0 1 bytes ht hi hz hsz hbi hzc Nat.one_pos (.slice A rs.length c) rs.length (rs.map rwV) h1 ad 1 cy [rwV r] rfl (fun j u hu => by
    cases j with
    | zero => injection hu with hu; subst hu; rw [show ad.add 0 = ad from by cases ad; rename_i b o s; unfold Addr.add; cases s <;> rfl]; exact hc
    | succ j => cases hu) (fun u hu => by rw [List.mem_singleton] at hu; subst hu; rfl) (by unfold maxLen; omega) (by omega) S.below.size
  have g2' : RowV w' w0.heap.size e 1 v' (rs.length + 1) (rs.map rwV ++ [rwV r]) := g2
  obtain ⟨A', c', rfl, h7, h8, _, _⟩ := g2'.slice
  have hl : (rs ++ [r]).length = rs.length + 1 := by simp
  rw [hl]
  refine ⟨A', c', w', ?_, vok_sl ⟨h7, h8⟩, ?_⟩
  · unfold execOp
    simp only [ho, resolve]
    rw [Sem.run_bind, Sem.run_pure, Result.andThen_ok]
    simp only [invoke, builtin, List.map_toArray, List.map_cons, List.map_nil, (fr.ev hx).1, (fr.ev hy).1]
    rw [Sem.run_bind, hr]; rfl
  · refine hk (A' := rwsA e A' c' (rs ++ [r])) (F' := fun g => (Value.slice A' (rs ++ [r]).length c').ownBlock = some g) ⟨by rw [hl, List.map_append]; exact g2', fun q hq => ?_, fun g => Iff.rfl⟩ (Chg.of_grown g3) (fun g _ hg => (h3 g).2 hg.symm) fun g hg => ?_
    · rcases List.mem_append.1 hq with hq | hq
      · exact h2 q hq
      · rw [List.mem_singleton] at hq; subst hq; exact hv
    · rw [hl] at hg
      rcases g5 with h | h
      · rw [h] at hg; exact .inl ((h3 g).2 hg)
      · rw [h] at hg; injection hg with hg; subst hg; exact .inr (Nat.le_refl _)
end
end Go.Proofs.YticnjkdaccacaaaGreatDoor.Sx
end
section
namespace Go.Proofs.YticnjkdaccacaaaGreatDoor.Sx
open Go Go.RowKit Base _root_.Go.Proofs.YticnjkdaccacaaaGreatDoor.Own OwnV
theorem append_two {P : Program} (w : World) (base : Nat) (t ty e : TypeId) (i : TypeInfo) (z : Value) (size bytes : Nat) (ht : P.underlying t = some (.slice e)) (hi : P.info? e = some i) (hz : i.zero = some z)
    (hsize : i.size = size) (hby : i.bytes = bytes) (hzs : z.cells.size = size) (hsz : 0 < size) (v : Value) (n : Nat) (xs : List Value) (hown : w.ownsRow base e size v n xs)
    (a : Addr) (m c : Nat) (news : List Value) (hl : news.length = m * size) (hnews : ∀ j u, news[j]? = some u → w.cell? (a.add j) = some u) (h1 : ∀ u ∈ news, u.oneCell' = true)
    (h63 : n + m ≤ maxLen) (hbytes : (n + m) * bytes ≤ 140737488355328) (hbase : base ≤ w.heap.size) :
    ∃ v' w', (Builtin.append_ #[t, t] ty #[v, .slice (some a) m c]).run P w = .ok v' w' ∧ w'.ownsRow base e size v' (n + m) (xs ++ news) ∧
      ((w.grownBy w' v.ownBlock ∧ v'.ownBlock = v.ownBlock) ∨ (w.grownBy w' none ∧ v'.ownBlock = some w.heap.size)) := by
  obtain ⟨v', w', hr, h2, h3, _, h5⟩ := run_append_own_at (P := P) w base t ty e i z size bytes ht hi hz hsize hby hzs hsz v n xs hown a m c news hl hnews h1 h63 hbytes hbase
  refine ⟨v', w', hr, h2, ?_⟩
  have hsmall : n + m ≤ 9223372036854775807 := by simp only [maxLen] at h63; omega
  rcases hown.2 with ⟨rfl, rfl⟩ | ⟨g, cap, cur, rfl, hbg, hg, hnc, hcm, hcs, htake⟩
  · rcases h5 with h5 | h5
    · exact .inl ⟨h3, h5⟩
    · exact .inr ⟨h3, h5⟩
  · by_cases hroom : n + m ≤ cap
    · subst hsize
      have hfit : n * i.size + news.length ≤ cur.size := by rw [hl, hcs, ← Nat.add_mul]; exact Nat.mul_le_mul_right _ hroom
      have hr2 := run_append_room (P := P) w t ty e i ht hi g n cap cur hg a m c news hl hnews h1 hroom hfit
      rw [hr] at hr2
      injection hr2 with q1 q2
      exact .inl ⟨h3, by rw [q1]; rfl⟩
    · subst hsize
      have holds : ∀ j u, xs[j]? = some u → w.cell? ((⟨g, 0, none⟩ : Addr).add j) = some u := hown.cells (g := g) rfl
      have hr2 := run_append_grow (P := P) w t ty e i z ht hi hz ⟨g, 0, none⟩ n cap xs hown.1 holds a m c news hl hnews (by omega) (by omega) (growslice_fits (by omega) (by rw [hby]; exact hbytes))
      rw [hr] at hr2
      injection hr2 with q1 q2
      refine .inr ⟨?_, by rw [q1]; rfl⟩
      rw [q2]
      exact ⟨rfl, rfl, rfl, by simp, fun k hk _ => Below.heap_alloc w.drew _ k hk⟩
def rvA (e z : Nat) (A : Option Addr) (c n : Nat) (xs : List Value) : Asn where
  holds := fun w B F => RowV w B e z (.slice A n c) n xs ∧ (∀ v ∈ xs, vok1 v = true) ∧ ∀ g, F g ↔ (Value.slice A n c).ownBlock = some g
  keep := fun ⟨h1, h2, h3⟩ hc hF _ => ⟨h1.kept hc fun g hg => hF g ((h3 g).2 hg), h2, h3⟩
  dom := fun ⟨h1, h2, h3⟩ g hg => h1.lt g ((h3 g).1 hg)
def gwA (e z : Nat) (A : Option Addr) (xs : List Value) (A' : Option Addr) (c' n' : Nat) (ys : List Value) : Asn where
  holds := fun w B F => (A = none → xs = []) ∧ (∀ ad, A = some ad → ad = ⟨ad.block, 0, none⟩ ∧ B ≤ ad.block ∧ ad.block < w.heap.size ∧ w.rangeAt ad.block 0 xs) ∧ RowV w B e z (.slice A' n' c') n' ys ∧ (∀ v ∈ ys, vok1 v = true) ∧ (∃ t, ys = xs ++ t) ∧
    ∀ g, F g ↔ (∃ ad, A = some ad ∧ ad.block = g) ∨ (Value.slice A' n' c').ownBlock = some g
  keep := fun ⟨h0, h1, h2, h3, h4, h5⟩ hc hF _ => ⟨h0, fun ad he => by
    obtain ⟨q1, q2, q3, q4⟩ := h1 ad he
    refine ⟨q1, q2, Nat.lt_of_lt_of_le q3 hc.size, fun j u hu => ?_⟩
    rw [World.cell?_of_block (a := ⟨ad.block, 0 + j, none⟩) (hc.block ad.block q3 (hF _ ((h5 _).2 (.inl ⟨ad, he, rfl⟩))))]
    exact q4 j u hu, h2.kept hc fun g hg => hF g ((h5 g).2 (.inr hg)), h3, h4, h5⟩
  dom := fun ⟨h0, h1, h2, h3, h4, h5⟩ g hg => by
    rcases (h5 g).1 hg with ⟨ad, he, rfl⟩ | hg
    · exact ⟨(h1 ad he).2.1, (h1 ad he).2.2.1⟩
    · exact h2.lt g hg
section
variable {P : Program} {T : Orc} {ops : Array Oper} {Q : Exit → Act → World → Prop} {S' : World → Prop} {Df : List Deferred} {N : Nat} {a : Act} {w w0 : World} {L : Env} {R : List Asn} {e z : Nat} {A A' : Option Addr} {c c' n n' : Nat} {xs ys : List Value}
theorem Sat.imp {X Y : Asn} (S : Sat w0 w (X :: R)) (h : ∀ F, X.holds w w0.heap.size F → Y.holds w w0.heap.size F) : Sat w0 w (Y :: R) := by
  obtain ⟨F, h1, h2, h3⟩ := S.parts
  exact ⟨S.below, F, h F h1, h2, h3⟩
theorem rv_of_own {k : IntKind} {l : List Int} (S : Sat w0 w (ownA k e A c l :: R)) : Sat w0 w (rvA e 1 A c l.length (l.map (Value.int k)) :: R) :=
  S.imp fun F ⟨h1, h2, h3⟩ => ⟨h1, fun v hv => by obtain ⟨x, hx, rfl⟩ := List.mem_map.1 hv; exact h2 x hx, h3⟩
theorem own_of_rv {k : IntKind} {l : List Int} (S : Sat w0 w (rvA e 1 A c l.length (l.map (Value.int k)) :: R)) : Sat w0 w (ownA k e A c l :: R) :=
  S.imp fun F ⟨h1, h2, h3⟩ => ⟨h1, fun x hx => h2 _ (List.mem_map.2 ⟨x, hx, rfl⟩), h3⟩
theorem rv_nil (e z : Nat) (S : Sat w0 w R) : Sat w0 w (rvA e z none 0 0 [] :: R) :=
  S.add (F := fun _ => False) (Below.refl _ _) ⟨RowV.nil w _ e z, fun v hv => (by cases hv), fun g => by simp [Value.ownBlock]⟩ fun _ h => h.elim
theorem rv_facts (S : Sat w0 w (rvA e z A c n xs :: R)) : xs.length = n * z ∧ (n ≤ c ∧ c ≤ maxLen) ∧ (A = none → n = 0) ∧ (∀ v ∈ xs, vok1 v = true) ∧ ∀ ad, A = some ad → ∃ g, ad = ⟨g, 0, none⟩ ∧ w.rangeAt g 0 xs := by
  obtain ⟨F, ⟨h1, h2, h3⟩, _⟩ := S.hd.imp fun _ h => And.intro h trivial
  obtain ⟨A2, c2, he, q1, q2, q3, q4⟩ := h1.slice
  injection he with e1 e2 e3
  subst e1 e3
  exact ⟨h1.len, ⟨q1, q2⟩, q3, h2, fun ad he => by
    obtain ⟨g, r1, r2, r3, r4, r5⟩ := q4 ad he
    exact ⟨g, r1, r4⟩⟩
theorem Sat.rvAt {M : List Asn} (S : Sat w0 w M) (i : Nat) (hi : M[i]? = some (rvA e z A c n xs)) : xs.length = n * z ∧ (n ≤ c ∧ c ≤ maxLen) ∧ (A = none → n = 0) ∧ (∀ v ∈ xs, vok1 v = true) ∧ ∀ ad, A = some ad → ∃ g, ad = ⟨g, 0, none⟩ ∧ w.rangeAt g 0 xs := rv_facts (S.frontAt i hi)
theorem gw_start (S : Sat w0 w (rvA e z A c n xs :: R)) : Sat w0 w (gwA e z A xs A c n xs :: R) := by
  refine S.imp fun F ⟨h1, h2, h3⟩ => ?_
  obtain ⟨A2, c2, he, q1, q2, q3, q4⟩ := h1.slice
  injection he with e1 e2 e3
  subst e1 e3
  refine ⟨fun h => ?_, fun ad he => ?_, h1, h2, ⟨[], (List.append_nil _).symm⟩, fun g => ?_⟩
  · have := h1.len
    rw [q3 h] at this
    exact List.eq_nil_of_length_eq_zero (by omega)
  · obtain ⟨g, r1, r2, r3, r4, r5⟩ := q4 ad he
    subst r1
    exact ⟨rfl, r2, r3, r4⟩
  · rw [h3 g]
    constructor
    · exact .inr
    · rintro (⟨ad, he, rfl⟩ | h)
      · obtain ⟨g, r1, _⟩ := q4 ad he
        subst r1
        rw [he]; rfl
      · exact h
theorem rv_set (S : Sat w0 w (rvA e z A c n xs :: R)) {g : Nat} (hA : A = some ⟨g, 0, none⟩) (o : Nat) (vs : List Value) (ho : o + vs.length ≤ n * z) (hv : ∀ v ∈ vs, vok1 v = true) : Sat w0 (w.setCells g o vs) (rvA e z A c n (splice xs o vs) :: R) := by
  subst hA
  obtain ⟨F, ⟨h1, h2, h3⟩, hF, hk⟩ := S.opened
  refine hk (A' := rvA e z _ c n (splice xs o vs)) (F' := F) (G := fun k => k = g) ⟨h1.set o vs ho, fun v hm => ?_, h3⟩ (chg_setCells g vs o w) (fun k _ hk => (h3 k).2 (by subst hk; rfl)) fun k hk => .inl hk
  unfold splice at hm
  rw [List.mem_append, List.mem_append] at hm
  rcases hm with hm | hm | hm
  · exact h2 v (List.mem_of_mem_take hm)
  · exact hv v hm
  · exact h2 v (List.mem_of_mem_drop hm)
theorem gw_app {t ty bytes : Nat} (ht : P.underlying t = some (.slice e)) (hinfo : (P.info? e).map (fun i => (i.zero.map (·.cells.size), i.size, i.bytes)) = some (some z, z, bytes)) (hz0 : 0 < z) (hby : bytes ≤ 128) (S : Sat w0 w (gwA e z A xs A' c' n' ys :: R))
    {ad : Addr} {cy : Nat} {news : List Value} (hl : news.length = z) (hc : ∀ j u, news[j]? = some u → w.cell? (ad.add j) = some u) (h1 : ∀ u ∈ news, u.oneCell' = true ∧ vok1 u = true) (hb : n' ≤ 1000000000000) :
    ∃ A2 c2 w', (Builtin.append_ #[t, t] ty #[.slice A' n' c', .slice (some ad) 1 cy]).run P w = .ok (.slice A2 (n' + 1) c2) w' ∧ (n' + 1 ≤ c2 ∧ c2 ≤ maxLen) ∧ Sat w0 w' (gwA e z A xs A2 c2 (n' + 1) (ys ++ news) :: R) := by
  obtain ⟨F, ⟨g0, g1, g2, g3, ⟨tt, g4⟩, g5⟩, hF, hk⟩ := S.opened
  obtain ⟨i, hi, hzz⟩ := Option.map_eq_some_iff.1 hinfo
  simp only [Prod.mk.injEq] at hzz
  obtain ⟨hz1, hsz, hbi⟩ := hzz
  obtain ⟨z0, hz, hzc⟩ := Option.map_eq_some_iff.1 hz1
  have hmul : (n' + 1) * bytes ≤ (n' + 1) * 128 := Nat.mul_le_mul_left _ hby
  obtain ⟨v', w', hr, k1, k2⟩ := append_two (P := P) w w0.heap.size t ty e i z0 z bytes ht hi hz hsz hbi hzc hz0 (.slice A' n' c') n' ys g2 ad 1 cy news (by omega) hc (fun u hu => (h1 u hu).1) (by unfold maxLen; omega) (by omega) S.below.size
  have k1' : RowV w' w0.heap.size e z v' (n' + 1) (ys ++ news) := k1
  obtain ⟨A2, c2, rfl, q1, q2, q3, q4⟩ := k1'.slice
  refine ⟨A2, c2, w', hr, ⟨q1, q2⟩, ?_⟩
  have hv : ∀ v ∈ ys ++ news, vok1 v = true := fun v hv => by
    rcases List.mem_append.1 hv with hv | hv
    · exact g3 v hv
    · exact (h1 v hv).2
  have hpre : ∃ t, ys ++ news = xs ++ t := ⟨tt ++ news, by rw [g4, List.append_assoc]⟩
  rcases k2 with ⟨k2, k3⟩ | ⟨k2, k3⟩
  · have hc2 := Chg.of_grown k2
    refine hk (A' := gwA e z A xs A2 c2 (n' + 1) (ys ++ news)) (F' := F) ⟨g0, fun ad' he => ?_, k1', hv, hpre, fun g => ?_⟩ hc2 (fun g _ hg => (g5 g).2 (.inr hg.symm)) fun g hg => .inl hg
    · obtain ⟨r1, r2, r3, r4⟩ := g1 ad' he
      refine ⟨r1, r2, Nat.lt_of_lt_of_le r3 hc2.size, fun j u hu => ?_⟩
      by_cases hs : (Value.slice A' n' c').ownBlock = some ad'.block
      · rw [← k3] at hs
        cases A2 with
        | none => simp [Value.ownBlock] at hs
        | some a2 =>
          obtain ⟨g, s1, s2, s3, s4, s5⟩ := q4 a2 rfl
          have : g = ad'.block := by subst s1; simpa [Value.ownBlock] using hs
          subst this
          refine s4 j u ?_
          rw [g4, List.append_assoc, List.getElem?_append_left (List.getElem?_eq_some_iff.1 hu).1]
          exact hu
      · rw [World.cell?_of_block (a := ⟨ad'.block, 0 + j, none⟩) (hc2.block ad'.block r3 fun h => hs h.symm)]
        exact r4 j u hu
    · rw [g5 g, k3]
  · have hc2 : Chg (fun _ => False) w w' := (Chg.of_grown k2).mono fun g _ h => by cases h
    refine hk (A' := gwA e z A xs A2 c2 (n' + 1) (ys ++ news)) (F' := fun g => (∃ ad, A = some ad ∧ ad.block = g) ∨ (Value.slice A2 (n' + 1) c2).ownBlock = some g) ⟨g0, fun ad' he => ?_, k1', hv, hpre, fun g => Iff.rfl⟩ hc2 (fun g _ hg => hg.elim) fun g hg => ?_
    · obtain ⟨r1, r2, r3, r4⟩ := g1 ad' he
      refine ⟨r1, r2, Nat.lt_of_lt_of_le r3 hc2.size, fun j u hu => ?_⟩
      rw [World.cell?_of_block (a := ⟨ad'.block, 0 + j, none⟩) (hc2.block ad'.block r3 fun h => h)]
      exact r4 j u hu
    · rcases hg with hg | hg
      · exact .inl ((g5 g).2 (.inl hg))
      · rw [k3] at hg
        injection hg with hg
        exact .inr (Nat.le_of_eq hg)
theorem rv_app {t ty bytes : Nat} (ht : P.underlying t = some (.slice e)) (hinfo : (P.info? e).map (fun i => (i.zero.map (·.cells.size), i.size, i.bytes)) = some (some z, z, bytes)) (hz0 : 0 < z) (hby : bytes ≤ 128) (S : Sat w0 w (rvA e z A c n xs :: R))
    {ad : Addr} {cy : Nat} {news : List Value} (hl : news.length = z) (hc : ∀ j u, news[j]? = some u → w.cell? (ad.add j) = some u) (h1 : ∀ u ∈ news, u.oneCell' = true ∧ vok1 u = true) (hb : n ≤ 1000000000000) :
    ∃ A2 c2 w', (Builtin.append_ #[t, t] ty #[.slice A n c, .slice (some ad) 1 cy]).run P w = .ok (.slice A2 (n + 1) c2) w' ∧ (n + 1 ≤ c2 ∧ c2 ≤ maxLen) ∧ Sat w0 w' (rvA e z A2 c2 (n + 1) (xs ++ news) :: R) := by
  obtain ⟨F, ⟨g2, g3, g5⟩, hF, hk⟩ := S.opened
  obtain ⟨i, hi, hzz⟩ := Option.map_eq_some_iff.1 hinfo
  simp only [Prod.mk.injEq] at hzz
  obtain ⟨hz1, hsz, hbi⟩ := hzz
  obtain ⟨z0, hz, hzc⟩ := Option.map_eq_some_iff.1 hz1
  have hmul : (n + 1) * bytes ≤ (n + 1) * 128 := Nat.mul_le_mul_left _ hby
  obtain ⟨v', w', hr, k1, k2⟩ := append_two (P := P) w w0.heap.size t ty e i z0 z bytes ht hi hz hsz hbi hzc hz0 (.slice A n c) n xs g2 ad 1 cy news (by omega) hc (fun u hu => (h1 u hu).1) (by unfold maxLen; omega) (by omega) S.below.size
  have k1' : RowV w' w0.heap.size e z v' (n + 1) (xs ++ news) := k1
  obtain ⟨A2, c2, rfl, q1, q2, q3, q4⟩ := k1'.slice
  refine ⟨A2, c2, w', hr, ⟨q1, q2⟩, ?_⟩
  have hv : ∀ v ∈ xs ++ news, vok1 v = true := fun v hv => by
    rcases List.mem_append.1 hv with hv | hv
    · exact g3 v hv
    · exact (h1 v hv).2
  rcases k2 with ⟨k2, k3⟩ | ⟨k2, k3⟩
  · exact hk (A' := rvA e z A2 c2 (n + 1) (xs ++ news)) (F' := F) ⟨k1', hv, fun g => by rw [g5 g, k3]⟩ (Chg.of_grown k2) (fun g _ hg => (g5 g).2 hg.symm) fun g hg => .inl hg
  · refine hk (A' := rvA e z A2 c2 (n + 1) (xs ++ news)) (F' := fun g => (Value.slice A2 (n + 1) c2).ownBlock = some g) ⟨k1', hv, fun g => Iff.rfl⟩ (G := fun _ => False) ((Chg.of_grown k2).mono fun g _ h => by cases h) (fun g _ hg => hg.elim) fun g hg => ?_
    rw [k3] at hg
    injection hg with hg
    exact .inr (Nat.le_of_eq hg)
theorem app_op {t : TypeId} (fr : FrD Df N a L) {o : Oper} {x y : Operand} {v u v' : Value} {w' : World} (ho : o.op = .call { callee := .builtin .append, args := #[x, y], argTypes := #[t, t] }) (hx : ev L x = some v) (hy : ev L y = some u)
    (hr : (Builtin.append_ #[t, t] o.type #[v, u]).run P w = .ok v' w') : (execOp a.eval o).run P w = .ok (.value v') w' := by
  unfold execOp
  simp only [ho, resolve]
  rw [Sem.run_bind, Sem.run_pure, Result.andThen_ok]
  simp only [invoke, builtin, List.map_toArray, List.map_cons, List.map_nil, (fr.ev hx).1, (fr.ev hy).1]
  rw [Sem.run_bind, hr]; rfl
theorem ldagg_run (hT : T.Ok P) (fr : FrD Df N a L) {o : Oper} {t : TypeId} {x : Operand} (ho : o.op = .load t x) {g j : Nat} {cs : List Value} {d : TypeDesc} (hx : ev L x = some (.pointer (some ⟨g, j, none⟩))) (ht : T.ty.lookup t = some d) (hd : d.isRow = true) (hs : T.sz.lookup t = some cs.length)
    (hc : w.rangeAt g j cs) : (execOp a.eval o).run P w = .ok (.value (.agg cs.toArray)) w := by
  have h := exec_load_mid (P := P) (a := a) (w := w) (N := o.dst) (tt := o.type) t x g j (fr.ev hx).1 cs d hc (hT.und ht) hd (hT.size hs)
  unfold execOp at h ⊢
  simp only [ho] at h ⊢
  exact h
theorem vok_agg {cs : List Value} (h : ∀ v ∈ cs, vok1 v = true) : vok (.agg cs.toArray) = true := by
  simp only [vok, vokC, List.all_eq_true]
  exact h
theorem wl_ldv (hT : T.Ok P) {o1 o2 : Oper} {rest : List Oper} {t te : TypeId} {x ix : Operand} {d1 d2 : Nat} {n c : Nat} {ki : IntKind} {i : Int} {de : TypeDesc} {cs : List Value}
    (hr : ∀ ad, A = some ad → ∃ g, ad = ⟨g, 0, none⟩ ∧ w.rangeAt g (i.toNat * z) cs) (hA : A ≠ none) (hv : ∀ v ∈ cs, vok1 v = true) (fr : FrD Df N a L) (hw : wantL ops L o1 = some true) (ho1 : o1.op = .indexAddr t x ix) (hd1 : o1.dst = some d1) (hw2 : wantL ops L o2 = some true) (ho2 : o2.op = .load te (.tmp d1)) (hd2 : o2.dst = some d2) (hl1 : Nat.blt d1 N = true) (hl2 : Nat.blt d2 N = true)
    (hx : ev L x = some (.slice A n c)) (hi : ev L ix = some (.int ki i)) (ht : T.ty.lookup t = some (.slice e)) (hs : T.sz.lookup e = some z) (hte : T.ty.lookup te = some de) (hde : de.isRow = true) (hse : T.sz.lookup te = some cs.length) (hf : L.lookup d1 = none) (hb : 0 ≤ i ∧ i < (n : Int))
    (h : ∀ a', FrD Df N a' ((d2, .agg cs.toArray) :: L) → wpList P ops Q rest a' w) : wpList P ops Q (o1 :: o2 :: rest) a w := by
  cases A with
  | none => exact absurd rfl hA
  | some ad =>
    obtain ⟨g, rfl, hc⟩ := hr ad rfl
    refine wl_val fr hw hd1 hl1 (indexAddr_run hT fr ho1 hx hi ht hs hb.1 hb.2 w) rfl fun a1 fr1 => ?_
    have e1 : (⟨g, 0, none⟩ : Addr).add (i.toNat * z) = ⟨g, i.toNat * z, none⟩ := addr0 g _
    rw [e1] at fr1
    exact wl_val fr1 (want_skip hw2 hf) hd2 hl2 (ldagg_run hT fr1 ho2 (by show ((d1, _) :: L).lookup d1 = _; rw [lookup_cons, if_pos rfl]) hte hde hse hc) (vok_agg hv) fun a2 fr2 => h a2 (fr2.skip2 hf)
end
end Go.Proofs.YticnjkdaccacaaaGreatDoor.Sx
end
section
namespace Go.Proofs.YticnjkdaccacaaaGreatDoor.Sx
open Go Go.RowKit Base _root_.Go.Proofs.YticnjkdaccacaaaGreatDoor.Own OwnV
section
variable {P : Program} {T : Orc} {ops : Array Oper} {Q : Exit → Act → World → Prop} {S' : World → Prop} {Df : List Deferred} {N : Nat} {a : Act} {w w0 : World} {L : Env} {R M : List Asn} {k : IntKind} {e : Nat}
theorem gw_reads {A A' : Option Addr} {c' : Nat} {l ys : List Int} (S : Sat w0 w M) (i : Nat) (hi : M[i]? = some (gwA e 1 A (l.map (Value.int k)) A' c' ys.length (ys.map (Value.int k)))) : Rk k w A l ∧ Rk k w A' ys ∧ (ys.length ≤ c' ∧ c' ≤ maxLen) := by
  obtain ⟨F, h0, h1, h2, h3, ⟨t, h4⟩, h5⟩ := (S.frontAt i hi).hd
  have hw : ∀ z ∈ ys, (Lit.int k z).wf = true := fun z hz => h3 (.int k z) (List.mem_map.2 ⟨z, hz, rfl⟩)
  have hwl : ∀ z ∈ l, (Lit.int k z).wf = true := fun z hz => h3 (.int k z) (by rw [h4]; exact List.mem_append_left _ (List.mem_map.2 ⟨z, hz, rfl⟩))
  have hown : OwnI k w w0.heap.size e (.slice A' ys.length c') ys := h2
  obtain ⟨A2, c2, he, q1, q2, q3, q4⟩ := hown.slice
  injection he with e1 e2 e3
  subst e1 e3
  refine ⟨⟨fun hne => ?_, hwl⟩, ⟨q3, hw⟩, q1, q2⟩
  cases A with
  | none => exact absurd (List.map_eq_nil_iff.1 (h0 rfl)) hne
  | some ad =>
    obtain ⟨r1, r2, r3, r4⟩ := h1 ad rfl
    refine ⟨ad, rfl, r3, fun j hj => ?_⟩
    have := r4 j (.int k (l.getD j 0)) (by simp [List.getElem?_eq_getElem hj, List.getD_eq_getElem?_getD])
    rw [r1, addr0]
    rwa [Nat.zero_add] at this
theorem wl_gwnum {t : TypeId} (RT : RowTy P t e k) {o : Oper} {rest : List Oper} {d : Nat} {x y : Operand} {A A' Y : Option Addr} {n' c' cy : Nat} {ys : List Int} {xs : List Value} {q : Int} (fr : FrD Df N a L) (hw : wantL ops L o = some true) (hd : o.dst = some d) (hlt : Nat.blt d N = true) (ho : o.op = .call { callee := .builtin .append, args := #[x, y], argTypes := #[t, t] })
    (hx : ev L x = some (.slice A' n' c')) (hy : ev L y = some (.slice Y 1 cy)) (hn : n' = ys.length) (hb : n' ≤ 1000000000000) (S : Sat w0 w (ownA k e Y cy [q] :: gwA e 1 A xs A' c' n' (ys.map (Value.int k)) :: R))
    (h : ∀ w' A2 c2, Sat w0 w' (gwA e 1 A xs A2 c2 (n' + 1) ((ys ++ [q]).map (Value.int k)) :: R) → ∀ a', FrD Df N a' ((d, .slice A2 (n' + 1) c2) :: L) → wpList P ops Q rest a' w') : wpList P ops Q (o :: rest) a w := by
  obtain ⟨⟨hr, hwf⟩, -, -⟩ := S.own
  obtain ⟨ad, rfl, hc⟩ := hr.cell (j := 0) (by simp)
  obtain ⟨bytes, hle, hinfo⟩ := RT.hi
  obtain ⟨A2, c2, w', h1, h2, h3⟩ := gw_app (P := P) (ty := o.type) (bytes := bytes) (cy := cy) RT.ht (by
    obtain ⟨i, hi, hzz⟩ := Option.map_eq_some_iff.1 hinfo
    simp only [Prod.mk.injEq] at hzz
    obtain ⟨q1, q2, q3⟩ := hzz
    rw [hi]
    simp [q1, q2, q3, Value.cells]) Nat.one_pos (by omega) S.tl (news := [.int k q]) rfl (fun j u hu => by
      cases j with
      | zero => injection hu with hu; subst hu; exact hc.2
      | succ j => cases hu) (fun u hu => by rw [List.mem_singleton] at hu; subst hu; exact ⟨rfl, hwf q (by simp)⟩) hb
  refine wl_val fr hw hd hlt (app_op fr ho hx hy h1) (vok_sl h2) (h w' A2 c2 ?_)
  rw [List.map_append]
  exact h3
theorem wl_allocg {o : Oper} {rest : List Oper} {t : TypeId} {d : Nat} {zs : List Value} (fr : FrD Df N a L) (hw : wantL ops L o = some true) (hd : o.dst = some d) (hlt : Nat.blt d N = true) (ho : o.op = .alloc t) (hz : ∀ W, (zeroValue t).run P W = .ok (.agg zs.toArray) W) (hok : zs.all vok = true) (S : Sat w0 w R)
    (h : ∀ w' b, Sat w0 w' (stA t b zs :: R) → ∀ a', FrD Df N a' ((d, .pointer (some ⟨b, 0, none⟩)) :: L) → wpList P ops Q rest a' w') : wpList P ops Q (o :: rest) a w := by
  refine wl_val (v := .pointer (some ⟨w.heap.size, 0, none⟩)) (w' := w.alloc (.cells zs.toArray t)) fr hw hd hlt ?_ rfl (h _ _ ?_)
  · unfold execOp
    simp only [ho, Instr.alloc]
    rw [Sem.run_bind, Sem.run_bind, hz, Result.andThen_ok]
    rfl
  · exact S.add (F := fun g => g = w.heap.size) ((Below.refl _ _).alloc (Nat.le_refl _) _) ⟨heap_alloc_new _ _, hok, S.below.size, fun g => Iff.rfl⟩ fun g hg => Nat.le_of_eq hg.symm
theorem wl_stg (hT : T.Ok P) {o : Oper} {rest : List Oper} {te : TypeId} {p v : Operand} {b e' : Nat} {cs vs : List Value} (fr : FrD Df N a L) (hw : wantL ops L o = some true) (hd : o.dst = none) (ho : o.op = .store te p v) (hp : ev L p = some (.pointer (some ⟨b, 0, none⟩))) (hv : ev L v = some (.agg vs.toArray)) (hs : T.sz.lookup te = some vs.length)
    (hl : cs.length = vs.length) (h1 : vs.all (fun v => v.oneCell' && vok v) = true) (S : Sat w0 w (stA e' b cs :: R)) (h : ∀ w', Sat w0 w' (stA e' b vs :: R) → wpList P ops Q rest a w') : wpList P ops Q (o :: rest) a w := by
  obtain ⟨F, ⟨g1, g2, g4, g5⟩, hF, hk⟩ := S.opened
  rw [List.all_eq_true] at h1
  have hst := run_storeCells_cells (P := P) b 0 vs 0 w (fun j hj => by
    rw [cell_of_row _ _ _ _ _ _ g1]
    simp
    omega) (fun j hj => frozen_of_row w b _ _ _ g1) (fun u hu => by have := h1 u hu; simp at this; exact this.1)
  have hheap := heap_setCells b vs 0 w cs.toArray e' g1 (by simp; omega)
  refine wl_skip (w' := w.setCells b 0 vs) fr hw hd ?_ (h _ ?_)
  · unfold execOp
    simp only [ho, (fr.ev hp).1, (fr.ev hv).1, Instr.storeAt, Instr.sureAddr, storeVar, Value.cells]
    simp [size_run hT hs]
    have hst' : (storeCells (⟨b, 0, none⟩ : Addr) vs).run P w = .ok () (w.setCells b 0 vs) := by simpa using hst
    rw [hst']
    rfl
  · refine hk (A' := stA e' b vs) (F' := F) (G := fun g => g = b) ⟨?_, ?_, g4, g5⟩ (chg_setCells b vs 0 w) (fun g _ hg => (g5 g).2 hg) fun g hg => .inl hg
    · rw [hheap]
      congr 2
      apply Array.toList_inj.1
      simp [splice, hl]
    · rw [List.all_eq_true]
      intro u hu
      have := h1 u hu
      simp at this
      exact this.2
theorem wl_strv (hT : T.Ok P) {o : Oper} {rest : List Oper} {te : TypeId} {p v : Operand} {g j c n e' z : Nat} {xs : List Value} {u : Value} (fr : FrD Df N a L) (hw : wantL ops L o = some true) (hd : o.dst = none) (ho : o.op = .store te p v) (hp : ev L p = some (.pointer (some ⟨g, j, none⟩))) (hv : ev L v = some u) (hs : T.sz.lookup te = some 1)
    (hc : u.cells = #[u]) (h1 : u.oneCell' = true) (h2 : vok1 u = true) (S : Sat w0 w (rvA e' z (some ⟨g, 0, none⟩) c n xs :: R)) (hj : j < n * z) (h : ∀ w', Sat w0 w' (rvA e' z (some ⟨g, 0, none⟩) c n (splice xs j [u]) :: R) → wpList P ops Q rest a w') : wpList P ops Q (o :: rest) a w := by
  have hset := rv_set S rfl j [u] (by simp; omega) (fun v hv => by rw [List.mem_singleton] at hv; subst hv; exact h2)
  refine wl_skip (w' := w.setCells g j [u]) fr hw hd ?_ (h _ hset)
  obtain ⟨F, q1, q2, q3⟩ := S.hd
  obtain ⟨A2, c2, he, r1, r2, r3, r4⟩ := q1.slice
  injection he with e1 e2 e3
  subst e1
  obtain ⟨g', s1, s2, s3, s4, s5⟩ := r4 _ rfl
  injection s1 with s1
  subst s1
  have hst := run_storeCells_cells (P := P) g j [u] 0 w (fun i hi => by
    have hi : i = 0 := by simpa using hi
    subst hi
    have := (s5 j hj).1
    simpa using this) (fun i hi => by
    have hi : i = 0 := by simpa using hi
    subst hi
    have := (s5 j hj).2
    simpa using this) (fun v hv => by rw [List.mem_singleton] at hv; subst hv; exact h1)
  have hst' : (storeCells (⟨g, j, none⟩ : Addr) [u]).run P w = .ok () (w.setCells g j [u]) := by simpa using hst
  unfold execOp
  simp only [ho, (fr.ev hp).1, (fr.ev hv).1, Instr.storeAt, Instr.sureAddr, storeVar, hc]
  simp [size_run hT hs, hst']
theorem sl_build {s : SOp} {rest : List Itm} {t : TypeId} {ps : Array (Nat × Operand)} {d : Nat} {L2 : List (Nat × Value)} {cs : List Value} (fr : FrD Df N a L) (hw : wantS L s = some true) (hq : s.q = true) (hd : s.dst = some d) (hlt : Nat.blt d N = true) (ho : s.op = .build t ps) (hp : (ps.map fun (i, x) => (i, a.eval x)).toList = L2) (hb : P.built t L2 = some cs.toArray) (hv : vok (.agg cs.toArray) = true)
    (h : ∀ a', FrD Df N a' ((d, .agg cs.toArray) :: L) → SL P Q S' rest a' w) : SL P Q S' (.one s :: rest) a w := by
  refine sl_q (v := .agg cs.toArray) fr hw hq hd hlt (fun w' _ => ?_) hv h
  unfold execOp
  simp only [SOp.oper, ho]
  rw [Sem.run_bind, run_build w' t _ cs.toArray (by rw [hp]; exact hb)]; rfl
theorem lit1_exec {t z : Nat} (hu : P.underlying t = some (.slice e)) (hi : (P.info? e).map (fun i => (i.zero.isSome, i.size)) = some (true, z)) (h0 : (Nat.blt 0 z && Nat.ble z 1000) = true) (fr : FrD Df N a L) {o : Oper} {x : Operand} {cs : List Value} (ho : o.op = .buildSlice t 1 #[(0, x)]) (hx : ev L x = some (.agg cs.toArray)) (hl : cs.length = z) (hv : cs.all vok1 = true) (S : Sat w0 w R) :
    ∃ A c w', (execOp a.eval o).run P w = .ok (.value (.slice A 1 c)) w' ∧ vok (.slice A 1 c) = true ∧ Sat w0 w' (rvA e z A c 1 cs :: R) := by
  simp only [Bool.and_eq_true, Nat.ble_eq] at h0
  have h0' := blt_lt h0.1
  refine ⟨some ⟨w.heap.size, 0, none⟩, 1, w.alloc (.cells cs.toArray e), ?_, vok_sl ⟨Nat.le_refl _, by unfold maxLen; omega⟩, ?_⟩
  · have h := exec_one_slice (P := P) (a := a) (w := w) (N := o.dst) (tt := o.type) t e x cs.toArray z (fr.ev hx).1 (by simpa using hl) hu hi h0' (by omega)
    unfold execOp at h ⊢
    simp only [ho] at h ⊢
    exact h
  · have hm := RowV.made w e z 1 cs.toArray S.below.size (by simp [hl]) (by unfold maxLen; omega)
    rw [List.all_eq_true] at hv
    exact S.add (F := fun g => (Value.slice (some ⟨w.heap.size, 0, none⟩) 1 1).ownBlock = some g) ((Below.refl _ _).alloc (Nat.le_refl _) _) ⟨hm, hv, fun g => Iff.rfl⟩ fun g hg => by
      have : w.heap.size = g := by simpa [Value.ownBlock] using hg
      omega
theorem sl_lit1 {t z : Nat} (hu : P.underlying t = some (.slice e)) (hi : (P.info? e).map (fun i => (i.zero.isSome, i.size)) = some (true, z)) (h0 : (Nat.blt 0 z && Nat.ble z 1000) = true) {s : SOp} {rest : List Itm} {d : Nat} {x : Operand} {cs : List Value} (fr : FrD Df N a L) (hw : wantS L s = some true) (hq : s.q = false) (hd : s.dst = some d) (hlt : Nat.blt d N = true)
    (ho : s.op = .buildSlice t 1 #[(0, x)]) (hx : ev L x = some (.agg cs.toArray)) (hl : cs.length = z) (hv : cs.all vok1 = true) (S : Sat w0 w R) (h : ∀ w' A c, Sat w0 w' (rvA e z A c 1 cs :: R) → S' w' ∧ ∀ a', FrD Df N a' ((d, .slice A 1 c) :: L) → SL P Q S' rest a' w') : SL P Q S' (.one s :: rest) a w := by
  obtain ⟨A, c, w', h1, h2, h3⟩ := lit1_exec (P := P) hu hi h0 fr (o := s.oper) ho hx hl hv S
  exact sl_val fr hw hq hd hlt h1 (h w' A c h3).1 h2 (h w' A c h3).2
theorem wl_lit1 {t z : Nat} (hu : P.underlying t = some (.slice e)) (hi : (P.info? e).map (fun i => (i.zero.isSome, i.size)) = some (true, z)) (h0 : (Nat.blt 0 z && Nat.ble z 1000) = true) {o : Oper} {rest : List Oper} {d : Nat} {x : Operand} {cs : List Value} (fr : FrD Df N a L) (hw : wantL ops L o = some true) (hd : o.dst = some d) (hlt : Nat.blt d N = true)
    (ho : o.op = .buildSlice t 1 #[(0, x)]) (hx : ev L x = some (.agg cs.toArray)) (hl : cs.length = z) (hv : cs.all vok1 = true) (S : Sat w0 w R) (h : ∀ w' A c, Sat w0 w' (rvA e z A c 1 cs :: R) → ∀ a', FrD Df N a' ((d, .slice A 1 c) :: L) → wpList P ops Q rest a' w') : wpList P ops Q (o :: rest) a w := by
  obtain ⟨A, c, w', h1, h2, h3⟩ := lit1_exec (P := P) hu hi h0 fr ho hx hl hv S
  exact wl_val fr hw hd hlt h1 h2 (h w' A c h3)
theorem rvapp_exec {t z bytes : Nat} (ht : P.underlying t = some (.slice e)) (hinfo : (P.info? e).map (fun i => (i.zero.map (·.cells.size), i.size, i.bytes)) = some (some z, z, bytes)) (hz0 : Nat.blt 0 z = true) (hby : Nat.ble bytes 128 = true) (fr : FrD Df N a L) {o : Oper} {x y : Operand} {A Y : Option Addr} {n c cy : Nat} {xs news : List Value}
    (ho : o.op = .call { callee := .builtin .append, args := #[x, y], argTypes := #[t, t] }) (hx : ev L x = some (.slice A n c)) (hy : ev L y = some (.slice Y 1 cy)) (h1 : news.all (fun u => u.oneCell') = true) (hb : n ≤ 1000000000000) (S : Sat w0 w (rvA e z Y cy 1 news :: rvA e z A c n xs :: R)) :
    ∃ A2 c2 w', (execOp a.eval o).run P w = .ok (.value (.slice A2 (n + 1) c2)) w' ∧ vok (.slice A2 (n + 1) c2) = true ∧ Sat w0 w' (rvA e z A2 c2 (n + 1) (xs ++ news) :: R) := by
  obtain ⟨q1, q2, q3, q4, q5⟩ := rv_facts S
  cases Y with
  | none => have := q3 rfl; omega
  | some ad =>
    obtain ⟨g, rfl, hr⟩ := q5 ad rfl
    rw [List.all_eq_true] at h1
    obtain ⟨A2, c2, w', r1, r2, r3⟩ := rv_app (P := P) (ty := o.type) (ad := ⟨g, 0, none⟩) (cy := cy) ht hinfo (blt_lt hz0) (Nat.le_of_ble_eq_true hby) S.tl (by omega) (fun j u hu => by rw [addr0]; have := hr j u hu; rwa [Nat.zero_add] at this) (fun u hu => ⟨h1 u hu, q4 u hu⟩) hb
    exact ⟨A2, c2, w', app_op fr ho hx hy r1, vok_sl r2, r3⟩
theorem sl_rvapp {t z bytes : Nat} (ht : P.underlying t = some (.slice e)) (hinfo : (P.info? e).map (fun i => (i.zero.map (·.cells.size), i.size, i.bytes)) = some (some z, z, bytes)) (hz0 : Nat.blt 0 z = true) (hby : Nat.ble bytes 128 = true) {s : SOp} {rest : List Itm} {d : Nat} {x y : Operand} {A Y : Option Addr} {n c cy : Nat} {xs news : List Value} (fr : FrD Df N a L) (hw : wantS L s = some true) (hq : s.q = false) (hd : s.dst = some d) (hlt : Nat.blt d N = true)
    (ho : s.op = .call { callee := .builtin .append, args := #[x, y], argTypes := #[t, t] }) (hx : ev L x = some (.slice A n c)) (hy : ev L y = some (.slice Y 1 cy)) (h1 : news.all (fun u => u.oneCell') = true) (hb : n ≤ 1000000000000) (S : Sat w0 w (rvA e z Y cy 1 news :: rvA e z A c n xs :: R))
    (h : ∀ w' A2 c2, Sat w0 w' (rvA e z A2 c2 (n + 1) (xs ++ news) :: R) → S' w' ∧ ∀ a', FrD Df N a' ((d, .slice A2 (n + 1) c2) :: L) → SL P Q S' rest a' w') : SL P Q S' (.one s :: rest) a w := by
  obtain ⟨A2, c2, w', r1, r2, r3⟩ := rvapp_exec (P := P) ht hinfo hz0 hby fr (o := s.oper) ho hx hy h1 hb S
  exact sl_val fr hw hq hd hlt r1 (h w' A2 c2 r3).1 r2 (h w' A2 c2 r3).2
theorem wl_rvapp {t z bytes : Nat} (ht : P.underlying t = some (.slice e)) (hinfo : (P.info? e).map (fun i => (i.zero.map (·.cells.size), i.size, i.bytes)) = some (some z, z, bytes)) (hz0 : Nat.blt 0 z = true) (hby : Nat.ble bytes 128 = true) {o : Oper} {rest : List Oper} {d : Nat} {x y : Operand} {A Y : Option Addr} {n c cy : Nat} {xs news : List Value} (fr : FrD Df N a L) (hw : wantL ops L o = some true) (hd : o.dst = some d) (hlt : Nat.blt d N = true)
    (ho : o.op = .call { callee := .builtin .append, args := #[x, y], argTypes := #[t, t] }) (hx : ev L x = some (.slice A n c)) (hy : ev L y = some (.slice Y 1 cy)) (h1 : news.all (fun u => u.oneCell') = true) (hb : n ≤ 1000000000000) (S : Sat w0 w (rvA e z Y cy 1 news :: rvA e z A c n xs :: R))
    (h : ∀ w' A2 c2, Sat w0 w' (rvA e z A2 c2 (n + 1) (xs ++ news) :: R) → ∀ a', FrD Df N a' ((d, .slice A2 (n + 1) c2) :: L) → wpList P ops Q rest a' w') : wpList P ops Q (o :: rest) a w := by
  obtain ⟨A2, c2, w', r1, r2, r3⟩ := rvapp_exec (P := P) ht hinfo hz0 hby fr ho hx hy h1 hb S
  exact wl_val fr hw hd hlt r1 r2 (h w' A2 c2 r3)
end
structure Hd where
  A : Option Addr
  c : Nat
  l : List Int
  g : Option (Option Addr × Nat × List Int)
  k : Int
def Hd.lv (h : Hd) : Value := match h.g with
  | none => .slice none 0 0
  | some p => .slice p.1 p.2.2.length p.2.1
def hdV (h : Hd) : List Value := [.slice h.A h.l.length h.c, h.lv, .int .i64 h.k]
def hdsV (hs : List Hd) : List Value := hs.flatMap hdV
def hdA (k : IntKind) (e : Nat) (h : Hd) : Asn := match h.g with
  | none => ownA k e h.A h.c h.l
  | some p => gwA e 1 h.A (h.l.map (Value.int k)) p.1 p.2.1 p.2.2.length (p.2.2.map (Value.int k))
theorem hdsV_len (hs : List Hd) : (hdsV hs).length = hs.length * 3 := by
  induction hs with
  | nil => rfl
  | cons h r ih =>
    have : hdsV (h :: r) = hdV h ++ hdsV r := by simp [hdsV]
    rw [this, List.length_append, ih, List.length_cons]
    show 3 + _ = _
    omega
theorem hdsV_at : ∀ (hs : List Hd) (i j : Nat) (u : Value) (hi : i < hs.length), (hdV hs[i])[j]? = some u → (hdsV hs)[i * 3 + j]? = some u := by
  intro hs
  induction hs with
  | nil => intro i j u hi; exact absurd hi (Nat.not_lt_zero _)
  | cons h r ih =>
    intro i j u hi hu
    have e : hdsV (h :: r) = hdV h ++ hdsV r := by simp [hdsV]
    have hl : (hdV h).length = 3 := rfl
    rw [e]
    cases i with
    | zero =>
      have hj : j < 3 := (List.getElem?_eq_some_iff.1 hu).1
      rw [List.getElem?_append_left (by omega), Nat.zero_mul, Nat.zero_add]
      exact hu
    | succ i =>
      rw [List.getElem?_append_right (by omega), show (i + 1) * 3 + j - (hdV h).length = i * 3 + j by omega]
      exact ih i j u (by simpa using hi) hu
theorem hdsV_set : ∀ (hs : List Hd) (i : Nat) (h' : Hd) (v : Value) (hi : i < hs.length), hdV h' = (hdV hs[i]).set 1 v → splice (hdsV hs) (i * 3 + 1) [v] = hdsV (hs.set i h') := by
  intro hs
  induction hs with
  | nil => intro i h' v hi; exact absurd hi (Nat.not_lt_zero _)
  | cons h r ih =>
    intro i h' v hi hv
    have e : hdsV (h :: r) = hdV h ++ hdsV r := by simp [hdsV]
    have hl : (hdV h).length = 3 := rfl
    cases i with
    | zero =>
      have e2 : hdsV ((h :: r).set 0 h') = hdV h' ++ hdsV r := by simp [hdsV]
      rw [e, e2, hv]
      simp [splice, hdV]
    | succ i =>
      have e2 : hdsV ((h :: r).set (i + 1) h') = hdV h ++ hdsV (r.set i h') := by simp [hdsV]
      rw [e, e2, ← ih i h' v (by simpa using hi) hv]
      unfold splice
      rw [show (i + 1) * 3 + 1 = (hdV h).length + (i * 3 + 1) by omega, List.take_length_add_append, List.append_assoc]
      congr 1
      rw [show (hdV h).length + (i * 3 + 1) + [v].length = (hdV h).length + (i * 3 + 1 + [v].length) by omega, List.drop_length_add_append]
theorem hdsV_same (hs : List Hd) (f : Hd → Hd) (h : ∀ x ∈ hs, hdV (f x) = hdV x) : hdsV (hs.map f) = hdsV hs := by
  induction hs with
  | nil => rfl
  | cons x r ih =>
    have e : ∀ (x : Hd) r, hdsV (x :: r) = hdV x ++ hdsV r := fun x r => by simp [hdsV]
    rw [List.map_cons, e, e, h x List.mem_cons_self, ih fun y hy => h y (List.mem_cons_of_mem _ hy)]
section
variable {w w0 : World} {R M X : List Asn} {k : IntKind} {e eo c : Nat} {A : Option Addr} {hs : List Hd} {i : Nat}
theorem held_at (S : Sat w0 w M) (j : Nat) (hj : M[j]? = some (rvA eo 3 A c hs.length (hdsV hs))) (hi : i < hs.length) : (∃ g, A = some ⟨g, 0, none⟩) ∧ (∀ ad, A = some ad → ∃ g, ad = ⟨g, 0, none⟩ ∧ w.rangeAt g (i * 3) (hdV hs[i])) ∧ ∀ v ∈ hdV hs[i], vok1 v = true := by
  obtain ⟨h1, h2, h3, h4, h5⟩ := S.rvAt j hj
  refine ⟨?_, fun ad he => ?_, fun v hv => ?_⟩
  · cases A with
    | none => have := h3 rfl; omega
    | some ad =>
      obtain ⟨g, rfl, _⟩ := h5 ad rfl
      exact ⟨g, rfl⟩
  · obtain ⟨g, rfl, hr⟩ := h5 ad he
    refine ⟨g, rfl, fun q u hu => ?_⟩
    have := hr (i * 3 + q) u (hdsV_at hs i q u hi hu)
    rwa [Nat.zero_add] at this
  · obtain ⟨q, hq⟩ := List.getElem?_of_mem hv
    exact h4 v (List.mem_of_getElem? (hdsV_at hs i q v hi hq))
theorem erase_parts {α : Type} (hs : List α) (hi : i < hs.length) (x : α) : hs = hs.take i ++ hs[i] :: hs.drop (i + 1) ∧ hs.eraseIdx i = hs.take i ++ hs.drop (i + 1) ∧ hs.set i x = hs.take i ++ x :: hs.drop (i + 1) :=
  ⟨by rw [List.getElem_cons_drop]; exact (List.take_append_drop i hs).symm, List.eraseIdx_eq_take_drop_succ hs i, List.set_eq_take_append_cons_drop.trans (by rw [if_pos hi])⟩
theorem mid_perm {a : Asn} {X Y Z W : List Asn} : (X ++ ((Y ++ a :: Z) ++ W)).Perm (a :: (X ++ ((Y ++ Z) ++ W))) := by
  have h1 : (X ++ ((Y ++ a :: Z) ++ W)) = (X ++ Y) ++ a :: (Z ++ W) := by simp
  have h2 : (a :: (X ++ ((Y ++ Z) ++ W))) = a :: ((X ++ Y) ++ (Z ++ W)) := by simp
  rw [h1, h2]
  exact List.perm_middle
theorem hds_out (X : List Asn) (S : Sat w0 w (X ++ (hs.map (hdA k e) ++ R))) (hi : i < hs.length) : Sat w0 w (hdA k e hs[i] :: (X ++ ((hs.eraseIdx i).map (hdA k e) ++ R))) := by
  obtain ⟨e1, e2, -⟩ := erase_parts hs hi hs[i]
  have e1' : hs.map (hdA k e) = (hs.take i).map (hdA k e) ++ hdA k e hs[i] :: (hs.drop (i + 1)).map (hdA k e) := by
    conv => lhs; rw [e1]
    rw [List.map_append, List.map_cons]
  rw [e2, List.map_append]
  rw [e1'] at S
  exact S.perm mid_perm
theorem hds_in (X : List Asn) {h' : Hd} (S : Sat w0 w (hdA k e h' :: (X ++ ((hs.eraseIdx i).map (hdA k e) ++ R)))) (hi : i < hs.length) : Sat w0 w (X ++ ((hs.set i h').map (hdA k e) ++ R)) := by
  obtain ⟨e1, e2, e3⟩ := erase_parts hs hi h'
  rw [e3, List.map_append, List.map_cons]
  rw [e2, List.map_append] at S
  exact S.perm mid_perm.symm
end
theorem i64_next {i n : Nat} (h : i < n) (hn : n ≤ 9223372036854775807) : IntKind.wrap .i64 ((i : Int) + 1) = ((i + 1 : Nat) : Int) := by rw [show IntKind.wrap .i64 ((i : Int) + 1) = (i : Int) + 1 from IntWalk.i64_in _ ⟨by omega, by omega⟩]; omega
def partL {α : Type} (f : α → α) (i : Nat) (l : List α) : List α := (l.take i).map f ++ l.drop i
section
variable {α : Type} {f : α → α} {l : List α} {i : Nat}
theorem partL_0 : partL f 0 l = l := by simp [partL]
theorem partL_all : partL f l.length l = l.map f := by simp [partL]
theorem partL_len : (partL f i l).length = l.length := by simp [partL]; omega
theorem partL_get (hi : i < l.length) : (partL f i l)[i]? = some l[i] := by
  unfold partL
  rw [List.getElem?_append_right (by simp; omega), List.length_map, List.length_take, Nat.min_eq_left (by omega), Nat.sub_self, List.getElem?_drop, Nat.add_zero, List.getElem?_eq_getElem hi]
theorem partL_get' (hi : i < l.length) (h : i < (partL f i l).length) : (partL f i l)[i] = l[i] := by
  have := partL_get (f := f) hi
  rw [List.getElem?_eq_getElem h] at this
  injection this
theorem partL_set (hi : i < l.length) : (partL f i l).set i (f l[i]) = partL f (i + 1) l := by
  unfold partL
  rw [List.set_append_right _ _ (by simp; omega), List.length_map, List.length_take, Nat.min_eq_left (by omega), Nat.sub_self, List.take_succ_eq_append_getElem hi, List.map_append, List.append_assoc]
  congr 1
  have e : l.drop i = l[i] :: l.drop (i + 1) := List.drop_eq_getElem_cons hi
  rw [e, List.set_cons_zero]
  rfl
end
end Go.Proofs.YticnjkdaccacaaaGreatDoor.Sx
end
section
namespace Go.Proofs.YticnjkdaccacaaaGreatDoor.Sx
open Go Go.RowKit Base _root_.Go.Proofs.YticnjkdaccacaaaGreatDoor.Own
structure Pn where
  key : Nat
  fl : Array Bool
  js : List (Nat × Option Tmp × Nat)
def cntF (l : Array Bool) : Nat := l.toList.count false
def endI (I : Act → World → Prop) (e : Exit) (a : Act) (w : World) : Prop := e = .normal ∧ I a w
section
variable {P : Program} {ops : Array Oper} {Q : Exit → Act → World → Prop} {S : World → Prop}
def okNode (ops : Array Oper) (all : List Pn) (lf : Array Bool) (kf : Nat) (nd : Pn) : Bool :=
  (Region.ready .any ops nd.fl == nd.js.map (·.1)) && !nd.js.isEmpty && nd.js.all fun x =>
    (cntF nd.fl == cntF (nd.fl.setIfInBounds x.1 true) + 1) && ((x.2.2 == kf && nd.fl.setIfInBounds x.1 true == lf) || all.any fun m => m.key == x.2.2 && m.fl == nd.fl.setIfInBounds x.1 true)
def stripJ (ops : Array Oper) : List (Nat × Option Tmp × Nat) → Option (List (SOp × Nat))
  | [] => some []
  | (j, N, k) :: r => (strip ops (j, false, N)).bind fun s => if s.g.isNone && ((ops[j]?).map (·.dst) == some N) then (stripJ ops r).map ((s, k) :: ·) else none
def stripP (ops : Array Oper) : List Pn → Option (List (Nat × List (SOp × Nat)))
  | [] => some []
  | nd :: r => (stripJ ops nd.js).bind fun l => (stripP ops r).map ((nd.key, l) :: ·)
def PJ (P : Program) (S : World → Prop) (I : Nat → Act → World → Prop) (k : Nat) : List (SOp × Nat) → Prop
  | [] => True
  | (s, k') :: r => (∀ a w, S w → I k a w → SL P (endI (I k')) S [.one s] a w) ∧ PJ P S I k r
def PSteps (P : Program) (S : World → Prop) (I : Nat → Act → World → Prop) : List (Nat × List (SOp × Nat)) → Prop
  | [] => True
  | (k, l) :: r => PJ P S I k l ∧ PSteps P S I r
theorem pj_at {I : Nat → Act → World → Prop} {k : Nat} : ∀ {js : List (Nat × Option Tmp × Nat)} {l : List (SOp × Nat)}, stripJ ops js = some l → PJ P S I k l → ∀ x ∈ js, ∃ o, ops[x.1]? = some o ∧ (∀ t, Region.wanted o t = true) ∧
    ∀ a w, S w → I k a w → ∀ K : Act → World → Prop, (∀ a' w', S w' → I x.2.2 a' w' → K a' w') → Oper.wp P o a w K (fun _ _ _ => False) := by
  intro js
  induction js with
  | nil => intro l _ _ x hx; cases hx
  | cons y js ih =>
    obtain ⟨j, N, k'⟩ := y
    intro l hl hp x hx
    simp only [stripJ, Option.bind_eq_some_iff] at hl
    obtain ⟨s, hs, hl⟩ := hl
    split at hl
    case isFalse => cases hl
    rename_i hg
    rw [Option.map_eq_some_iff] at hl
    obtain ⟨l', hl', rfl⟩ := hl
    simp only [Bool.and_eq_true, Option.isNone_iff_eq_none, beq_iff_eq] at hg
    rcases List.mem_cons.1 hx with rfl | hx
    · cases ho : ops[j]? with
      | none => rw [ho] at hg; simp at hg
      | some o =>
        rw [ho] at hg
        have hd : o.dst = N := by simpa using hg.2
        have hgo : o.guard = none := by
          have hs' := hs
          unfold strip at hs'
          rw [ho] at hs'
          simp only [Option.bind_some] at hs'
          cases hgg : o.guard with
          | none => rfl
          | some g =>
            rw [hgg] at hs'
            simp only [Option.map_eq_some_iff] at hs'
            obtain ⟨t', _, rfl⟩ := hs'
            exact absurd hg.1 (by simp)
        refine ⟨o, rfl, fun t => by simp [Region.wanted, hgo], fun a w hS hI K hK => ?_⟩
        obtain ⟨_, hq, hsd, hop, hty⟩ := strip_wanted (x := (j, false, N)) ho hs a.tmps
        rcases hp.1 a w hS hI with ⟨h1, _, _⟩ | ⟨_, h2, _⟩ | ⟨_, _, h3⟩
        · have : s.wanted a.tmps = true := by simp [SOp.wanted, hg.1]
          rw [this] at h1; cases h1
        · have h2' : s.q = true := h2
          rw [hq] at h2'; cases h2'
        · exact oper_same hop hty (hsd.trans hd.symm) (h3 K fun a' w' hS' hh => hK a' w' hS' hh.2)
    · exact ih hl' hp.2 x hx
theorem psteps_at {I : Nat → Act → World → Prop} : ∀ {nodes : List Pn} {L : List (Nat × List (SOp × Nat))}, stripP ops nodes = some L → PSteps P S I L → ∀ nd ∈ nodes, ∃ l, stripJ ops nd.js = some l ∧ PJ P S I nd.key l := by
  intro nodes
  induction nodes with
  | nil => intro L _ _ nd h; cases h
  | cons n nodes ih =>
    intro L hL hp nd hnd
    simp only [stripP, Option.bind_eq_some_iff, Option.map_eq_some_iff] at hL
    obtain ⟨l, hl, L', hL', rfl⟩ := hL
    rcases List.mem_cons.1 hnd with rfl | hnd
    · exact ⟨l, hl, hp.1⟩
    · exact ih hL' hp.2 nd hnd
theorem pool_held {I : Nat → Act → World → Prop} {nodes : List Pn} {lf : Array Bool} {kf : Nat} {L : List (Nat × List (SOp × Nat))} (hall : nodes.all (okNode ops nodes lf kf) = true) (hL : stripP ops nodes = some L) (hs : PSteps P S I L)
    (hfin : ∀ a w, S w → I kf a w → wpAnyH P .any ops (np Q) S (cntF lf) lf a w) : ∀ (n : Nat) (nd : Pn), nd ∈ nodes → cntF nd.fl = n → ∀ a w, S w → I nd.key a w → wpAnyH P .any ops (np Q) S n nd.fl a w := by
  intro n
  induction n with
  | zero =>
    intro nd hnd hc a w hS hI
    have hok := List.all_eq_true.1 hall nd hnd
    unfold okNode at hok
    simp only [Bool.and_eq_true, List.all_eq_true, beq_iff_eq, Bool.not_eq_true', List.isEmpty_eq_false_iff] at hok
    obtain ⟨⟨h1, h2⟩, h3⟩ := hok
    obtain ⟨x, hx⟩ := List.exists_mem_of_ne_nil _ h2
    have := (h3 x hx).1
    omega
  | succ n ih =>
    intro nd hnd hc a w hS hI
    have hok := List.all_eq_true.1 hall nd hnd
    unfold okNode at hok
    simp only [Bool.and_eq_true, List.all_eq_true, beq_iff_eq, Bool.not_eq_true', List.isEmpty_eq_false_iff] at hok
    obtain ⟨⟨h1, h2⟩, h3⟩ := hok
    obtain ⟨l, hl, hj⟩ := psteps_at hL hs nd hnd
    refine wpAnyH_all h1 (by simpa using h2) fun i hi => ?_
    obtain ⟨x, hx, rfl⟩ := List.mem_map.1 hi
    obtain ⟨o, ho, hw, hstep⟩ := pj_at hl hj x hx
    have h4 := h3 x hx
    simp only [Bool.or_eq_true, Bool.and_eq_true, beq_iff_eq, List.any_eq_true] at h4
    obtain ⟨h5, h6⟩ := h4
    refine wpOp_of ho hw (hstep a w hS hI _ fun a' w' hS' hI' => ⟨hS', ?_⟩)
    rcases h6 with ⟨h7, h8⟩ | ⟨m, hm, h7, h8⟩
    · rw [h8]
      rw [h8] at h5
      have := hfin a' w' hS' (by rw [← h7]; exact hI')
      rwa [show cntF lf = n by omega] at this
    · rw [← h8]
      rw [← h8] at h5
      exact ih m hm (by omega) a' w' hS' (by rw [h7]; exact hI')
def flagsB : Array Bool → List Sg → Array Bool
  | l, [] => l
  | l, .one (i, _, _) :: r => flagsB (l.setIfInBounds i true) r
  | l, .two i j _ _ :: r => flagsB ((l.setIfInBounds i true).setIfInBounds j true) r
def okPre (ops : Array Oper) : Array Bool → List Sg → Bool
  | _, [] => true
  | l, .one (i, true, _) :: r => Region.free .any ops l i && (Region.ready .any ops l).contains i && okPre ops (l.setIfInBounds i true) r
  | _, _ => false
theorem pre_held (hsel : Region.noSelect ops = true) {Q0 : Exit → Act → World → Prop} {n : Nat} : ∀ (σ : List Sg) (l : Array Bool) (a : Act) (w : World), okPre ops l σ = true → S w → (∀ a w, S w → Q0 .normal a w → wpAnyH P .any ops (np Q) S n (flagsB l σ) a w) → Sched P ops Q0 S σ a w →
    wpAnyH P .any ops (np Q) S (n + cost σ) l a w := by
  intro σ
  induction σ with
  | nil => intro l a w _ hS hf h; exact hf a w hS h
  | cons x r ih =>
    intro l a w hok hS hf h
    cases x with
    | two i j N M => simp [okPre] at hok
    | one x =>
      obtain ⟨i, b, N⟩ := x
      cases b with
      | false => simp [okPre] at hok
      | true =>
        obtain ⟨o, v, ho, rfl, hy, h⟩ := h
        simp only [okPre, Bool.and_eq_true] at hok
        exact wpAnyH_take ho hsel hok.1.1 hok.1.2 (fun _ _ _ hp => hp) hy hS (ih _ _ _ hok.2 hS hf h)
theorem wp_region_pool {id : Nat} {a : Act} {w : World} (I : Nat → Act → World → Prop) (σ0 : List Sg) (L0 : List Itm) (nodes : List Pn) (n0 : Pn) (L : List (Nat × List (SOp × Nat))) (lf : Array Bool) (kf : Nat) (σ1 : List Sg) (L1 : List Itm) (S : World → Prop) (hm : P.follows .mixedOrders = true)
    (hok : (Region.noSelect ops && okPre ops (Array.replicate ops.size false) σ0 && (flagsB (Array.replicate ops.size false) σ0 == n0.fl) && (ops.size == cntF n0.fl + cost σ0) && (cntF lf == cost σ1) && okS ops lf σ1 && dstsOk ops σ0 && dstsOk ops σ1) = true)
    (hn0 : n0 ∈ nodes) (hall : nodes.all (okNode ops nodes lf kf) = true) (hL0 : strips ops σ0 = some L0) (hL : stripP ops nodes = some L) (hL1 : strips ops σ1 = some L1) (hS : S w.drew)
    (h0 : SL P (endI (I n0.key)) S L0 a w.drew) (hs : PSteps P S I L) (h1 : ∀ a w, S w → I kf a w → SL P Q S L1 a w) : (Code.region id ops true).wp P Q a w := by
  simp only [Bool.and_eq_true, beq_iff_eq] at hok
  obtain ⟨⟨⟨⟨⟨⟨⟨q1, q2⟩, q3⟩, q4⟩, q5⟩, q6⟩, q7⟩, q8⟩ := hok
  refine np_mono (wp_region_held (S := S) hm ?_)
  rw [q4] at *
  have key := pre_held (P := P) (S := S) (Q := Q) (n := cntF n0.fl) q1 σ0 (Array.replicate (cntF n0.fl + cost σ0) false) a w.drew (by rw [← q4] at q2 ⊢; exact q2) hS (Q0 := endI (I n0.key)) (fun a' w' hS' hq => by
    have e : flagsB (Array.replicate (cntF n0.fl + cost σ0) false) σ0 = n0.fl := q3
    rw [e]
    refine pool_held hall hL hs (fun a'' w'' hS'' hI => ?_) _ n0 hn0 rfl a' w' hS' hq.2
    rw [q5]
    exact sched_held q1 σ1 lf a'' w'' q6 hS'' (sl_sched σ1 L1 a'' w'' hL1 q8 (h1 a'' w'' hS'' hI))) (sl_sched σ0 L0 a _ hL0 q7 h0)
  exact key
end
end Go.Proofs.YticnjkdaccacaaaGreatDoor.Sx
end
