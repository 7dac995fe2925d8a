/- Texts of this work, one behind the other. -/
import Derived.Test.YticnjkdaccacaaaGreatVChiefsStay3
import Derived.RangeFuncLeaves
import Derived.RangeFuncRecord
import Derived.RangeFuncCalls
set_option maxRecDepth 100000
set_option maxHeartbeats 16000000
section
namespace Go.Proofs.YticnjkdaccacaaaGreat.Sx
open Go Go.RowKit Base Oq
def objA (o : Obj) (b : Nat) : Asn where
 holds := fun w B F => w.heap[b]? = some o ∧ B ≤ b ∧ ∀ g, F g ↔ g = b
 keep := fun ⟨h1, h3, h4⟩ hc hF _ => ⟨by rw [hc.block _ (Array.getElem?_eq_some_iff.1 h1).1 (hF _ ((h4 _).2 rfl))]; exact h1, h3, h4⟩
 dom := fun ⟨h1, h3, h4⟩ g hg => by rw [h4 g] at hg; subst hg; exact ⟨h3, (Array.getElem?_eq_some_iff.1 h1).1⟩
section
variable {w0 w : World} {M R : List Asn} {o o' : Obj} {b : Nat}
theorem Sat.objAt (S : Sat w0 w M) (i : Nat) (hi : M[i]? = some (objA o b)) : w.heap[b]? = some o := by
 obtain ⟨F, h1, _⟩ := (S.frontAt i hi).hd
 exact h1
theorem Sat.putObj (o' : Obj) (S : Sat w0 w (objA o b :: R)) : Sat w0 (w.putObj b o') (objA o' b :: R) := by
 obtain ⟨F, ⟨h1, h3, h4⟩, hF, hk⟩ := S.opened
 exact hk (A' := objA o' b) (F' := F) (G := fun g => g = b) ⟨World.putObj_heap_same (Array.getElem?_eq_some_iff.1 h1).1, h3, h4⟩ (putObj_chg w b o') (fun g _ hg => (h4 g).2 hg) fun g hg => .inl hg
theorem Sat.putLoop {r : Loop} (f : Loop → Loop) (S : Sat w0 w (objA (.loop r) b :: R)) : Sat w0 (w.putObj b (.loop (f r))) (objA (.loop (f r)) b :: R) := S.putObj _
theorem Sat.addObj (o : Obj) (S : Sat w0 w R) : Sat w0 (w.alloc o) (objA o w.heap.size :: R) :=
 S.add (F := fun g => g = w.heap.size) ((Below.refl _ _).alloc (Nat.le_refl _) _) ⟨heap_alloc_new _ _, S.below.size, fun g => Iff.rfl⟩ fun g hg => Nat.le_of_eq hg.symm
end
def sepA (A B : Asn) : Asn where
 holds := fun w b F => ∃ F1 F2 : Nat → Prop, A.holds w b F1 ∧ B.holds w b F2 ∧ (∀ k, F2 k → ¬ F1 k) ∧ ∀ k, F k ↔ F1 k ∨ F2 k
 keep := fun ⟨F1, F2, h1, h2, h3, h4⟩ hc hF hB => ⟨F1, F2, A.keep h1 hc (fun k hk => hF k ((h4 k).2 (.inl hk))) hB, B.keep h2 hc (fun k hk => hF k ((h4 k).2 (.inr hk))) hB, h3, h4⟩
 dom := fun ⟨F1, F2, h1, h2, h3, h4⟩ k hk => ((h4 k).1 hk).elim (A.dom h1 k) (B.dom h2 k)
def exA {ι : Type} (f : ι → Asn) : Asn where
 holds := fun w b F => ∃ i, (f i).holds w b F
 keep := fun ⟨i, h⟩ hc hF hB => ⟨i, (f i).keep h hc hF hB⟩
 dom := fun ⟨i, h⟩ k hk => (f i).dom h k hk
section
variable {w0 w : World} {M : List Asn} {A B : Asn}
theorem Sat.ofSep (S : Sat w0 w (sepA A B :: M)) : Sat w0 w (A :: B :: M) := by
 obtain ⟨F, ⟨F1, F2, h1, h2, h3, h4⟩, h5, h6⟩ := S.parts
 exact ⟨S.below, F1, h1, fun _ _ h => h, F2, h2, fun k hk hh => hh.elim id (h3 k hk), h6.weak fun k hk => by
  rcases hk with (h | h) | h
  ·exact h.elim
  ·exact .inr ((h4 k).2 (.inl h))
  ·exact .inr ((h4 k).2 (.inr h))⟩
theorem Sat.toSep (S : Sat w0 w (A :: B :: M)) : Sat w0 w (sepA A B :: M) := by
 obtain ⟨F1, h1, h2, F2, h3, h4, h5⟩ := S.parts
 exact ⟨S.below, fun k => F1 k ∨ F2 k, ⟨F1, F2, h1, h3, fun k hk hh => h4 k hk (.inr hh), fun k => Iff.rfl⟩, fun _ _ h => h, h5.weak fun k hk => by
  rcases hk with h | h | h
  ·exact h.elim
  ·exact .inl (.inr h)
  ·exact .inr h⟩
theorem Sat.ofEx {ι : Type} {f : ι → Asn} (S : Sat w0 w (exA f :: M)) : ∃ i, Sat w0 w (f i :: M) := by
 obtain ⟨F, ⟨i, h1⟩, h2, h3⟩ := S.parts
 exact ⟨i, S.below, F, h1, h2, h3⟩
theorem Sat.toEx {ι : Type} {f : ι → Asn} (i : ι) (S : Sat w0 w (f i :: M)) : Sat w0 w (exA f :: M) := by
 obtain ⟨F, h1, h2, h3⟩ := S.parts
 exact ⟨S.below, F, ⟨i, h1⟩, h2, h3⟩
end
section
variable {P : Program} {n r : Nat}
theorem opIn {o : Oper} {a : Act} {w : World} {K K' : Act → World → Prop} {Q : Exit → Act → World → Prop} (hd : ∀ c, o.op ≠ .defer c) (h : o.wp P a w K Q) (hK : ∀ a w, K a w → K' a w) : o.wpIn (Fence.wide.inRound r) n P a w K' Q := by
 refine ⟨fun _ _ => trivial, ?_⟩
 rw [Oper.semAt_eq _ _ _ hd]
 unfold Oper.wp at h
 generalize hres : (execOp a.eval o).run P w = res at h
 cases res with
 | ok x w' =>
  cases x with
  | value v => exact hK _ _ h
  | skip => exact hK _ _ h
  | defer d => exact hK _ _ h
  | enter f args =>
   refine ⟨(fun hh => by cases hh), CallsIn.inRound r (callsIn_wide.2 (Calls.mono h fun e w'' hh => ?_))⟩
   cases e with
   | returned v => exact hK _ _ hh
   | panicked c => exact hh
   | outgrown => exact hh
  | row row args => exact ⟨(fun hh => by cases hh), fun c cs _ => let ⟨v, w'', q, s⟩ := h c cs; ⟨v, w'', hK _ _ q, stepsIn_wide.2 s⟩⟩
  | round l f t x y => exact h.elim
  | _ => exact h.elim
 | halt hl w' =>
  cases hl with
  | panic v => exact h
  | _ => exact h.elim
theorem wlIn {ops : Array Oper} {Q : Exit → Act → World → Prop} (hQ : ∀ a w, ¬ Q .outgrown a w) : ∀ {lst : List Oper} {a : Act} {w : World}, (∀ o ∈ lst, ∀ c, o.op ≠ .defer c) → wpList P ops Q lst a w → wpListIn (Fence.wide.inRound r) n P ops Q lst a w := by
 intro lst
 induction lst with
 | nil => intro a w _ h; exact h
 | cons o rest ih =>
  intro a w hd h
  have hd' : ∀ o ∈ rest, ∀ c, o.op ≠ .defer c := fun o ho => hd o (List.mem_cons_of_mem _ ho)
  unfold wpList at h
  unfold wpListIn
  split at h
  ·rename_i hw
   rw [if_pos hw]
   rcases h with h | ⟨-, a0, w0, h⟩
   ·exact opIn (hd o List.mem_cons_self) h fun a w hh => ih hd' hh
   ·exact absurd h (hQ a0 w0)
  ·rename_i hw
   rw [if_neg hw]
   exact ⟨fun _ _ => trivial, ih hd' h⟩
theorem regIn {id : Nat} {lst : List Oper} {Q : Exit → Act → World → Prop} {a : Act} {w : World} (hQ : ∀ a w, ¬ Q .outgrown a w) (hd : ∀ o ∈ lst, ∀ c, o.op ≠ .defer c) (h : wpList P lst.toArray Q lst a w) : (Code.region id lst.toArray false).wpIn (Fence.wide.inRound r) n P Q a w := wpIn_region_lit (wlIn hQ hd h)
end
section
variable {P : Program} {T : Orc} {ops : Array Oper} {Q : Exit → Act → World → Prop} {N n : Nat} {a : Act} {w w0 : World} {L : Env} {R : List Asn}
theorem reg_out {id : Nat} {lst : List Oper} (h : wpListIn Fence.wide n P lst.toArray Q lst a w) : (Code.region id lst.toArray false).wp P Q a w := wpIn_wide.1 (wpIn_region_lit h)
theorem wli_run (hT : T.Ok P) : ∀ (q : Nat) {l rest : List Oper} {L L' : Env} {a : Act}, runL T N ops q l L = some (rest, L') → Fr N a L → (∀ a', Fr N a' L' → wpListIn Fence.wide n P ops Q rest a' w) → wpListIn Fence.wide n P ops Q l a w := by
 intro q
 induction q with
 | zero => intro l rest L L' a hr fr h; simp only [runL, Option.some.injEq, Prod.mk.injEq] at hr; obtain ⟨rfl, rfl⟩ := hr; exact h a fr
 | succ q ih =>
  intro l rest L L' a hr fr h
  cases l with
  | nil => simp [runL] at hr
  | cons o r =>
   simp only [runL] at hr
   split at hr
   ·rename_i L1 h1
    unfold stepL at h1
    split at h1
    ·cases h1
    ·rename_i d hd
     split at h1
     ·rename_i hlt
      split at h1
      ·rename_i hw
       split at h1
       ·rename_i v hv
        injection h1 with h1; subst h1
        obtain ⟨e1, e2⟩ := pure_run hT fr hv w
        unfold wpListIn
        rw [wantL_run fr hw, if_pos rfl]
        refine ⟨fun _ _ => trivial, ?_⟩
        show o.uponIn Fence.wide n P a _ Q ((execOp a.eval o).run P w)
        rw [e1]
        show wpListIn Fence.wide n P ops Q r (a.put o.dst v) w
        rw [hd]
        exact ih hr (fr.put hlt e2) h
       ·cases h1
      ·rename_i hw
       injection h1 with h1; subst h1
       unfold wpListIn
       rw [wantL_run fr hw, if_neg (by decide)]
       refine ⟨fun _ _ => trivial, ?_⟩
       rw [hd]
       exact ih hr (fr.put hlt rfl) h
      ·cases h1
     ·cases h1
   ·cases hr
theorem wli_yield {o : Oper} {rest : List Oper} {d lp : Nat} {x : Operand} {v : Value} {c : Call} {fn : FuncId} {tmps : Array Value} {assign body : Code} {I : World → Prop} (fr : Fr N a L) (hw : wantL ops L o = some true) (hd : o.dst = some d) (hlt : Nat.blt d N = true) (ho : o.op = .call c) (hc : c.callee = .value x)
  (hx : ev L x = some (.func (.yield lp) #[] #[])) (hxs : evs L c.args.toList = some [v]) (hy : (Instr.yield lp #[v]).run P w = .ok (.round lp fn tmps assign body) w)
  (hR : RoundIn Fence.wide (n - 1) P lp fn tmps assign body w fun e w' => e = .returned (.bool true) ∧ I w') (h : ∀ w', I w' → ∀ a', Fr N a' ((d, .bool true) :: L) → wpListIn Fence.wide n P ops Q rest a' w') : wpListIn Fence.wide n P ops Q (o :: rest) a w := by
 have e : c.args.map a.eval = #[v] := by
  apply Array.toList_inj.1
  rw [Array.toList_map, (evs_run fr hxs).1]
 have hrun : (execOp a.eval o).run P w = .ok (.round lp fn tmps assign body) w := by
  unfold execOp
  simp only [ho, resolve, hc, (fr.ev hx).1, Deferred.ofValue]
  rw [Sem.run_bind, Sem.run_pure, Result.andThen_ok]
  simp only [invoke, e]
  simpa using hy
 unfold wpListIn
 rw [wantL_run fr hw, if_pos rfl]
 refine ⟨fun _ _ => trivial, ?_⟩
 show o.uponIn Fence.wide n P a _ Q ((execOp a.eval o).run P w)
 rw [hrun]
 refine ⟨(fun hh => by cases hh), hR.mono ?_⟩
 rintro e' w' ⟨rfl, hI⟩
 show wpListIn Fence.wide n P ops Q rest (a.put o.dst (.bool true)) w'
 rw [hd]
 exact h w' hI _ (fr.put (blt_lt hlt) rfl)
theorem cw_rangeF {g : Operand} {gf : FuncId} {lb : Array Value} {ps : Array Tmp} {assign body : Code} (fr : Fr N a L) (hg : ev L g = some (.func (.func gf) #[] lb)) (hin : Enters P gf) (S : Sat w0 w R)
  (hcall : ∀ (fn : FuncId) (lp D : Nat) (w1 : World), Sat w0 w1 (objA (.loop { state := .ready, pending := none, fn, tmps := a.tmps, params := ps, assign, body, defers := D }) lp :: objA (.deferred (some [])) D :: R) →
   Calls P gf (#[.func (.yield lp) #[] #[]] ++ lb) w1 fun e w' => (∃ v, e = .returned v) ∧ w'.heap[lp]? = some (.loop { state := .ready, pending := none, fn, tmps := a.tmps, params := ps, assign, body, defers := D }) ∧
    Q .normal { a with defers := { target := .collected D, args := #[] } :: a.defers } (w'.putObj lp (.loop { state := .exhausted, pending := none, fn, tmps := a.tmps, params := ps, assign, body, defers := D }))) :
  (Code.rangeFunc g ps assign body).wp P Q a w := by
 refine (wpIn_wide (n := 1)).1 (wpIn_rangeFunc fun fn _ => ?_)
 have S1 := (S.addObj (.deferred (some []))).addObj (.loop { state := .ready, pending := none, fn, tmps := a.tmps, params := ps, assign, body, defers := w.heap.size })
 have hs : (w.alloc (.deferred (some []))).heap.size = w.heap.size + 1 := by simp
 rw [hs] at S1
 obtain ⟨W1, hW1⟩ : ∃ W1, W1 = (w.alloc (.deferred (some []))).alloc (.loop { state := .ready, pending := none, fn, tmps := a.tmps, params := ps, assign, body, defers := w.heap.size }) := ⟨_, rfl⟩
 rw [← hW1] at S1
 refine ⟨w.heap.size + 1, [{ target := .collected w.heap.size, args := #[] }], W1, { target := .fn (.func gf) lb, args := #[.func (.yield (w.heap.size + 1)) #[] #[]] }, W1, gf, #[.func (.yield (w.heap.size + 1)) #[] #[]] ++ lb, W1, by rw [hW1]; exact run_enterLoop_outer _ _ _ _ _, ?_, fun _ _ => trivial, ?_, (fun hh => by cases hh), ?_⟩
 ·simp only [resolve, (fr.ev hg).1]
  simp [go_sem]
 ·simp only [invoke]
  have := hin (#[.func (.yield (w.heap.size + 1)) #[] #[]] ++ lb) W1
  simpa using this
 ·refine callsIn_wide.2 ((hcall fn (w.heap.size + 1) w.heap.size _ S1).mono ?_)
  rintro e w' ⟨⟨v, rfl⟩, hl, hq⟩
  exact ⟨none, _, run_endLoop hl (by simp), hq⟩
theorem calls_marks {f : FuncId} {fn : Func} {c : Code} {E : Ending → World → Prop} (xs : List Value) (hf : P.funcs[f]? = some fn) (hb : fn.body = some c) (hN : fn.ntmps = N) (hl : Nat.ble xs.length N = true) (hv : xs.all vok = true)
  (h : ∀ a, Fr N a (EnvOf 0 xs) → c.wp P (bodyPostM Fence.wide 1 P fn E) a w) : Calls P f xs.toArray w E := by
 refine (callsIn_wide (n := 1)).1 (callsIn_of_wp_marks hf hb trivial (wpIn_wide.2 (h _ ?_)))
 subst hN
 have := Fr.start fn.ntmps xs (Nat.le_of_ble_eq_true hl) hv
 simpa using this
theorem wl_raw {o : Oper} {rest : List Oper} {v : Value} {w' : World} (hg : o.guard = none) (hrun : (execOp a.eval o).run P w = .ok (.value v) w') (h : wpList P ops Q rest (a.put o.dst v) w') : wpList P ops Q (o :: rest) a w :=
 wpList_step fun K hK => by
  have : Region.wanted o (yielded ops a.tmps) = true := by simp [Region.wanted, hg]
  rw [if_pos this]
  exact wp_value hrun (hK _ _ h)
end
end Go.Proofs.YticnjkdaccacaaaGreat.Sx
end
section
namespace Go.Proofs.YticnjkdaccacaaaGreat.QS
open Go Go.RowKit Sx Base Oq
def str0 : ByteArray := { data := (List.toArray (List.append (List.append [0, 1, 2, 2, 3, 3, 3, 3, 4, 4, 4, 4, 4, 4, 4, 4, 5, 5, 5, 5, 5, 5, 5, 5, 5, 5, 5, 5, 5, 5, 5, 5, 6, 6, 6, 6, 6, 6, 6, 6, 6, 6, 6, 6, 6, 6, 6, 6, 6, 6, 6, 6, 6, 6, 6, 6, 6, 6, 6, 6, 6, 6, 6, 6] [7, 7, 7, 7, 7, 7, 7, 7, 7, 7, 7, 7, 7, 7, 7, 7, 7, 7, 7, 7, 7, 7, 7, 7, 7, 7, 7, 7, 7, 7, 7, 7, 7, 7, 7, 7, 7, 7, 7, 7, 7, 7, 7, 7, 7, 7, 7, 7, 7, 7, 7, 7, 7, 7, 7, 7, 7, 7, 7, 7, 7, 7, 7, 7]) (List.append [8, 8, 8, 8, 8, 8, 8, 8, 8, 8, 8, 8, 8, 8, 8, 8, 8, 8, 8, 8, 8, 8, 8, 8, 8, 8, 8, 8, 8, 8, 8, 8, 8, 8, 8, 8, 8, 8, 8, 8, 8, 8, 8, 8, 8, 8, 8, 8, 8, 8, 8, 8, 8, 8, 8, 8, 8, 8, 8, 8, 8, 8, 8, 8] [8, 8, 8, 8, 8, 8, 8, 8, 8, 8, 8, 8, 8, 8, 8, 8, 8, 8, 8, 8, 8, 8, 8, 8, 8, 8, 8, 8, 8, 8, 8, 8, 8, 8, 8, 8, 8, 8, 8, 8, 8, 8, 8, 8, 8, 8, 8, 8, 8, 8, 8, 8, 8, 8, 8, 8, 8, 8, 8, 8, 8, 8, 8, 8]))) }
def Len64.j3 (x5 : Int) (x6 : Int) : Option (Int) :=
 (if 0 ≤ (IntKind.wrap .u8 x5) ∧ (IntKind.wrap .u8 x5) < (ByteArray.size str0 : Int) then (lt (IntKind.wrap .i64 (x6 + (IntKind.wrap .i64 (strB str0 (Int.toNat (IntKind.wrap .u8 x5)))))) fun y7 => (some (y7))) else none)
def Len64.j2 (x3 : Int) (x4 : Int) : Option (Int) :=
 (if (decide (x3 ≥ (256 : Int))) = true then (lt (IntKind.wrap .i64 (x4 + (8 : Int))) fun y8 => (Len64.j3 (Int.fdiv x3 (2 ^ 8)) y8)) else (Len64.j3 x3 x4))
def Len64.j1 (x1 : Int) (x2 : Int) : Option (Int) :=
 (if (decide (x1 ≥ (65536 : Int))) = true then (lt (IntKind.wrap .i64 (x2 + (16 : Int))) fun y9 => (Len64.j2 (Int.fdiv x1 (2 ^ 16)) y9)) else (Len64.j2 x1 x2))
def Len64.f (a0 : Int) : Option (Int) :=
 (if (decide (a0 ≥ (4294967296 : Int))) = true then (Len64.j1 (Int.fdiv a0 (2 ^ 32)) (32 : Int)) else (Len64.j1 a0 (0 : Int)))
def Len.f (a0 : Int) : Option (Int) :=
 (Option.bind (Len64.f a0) fun r1 => (some (r1)))
def isNaN_uint32.f (a0 : Int) : Option (Bool) :=
 (some ((a0 != a0)))
def Less_uint32.f (a0 : Int) (a1 : Int) : Option (Bool) :=
 (Option.bind (isNaN_uint32.f a0) fun r1 => (if r1 = true then (Option.bind (isNaN_uint32.f a1) fun r2 => (if (!r2) = true then (some (true)) else (some ((decide (a0 < a1)))))) else (some ((decide (a0 < a1))))))
def is_.j1 (kl1 : List Int → Int → Option (List Int)) (x2 : Int) (l5 : List Int) : Option (List Int) :=
 (kl1 l5 (IntKind.wrap .i64 (x2 + (1 : Int))))
def is_.l2 : Nat → (List Int → Int → Option (List Int)) → Int → Nat  → Int → List Int → Int → Option (List Int)
 | 0, _, _, _, _, _, _ => none
 | k2 + 1, kl1, a1, n0, x2, l6, x7 =>
  (if (decide (x7 > a1)) = true then (if 0 ≤ x7 ∧ x7 < (n0 : Int) then (if 0 ≤ (IntKind.wrap .i64 (x7 - (1 : Int))) ∧ (IntKind.wrap .i64 (x7 - (1 : Int))) < (n0 : Int) then (Option.bind (Less_uint32.f (List.getD l6 (Int.toNat x7) 0) (List.getD l6 (Int.toNat (IntKind.wrap .i64 (x7 - (1 : Int)))) 0)) fun r10 => (if r10 = true then (if 0 ≤ (IntKind.wrap .i64 (x7 - (1 : Int))) ∧ (IntKind.wrap .i64 (x7 - (1 : Int))) < (n0 : Int) then (if 0 ≤ x7 ∧ x7 < (n0 : Int) then (if 0 ≤ x7 ∧ x7 < (n0 : Int) then (if 0 ≤ (IntKind.wrap .i64 (x7 - (1 : Int))) ∧ (IntKind.wrap .i64 (x7 - (1 : Int))) < (n0 : Int) then ((is_.l2 k2 kl1 a1 n0 x2) (List.set (List.set l6 (Int.toNat x7) (List.getD l6 (Int.toNat (IntKind.wrap .i64 (x7 - (1 : Int)))) 0)) (Int.toNat (IntKind.wrap .i64 (x7 - (1 : Int)))) (List.getD l6 (Int.toNat x7) 0)) (IntKind.wrap .i64 (x7 - (1 : Int)))) else none) else none) else none) else none) else (is_.j1 kl1 x2 l6))) else none) else none) else (is_.j1 kl1 x2 l6))
def is_.l1 : Nat → Int → Int → Nat  → List Int → Int → Option (List Int)
 | 0, _, _, _, _, _ => none
 | k1 + 1, a2, a1, n0, l1, x2 =>
  (if (decide (x2 < a2)) = true then (is_.l2 k1 (is_.l1 k1 a2 a1 n0) a1 n0 x2 l1 x2) else (some (l1)))
def is_.f (k : Nat) (n0 : Nat) (l0 : List Int) (a1 : Int) (a2 : Int) : Option (List Int) :=
 (is_.l1 k a2 a1 n0 l0 (IntKind.wrap .i64 (a1 + (1 : Int))))
def sd_.j1 (kl1 : List Int → Int → Option (List Int)) (a3 : Int) (x2 : Int) (n0 : Nat ) (l1 : List Int) (x6 : Int) : Option (List Int) :=
 (if 0 ≤ (IntKind.wrap .i64 (a3 + x2)) ∧ (IntKind.wrap .i64 (a3 + x2)) < (n0 : Int) then (if 0 ≤ (IntKind.wrap .i64 (a3 + x6)) ∧ (IntKind.wrap .i64 (a3 + x6)) < (n0 : Int) then (Option.bind (Less_uint32.f (List.getD l1 (Int.toNat (IntKind.wrap .i64 (a3 + x2))) 0) (List.getD l1 (Int.toNat (IntKind.wrap .i64 (a3 + x6))) 0)) fun r7 => (if (!r7) = true then (some (l1)) else (if 0 ≤ (IntKind.wrap .i64 (a3 + x6)) ∧ (IntKind.wrap .i64 (a3 + x6)) < (n0 : Int) then (if 0 ≤ (IntKind.wrap .i64 (a3 + x2)) ∧ (IntKind.wrap .i64 (a3 + x2)) < (n0 : Int) then (if 0 ≤ (IntKind.wrap .i64 (a3 + x2)) ∧ (IntKind.wrap .i64 (a3 + x2)) < (n0 : Int) then (if 0 ≤ (IntKind.wrap .i64 (a3 + x6)) ∧ (IntKind.wrap .i64 (a3 + x6)) < (n0 : Int) then (kl1 (List.set (List.set l1 (Int.toNat (IntKind.wrap .i64 (a3 + x2))) (List.getD l1 (Int.toNat (IntKind.wrap .i64 (a3 + x6))) 0)) (Int.toNat (IntKind.wrap .i64 (a3 + x6))) (List.getD l1 (Int.toNat (IntKind.wrap .i64 (a3 + x2))) 0)) x6) else none) else none) else none) else none))) else none) else none)
def sd_.l1 : Nat → Int → Int → Nat  → List Int → Int → Option (List Int)
 | 0, _, _, _, _, _ => none
 | k1 + 1, a2, a3, n0, l1, x2 =>
  (lt (IntKind.wrap .i64 ((IntKind.wrap .i64 ((2 : Int) * x2)) + (1 : Int))) fun y5 => (if (decide (y5 ≥ a2)) = true then (some (l1)) else (if (decide ((IntKind.wrap .i64 (y5 + (1 : Int))) < a2)) = true then (if 0 ≤ (IntKind.wrap .i64 (a3 + y5)) ∧ (IntKind.wrap .i64 (a3 + y5)) < (n0 : Int) then (if 0 ≤ (IntKind.wrap .i64 ((IntKind.wrap .i64 (a3 + y5)) + (1 : Int))) ∧ (IntKind.wrap .i64 ((IntKind.wrap .i64 (a3 + y5)) + (1 : Int))) < (n0 : Int) then (Option.bind (Less_uint32.f (List.getD l1 (Int.toNat (IntKind.wrap .i64 (a3 + y5))) 0) (List.getD l1 (Int.toNat (IntKind.wrap .i64 ((IntKind.wrap .i64 (a3 + y5)) + (1 : Int)))) 0)) fun r8 => (if r8 = true then (sd_.j1 (sd_.l1 k1 a2 a3 n0) a3 x2 n0 l1 (IntKind.wrap .i64 (y5 + (1 : Int)))) else (sd_.j1 (sd_.l1 k1 a2 a3 n0) a3 x2 n0 l1 y5))) else none) else none) else (sd_.j1 (sd_.l1 k1 a2 a3 n0) a3 x2 n0 l1 y5))))
def sd_.f (k : Nat) (n0 : Nat) (l0 : List Int) (a1 : Int) (a2 : Int) (a3 : Int) : Option (List Int) :=
 (sd_.l1 k a2 a3 n0 l0 a1)
def hs_.l2 : Nat → Int → Nat  → List Int → Int → Option (List Int)
 | 0, _, _, _, _ => none
 | k2 + 1, a1, n0, l8, x9 =>
  (if (decide (x9 ≥ (0 : Int))) = true then (if 0 ≤ (IntKind.wrap .i64 (a1 + x9)) ∧ (IntKind.wrap .i64 (a1 + x9)) < (n0 : Int) then (if 0 ≤ a1 ∧ a1 < (n0 : Int) then (if 0 ≤ a1 ∧ a1 < (n0 : Int) then (if 0 ≤ (IntKind.wrap .i64 (a1 + x9)) ∧ (IntKind.wrap .i64 (a1 + x9)) < (n0 : Int) then (Option.bind (sd_.f k2 n0 (List.set (List.set l8 (Int.toNat a1) (List.getD l8 (Int.toNat (IntKind.wrap .i64 (a1 + x9))) 0)) (Int.toNat (IntKind.wrap .i64 (a1 + x9))) (List.getD l8 (Int.toNat a1) 0)) (0 : Int) x9 a1) fun r12 => ((hs_.l2 k2 a1 n0) r12 (IntKind.wrap .i64 (x9 - (1 : Int))))) else none) else none) else none) else none) else (some (l8)))
def hs_.l1 : Nat → Nat  → Int → Int → List Int → Int → Option (List Int)
 | 0, _, _, _, _, _ => none
 | k1 + 1, n0, a2, a1, l2, x3 =>
  (if (decide (x3 ≥ (0 : Int))) = true then (Option.bind (sd_.f k1 n0 l2 x3 (IntKind.wrap .i64 (a2 - a1)) a1) fun r6 => ((hs_.l1 k1 n0 a2 a1) r6 (IntKind.wrap .i64 (x3 - (1 : Int))))) else (lt (IntKind.wrap .i64 ((IntKind.wrap .i64 (a2 - a1)) - (1 : Int))) fun y7 => (hs_.l2 k1 a1 n0 l2 y7)))
def hs_.f (k : Nat) (n0 : Nat) (l0 : List Int) (a1 : Int) (a2 : Int) : Option (List Int) :=
 (lt (IntKind.wrap .i64 (Int.tdiv (IntKind.wrap .i64 ((IntKind.wrap .i64 (a2 - a1)) - (1 : Int))) (2 : Int))) fun y1 => (hs_.l1 k n0 a2 a1 l0 y1))
def o2_.f (l0 : List Int) (a1 : Int) (a2 : Int) (x903 : Int) : Option (Int × Int × Int) :=
 (if 0 ≤ a2 ∧ a2 < (List.length l0 : Int) then (if 0 ≤ a1 ∧ a1 < (List.length l0 : Int) then (Option.bind (Less_uint32.f (List.getD l0 (Int.toNat a2) 0) (List.getD l0 (Int.toNat a1) 0)) fun r1 => (if r1 = true then (lt (IntKind.wrap .i64 (x903 + (1 : Int))) fun x2 => (some (a2, a1, x2))) else (some (a1, a2, x903)))) else none) else none)
def md_.f (l0 : List Int) (a1 : Int) (a2 : Int) (a3 : Int) (x904 : Int) : Option (Int × Int) :=
 (Option.bind (o2_.f l0 a1 a2 x904) fun r1 => (Option.bind (o2_.f l0 r1.2.1 a3 r1.2.2) fun r2 => (Option.bind (o2_.f l0 r1.1 r2.1 r2.2.2) fun r3 => (some (r3.2.1, r3.2.2)))))
def ma_.f (l0 : List Int) (a1 : Int) (x902 : Int) : Option (Int × Int) :=
 (Option.bind (md_.f l0 (IntKind.wrap .i64 (a1 - (1 : Int))) a1 (IntKind.wrap .i64 (a1 + (1 : Int))) x902) fun r1 => (some (r1.1, r1.2)))
def cp_.j1 (x5 : Int) (x6 : Int) : Option (Int × Int) :=
 (if (x5 == (0 : Int)) = true then (some (x6, (1 : Int))) else (if (x5 == (12 : Int)) = true then (some (x6, (2 : Int))) else (some (x6, (0 : Int)))))
def cp_.j2 (l0 : List Int) (x7 : Int) (x8 : Int) (x9 : Int) (x10 : Int) : Option (Int × Int) :=
 (Option.bind (md_.f l0 x8 x9 x10 x7) fun r11 => (cp_.j1 r11.2 r11.1))
def cp_.f (l0 : List Int) (a1 : Int) (a2 : Int) : Option (Int × Int) :=
 (lt (IntKind.wrap .i64 (a1 + (IntKind.wrap .i64 ((IntKind.wrap .i64 (Int.tdiv (IntKind.wrap .i64 (a2 - a1)) (4 : Int))) * (1 : Int))))) fun y2 => (lt (IntKind.wrap .i64 (a1 + (IntKind.wrap .i64 ((IntKind.wrap .i64 (Int.tdiv (IntKind.wrap .i64 (a2 - a1)) (4 : Int))) * (2 : Int))))) fun y3 => (lt (IntKind.wrap .i64 (a1 + (IntKind.wrap .i64 ((IntKind.wrap .i64 (Int.tdiv (IntKind.wrap .i64 (a2 - a1)) (4 : Int))) * (3 : Int))))) fun y4 => (if (decide ((IntKind.wrap .i64 (a2 - a1)) ≥ (8 : Int))) = true then (if (decide ((IntKind.wrap .i64 (a2 - a1)) ≥ (50 : Int))) = true then (Option.bind (ma_.f l0 y2 (0 : Int)) fun r12 => (Option.bind (ma_.f l0 y3 r12.2) fun r13 => (Option.bind (ma_.f l0 y4 r13.2) fun r14 => (cp_.j2 l0 r14.2 r12.1 r13.1 r14.1)))) else (cp_.j2 l0 (0 : Int) y2 y3 y4)) else (cp_.j1 (0 : Int) y3)))))
def rr_.l1 : Nat → Nat  → List Int → Int → Int → Option (List Int)
 | 0, _, _, _, _ => none
 | k1 + 1, n0, l1, x2, x3 =>
  (if (decide (x2 < x3)) = true then (if 0 ≤ x3 ∧ x3 < (n0 : Int) then (if 0 ≤ x2 ∧ x2 < (n0 : Int) then (if 0 ≤ x2 ∧ x2 < (n0 : Int) then (if 0 ≤ x3 ∧ x3 < (n0 : Int) then ((rr_.l1 k1 n0) (List.set (List.set l1 (Int.toNat x2) (List.getD l1 (Int.toNat x3) 0)) (Int.toNat x3) (List.getD l1 (Int.toNat x2) 0)) (IntKind.wrap .i64 (x2 + (1 : Int))) (IntKind.wrap .i64 (x3 - (1 : Int)))) else none) else none) else none) else none) else (some (l1)))
def rr_.f (k : Nat) (n0 : Nat) (l0 : List Int) (a1 : Int) (a2 : Int) : Option (List Int) :=
 (rr_.l1 k n0 l0 a1 (IntKind.wrap .i64 (a2 - (1 : Int))))
def pi_.j1 (kl1 : List Int → Int → Int → Option (Bool × List Int)) (x3 : Int) (l7 : List Int) (x8 : Int) : Option (Bool × List Int) :=
 (kl1 l7 x8 (IntKind.wrap .i64 (x3 + (1 : Int))))
def pi_.l2 : Nat → (List Int → Int → Int → Option (Bool × List Int)) → Int → Nat  → Int → Int → List Int → Int → Option (Bool × List Int)
 | 0, _, _, _, _, _, _, _ => none
 | k2 + 1, kl1, a2, n0, x3, x9, l11, x12 =>
  (if (decide (x12 < a2)) = true then (if 0 ≤ x12 ∧ x12 < (n0 : Int) then (if 0 ≤ (IntKind.wrap .i64 (x12 - (1 : Int))) ∧ (IntKind.wrap .i64 (x12 - (1 : Int))) < (n0 : Int) then (Option.bind (Less_uint32.f (List.getD l11 (Int.toNat x12) 0) (List.getD l11 (Int.toNat (IntKind.wrap .i64 (x12 - (1 : Int)))) 0)) fun r15 => (if (!r15) = true then (pi_.j1 kl1 x3 l11 x9) else (if 0 ≤ (IntKind.wrap .i64 (x12 - (1 : Int))) ∧ (IntKind.wrap .i64 (x12 - (1 : Int))) < (n0 : Int) then (if 0 ≤ x12 ∧ x12 < (n0 : Int) then (if 0 ≤ x12 ∧ x12 < (n0 : Int) then (if 0 ≤ (IntKind.wrap .i64 (x12 - (1 : Int))) ∧ (IntKind.wrap .i64 (x12 - (1 : Int))) < (n0 : Int) then ((pi_.l2 k2 kl1 a2 n0 x3 x9) (List.set (List.set l11 (Int.toNat x12) (List.getD l11 (Int.toNat (IntKind.wrap .i64 (x12 - (1 : Int)))) 0)) (Int.toNat (IntKind.wrap .i64 (x12 - (1 : Int)))) (List.getD l11 (Int.toNat x12) 0)) (IntKind.wrap .i64 (x12 + (1 : Int)))) else none) else none) else none) else none))) else none) else none) else (pi_.j1 kl1 x3 l11 x9))
def pi_.j3 (kj3 : Nat) (kl1 : List Int → Int → Int → Option (Bool × List Int)) (a2 : Int) (x9 : Int) (n0 : Nat ) (x3 : Int) (l10 : List Int) : Option (Bool × List Int) :=
 (if (decide ((IntKind.wrap .i64 (a2 - x9)) ≥ (2 : Int))) = true then (pi_.l2 kj3 kl1 a2 n0 x3 x9 l10 (IntKind.wrap .i64 (x9 + (1 : Int)))) else (pi_.j1 kl1 x3 l10 x9))
def pi_.l3 : Nat → (List Int → Int → Int → Option (Bool × List Int)) → Nat  → Int → Int → Int → List Int → Int → Option (Bool × List Int)
 | 0, _, _, _, _, _, _, _ => none
 | k3 + 1, kl1, n0, a2, x9, x3, l16, x17 =>
  (if (decide (x17 ≥ (1 : Int))) = true then (if 0 ≤ x17 ∧ x17 < (n0 : Int) then (if 0 ≤ (IntKind.wrap .i64 (x17 - (1 : Int))) ∧ (IntKind.wrap .i64 (x17 - (1 : Int))) < (n0 : Int) then (Option.bind (Less_uint32.f (List.getD l16 (Int.toNat x17) 0) (List.getD l16 (Int.toNat (IntKind.wrap .i64 (x17 - (1 : Int)))) 0)) fun r20 => (if (!r20) = true then (pi_.j3 k3 kl1 a2 x9 n0 x3 l16) else (if 0 ≤ (IntKind.wrap .i64 (x17 - (1 : Int))) ∧ (IntKind.wrap .i64 (x17 - (1 : Int))) < (n0 : Int) then (if 0 ≤ x17 ∧ x17 < (n0 : Int) then (if 0 ≤ x17 ∧ x17 < (n0 : Int) then (if 0 ≤ (IntKind.wrap .i64 (x17 - (1 : Int))) ∧ (IntKind.wrap .i64 (x17 - (1 : Int))) < (n0 : Int) then ((pi_.l3 k3 kl1 n0 a2 x9 x3) (List.set (List.set l16 (Int.toNat x17) (List.getD l16 (Int.toNat (IntKind.wrap .i64 (x17 - (1 : Int)))) 0)) (Int.toNat (IntKind.wrap .i64 (x17 - (1 : Int)))) (List.getD l16 (Int.toNat x17) 0)) (IntKind.wrap .i64 (x17 - (1 : Int)))) else none) else none) else none) else none))) else none) else none) else (pi_.j3 k3 kl1 a2 x9 n0 x3 l16))
def pi_.j2 (kj2 : Nat) (kl1 : List Int → Int → Int → Option (Bool × List Int)) (a2 : Int) (l1 : List Int) (a1 : Int) (n0 : Nat ) (x3 : Int) (x9 : Int) : Option (Bool × List Int) :=
 (if (x9 == a2) = true then (some (true, l1)) else (if (decide ((IntKind.wrap .i64 (a2 - a1)) < (50 : Int))) = true then (some (false, l1)) else (if 0 ≤ (IntKind.wrap .i64 (x9 - (1 : Int))) ∧ (IntKind.wrap .i64 (x9 - (1 : Int))) < (n0 : Int) then (if 0 ≤ x9 ∧ x9 < (n0 : Int) then (if 0 ≤ x9 ∧ x9 < (n0 : Int) then (if 0 ≤ (IntKind.wrap .i64 (x9 - (1 : Int))) ∧ (IntKind.wrap .i64 (x9 - (1 : Int))) < (n0 : Int) then (if (decide ((IntKind.wrap .i64 (x9 - a1)) ≥ (2 : Int))) = true then (pi_.l3 kj2 kl1 n0 a2 x9 x3 (List.set (List.set l1 (Int.toNat x9) (List.getD l1 (Int.toNat (IntKind.wrap .i64 (x9 - (1 : Int)))) 0)) (Int.toNat (IntKind.wrap .i64 (x9 - (1 : Int)))) (List.getD l1 (Int.toNat x9) 0)) (IntKind.wrap .i64 (x9 - (1 : Int)))) else (pi_.j3 kj2 kl1 a2 x9 n0 x3 (List.set (List.set l1 (Int.toNat x9) (List.getD l1 (Int.toNat (IntKind.wrap .i64 (x9 - (1 : Int)))) 0)) (Int.toNat (IntKind.wrap .i64 (x9 - (1 : Int)))) (List.getD l1 (Int.toNat x9) 0)))) else none) else none) else none) else none)))
def pi_.l4 : Nat → (List Int → Int → Int → Option (Bool × List Int)) → Int → Nat  → List Int → Int → Int → Int → Option (Bool × List Int)
 | 0, _, _, _, _, _, _, _ => none
 | k4 + 1, kl1, a2, n0, l1, a1, x3, x21 =>
  (if (decide (x21 < a2)) = true then (if 0 ≤ x21 ∧ x21 < (n0 : Int) then (if 0 ≤ (IntKind.wrap .i64 (x21 - (1 : Int))) ∧ (IntKind.wrap .i64 (x21 - (1 : Int))) < (n0 : Int) then (Option.bind (Less_uint32.f (List.getD l1 (Int.toNat x21) 0) (List.getD l1 (Int.toNat (IntKind.wrap .i64 (x21 - (1 : Int)))) 0)) fun r23 => (if (!r23) = true then ((pi_.l4 k4 kl1 a2 n0 l1 a1 x3) (IntKind.wrap .i64 (x21 + (1 : Int)))) else (pi_.j2 k4 kl1 a2 l1 a1 n0 x3 x21))) else none) else none) else (pi_.j2 k4 kl1 a2 l1 a1 n0 x3 x21))
def pi_.l1 : Nat → Int → Nat  → Int → List Int → Int → Int → Option (Bool × List Int)
 | 0, _, _, _, _, _, _ => none
 | k1 + 1, a2, n0, a1, l1, x2, x3 =>
  (if (decide (x3 < (5 : Int))) = true then (pi_.l4 k1 (pi_.l1 k1 a2 n0 a1) a2 n0 l1 a1 x3 x2) else (some (false, l1)))
def pi_.f (k : Nat) (n0 : Nat) (l0 : List Int) (a1 : Int) (a2 : Int) : Option (Bool × List Int) :=
 (pi_.l1 k a2 n0 a1 l0 (IntKind.wrap .i64 (a1 + (1 : Int))) (0 : Int))
def pe_.j2 (kl1 : List Int → Int → Int → Option (Int × List Int)) (x7 : Int) (l1 : List Int) (n0 : Nat ) (x8 : Int) : Option (Int × List Int) :=
 (if (decide (x7 > x8)) = true then (some (x7, l1)) else (if 0 ≤ x8 ∧ x8 < (n0 : Int) then (if 0 ≤ x7 ∧ x7 < (n0 : Int) then (if 0 ≤ x7 ∧ x7 < (n0 : Int) then (if 0 ≤ x8 ∧ x8 < (n0 : Int) then (kl1 (List.set (List.set l1 (Int.toNat x7) (List.getD l1 (Int.toNat x8) 0)) (Int.toNat x8) (List.getD l1 (Int.toNat x7) 0)) (IntKind.wrap .i64 (x7 + (1 : Int))) (IntKind.wrap .i64 (x8 - (1 : Int)))) else none) else none) else none) else none))
def pe_.l2 : Nat → (List Int → Int → Int → Option (Int × List Int)) → Int → Int → Nat  → List Int → Int → Option (Int × List Int)
 | 0, _, _, _, _, _, _ => none
 | k2 + 1, kl1, x7, a1, n0, l1, x9 =>
  (if (decide (x7 ≤ x9)) = true then (if 0 ≤ a1 ∧ a1 < (n0 : Int) then (if 0 ≤ x9 ∧ x9 < (n0 : Int) then (Option.bind (Less_uint32.f (List.getD l1 (Int.toNat a1) 0) (List.getD l1 (Int.toNat x9) 0)) fun r11 => (if r11 = true then ((pe_.l2 k2 kl1 x7 a1 n0 l1) (IntKind.wrap .i64 (x9 - (1 : Int)))) else (pe_.j2 kl1 x7 l1 n0 x9))) else none) else none) else (pe_.j2 kl1 x7 l1 n0 x9))
def pe_.j1 (kj1 : Nat) (kl1 : List Int → Int → Int → Option (Int × List Int)) (a1 : Int) (n0 : Nat ) (l1 : List Int) (x3 : Int) (x7 : Int) : Option (Int × List Int) :=
 (pe_.l2 kj1 kl1 x7 a1 n0 l1 x3)
def pe_.l3 : Nat → (List Int → Int → Int → Option (Int × List Int)) → Int → Int → Nat  → List Int → Int → Option (Int × List Int)
 | 0, _, _, _, _, _, _ => none
 | k3 + 1, kl1, x3, a1, n0, l1, x12 =>
  (if (decide (x12 ≤ x3)) = true then (if 0 ≤ a1 ∧ a1 < (n0 : Int) then (if 0 ≤ x12 ∧ x12 < (n0 : Int) then (Option.bind (Less_uint32.f (List.getD l1 (Int.toNat a1) 0) (List.getD l1 (Int.toNat x12) 0)) fun r14 => (if (!r14) = true then ((pe_.l3 k3 kl1 x3 a1 n0 l1) (IntKind.wrap .i64 (x12 + (1 : Int)))) else (pe_.j1 k3 kl1 a1 n0 l1 x3 x12))) else none) else none) else (pe_.j1 k3 kl1 a1 n0 l1 x3 x12))
def pe_.l1 : Nat → Int → Nat  → List Int → Int → Int → Option (Int × List Int)
 | 0, _, _, _, _, _ => none
 | k1 + 1, a1, n0, l1, x2, x3 =>
  (pe_.l3 k1 (pe_.l1 k1 a1 n0) x3 a1 n0 l1 x2)
def pe_.f (k : Nat) (n0 : Nat) (l0 : List Int) (a1 : Int) (a2 : Int) (a3 : Int) : Option (Int × List Int) :=
 (if 0 ≤ a3 ∧ a3 < (n0 : Int) then (if 0 ≤ a1 ∧ a1 < (n0 : Int) then (if 0 ≤ a1 ∧ a1 < (n0 : Int) then (if 0 ≤ a3 ∧ a3 < (n0 : Int) then (pe_.l1 k a1 n0 (List.set (List.set l0 (Int.toNat a1) (List.getD l0 (Int.toNat a3) 0)) (Int.toNat a3) (List.getD l0 (Int.toNat a1) 0)) (IntKind.wrap .i64 (a1 + (1 : Int))) (IntKind.wrap .i64 (a2 - (1 : Int)))) else none) else none) else none) else none)
def pt_.j4 (kl1 : List Int → Int → Int → Option (Int × Bool × List Int)) (x9 : Int) (a1 : Int) (n0 : Nat ) (l3 : List Int) (x10 : Int) : Option (Int × Bool × List Int) :=
 (if (decide (x9 > x10)) = true then (if 0 ≤ a1 ∧ a1 < (n0 : Int) then (if 0 ≤ x10 ∧ x10 < (n0 : Int) then (if 0 ≤ x10 ∧ x10 < (n0 : Int) then (if 0 ≤ a1 ∧ a1 < (n0 : Int) then (some (x10, false, (List.set (List.set l3 (Int.toNat x10) (List.getD l3 (Int.toNat a1) 0)) (Int.toNat a1) (List.getD l3 (Int.toNat x10) 0)))) else none) else none) else none) else none) else (if 0 ≤ x10 ∧ x10 < (n0 : Int) then (if 0 ≤ x9 ∧ x9 < (n0 : Int) then (if 0 ≤ x9 ∧ x9 < (n0 : Int) then (if 0 ≤ x10 ∧ x10 < (n0 : Int) then (kl1 (List.set (List.set l3 (Int.toNat x9) (List.getD l3 (Int.toNat x10) 0)) (Int.toNat x10) (List.getD l3 (Int.toNat x9) 0)) (IntKind.wrap .i64 (x9 + (1 : Int))) (IntKind.wrap .i64 (x10 - (1 : Int)))) else none) else none) else none) else none))
def pt_.l2 : Nat → (List Int → Int → Int → Option (Int × Bool × List Int)) → Int → Nat  → Int → List Int → Int → Option (Int × Bool × List Int)
 | 0, _, _, _, _, _, _ => none
 | k2 + 1, kl1, x9, n0, a1, l3, x11 =>
  (if (decide (x9 ≤ x11)) = true then (if 0 ≤ x11 ∧ x11 < (n0 : Int) then (if 0 ≤ a1 ∧ a1 < (n0 : Int) then (Option.bind (Less_uint32.f (List.getD l3 (Int.toNat x11) 0) (List.getD l3 (Int.toNat a1) 0)) fun r13 => (if (!r13) = true then ((pt_.l2 k2 kl1 x9 n0 a1 l3) (IntKind.wrap .i64 (x11 - (1 : Int)))) else (pt_.j4 kl1 x9 a1 n0 l3 x11))) else none) else none) else (pt_.j4 kl1 x9 a1 n0 l3 x11))
def pt_.j3 (kj3 : Nat) (kl1 : List Int → Int → Int → Option (Int × Bool × List Int)) (n0 : Nat ) (a1 : Int) (l3 : List Int) (x5 : Int) (x9 : Int) : Option (Int × Bool × List Int) :=
 (pt_.l2 kj3 kl1 x9 n0 a1 l3 x5)
def pt_.l3 : Nat → (List Int → Int → Int → Option (Int × Bool × List Int)) → Int → Nat  → Int → List Int → Int → Option (Int × Bool × List Int)
 | 0, _, _, _, _, _, _ => none
 | k3 + 1, kl1, x5, n0, a1, l3, x14 =>
  (if (decide (x14 ≤ x5)) = true then (if 0 ≤ x14 ∧ x14 < (n0 : Int) then (if 0 ≤ a1 ∧ a1 < (n0 : Int) then (Option.bind (Less_uint32.f (List.getD l3 (Int.toNat x14) 0) (List.getD l3 (Int.toNat a1) 0)) fun r16 => (if r16 = true then ((pt_.l3 k3 kl1 x5 n0 a1 l3) (IntKind.wrap .i64 (x14 + (1 : Int)))) else (pt_.j3 k3 kl1 n0 a1 l3 x5 x14))) else none) else none) else (pt_.j3 k3 kl1 n0 a1 l3 x5 x14))
def pt_.l1 : Nat → Nat  → Int → List Int → Int → Int → Option (Int × Bool × List Int)
 | 0, _, _, _, _, _ => none
 | k1 + 1, n0, a1, l3, x4, x5 =>
  (pt_.l3 k1 (pt_.l1 k1 n0 a1) x5 n0 a1 l3 x4)
def pt_.j2 (kj2 : Nat) (x1 : Int) (a1 : Int) (n0 : Nat ) (l0 : List Int) (a3 : Int) (x2 : Int) : Option (Int × Bool × List Int) :=
 (if (decide (x1 > x2)) = true then (if 0 ≤ a1 ∧ a1 < (n0 : Int) then (if 0 ≤ x2 ∧ x2 < (n0 : Int) then (if 0 ≤ x2 ∧ x2 < (n0 : Int) then (if 0 ≤ a1 ∧ a1 < (n0 : Int) then (some (x2, true, (List.set (List.set (List.set (List.set l0 (Int.toNat a1) (List.getD l0 (Int.toNat a3) 0)) (Int.toNat a3) (List.getD l0 (Int.toNat a1) 0)) (Int.toNat x2) (List.getD (List.set (List.set l0 (Int.toNat a1) (List.getD l0 (Int.toNat a3) 0)) (Int.toNat a3) (List.getD l0 (Int.toNat a1) 0)) (Int.toNat a1) 0)) (Int.toNat a1) (List.getD (List.set (List.set l0 (Int.toNat a1) (List.getD l0 (Int.toNat a3) 0)) (Int.toNat a3) (List.getD l0 (Int.toNat a1) 0)) (Int.toNat x2) 0)))) else none) else none) else none) else none) else (if 0 ≤ x2 ∧ x2 < (n0 : Int) then (if 0 ≤ x1 ∧ x1 < (n0 : Int) then (if 0 ≤ x1 ∧ x1 < (n0 : Int) then (if 0 ≤ x2 ∧ x2 < (n0 : Int) then (pt_.l1 kj2 n0 a1 (List.set (List.set (List.set (List.set l0 (Int.toNat a1) (List.getD l0 (Int.toNat a3) 0)) (Int.toNat a3) (List.getD l0 (Int.toNat a1) 0)) (Int.toNat x1) (List.getD (List.set (List.set l0 (Int.toNat a1) (List.getD l0 (Int.toNat a3) 0)) (Int.toNat a3) (List.getD l0 (Int.toNat a1) 0)) (Int.toNat x2) 0)) (Int.toNat x2) (List.getD (List.set (List.set l0 (Int.toNat a1) (List.getD l0 (Int.toNat a3) 0)) (Int.toNat a3) (List.getD l0 (Int.toNat a1) 0)) (Int.toNat x1) 0)) (IntKind.wrap .i64 (x1 + (1 : Int))) (IntKind.wrap .i64 (x2 - (1 : Int)))) else none) else none) else none) else none))
def pt_.l4 : Nat → Int → Nat  → Int → List Int → Int → Int → Option (Int × Bool × List Int)
 | 0, _, _, _, _, _, _ => none
 | k4 + 1, x1, n0, a1, l0, a3, x17 =>
  (if (decide (x1 ≤ x17)) = true then (if 0 ≤ x17 ∧ x17 < (n0 : Int) then (if 0 ≤ a1 ∧ a1 < (n0 : Int) then (Option.bind (Less_uint32.f (List.getD (List.set (List.set l0 (Int.toNat a1) (List.getD l0 (Int.toNat a3) 0)) (Int.toNat a3) (List.getD l0 (Int.toNat a1) 0)) (Int.toNat x17) 0) (List.getD (List.set (List.set l0 (Int.toNat a1) (List.getD l0 (Int.toNat a3) 0)) (Int.toNat a3) (List.getD l0 (Int.toNat a1) 0)) (Int.toNat a1) 0)) fun r19 => (if (!r19) = true then ((pt_.l4 k4 x1 n0 a1 l0 a3) (IntKind.wrap .i64 (x17 - (1 : Int)))) else (pt_.j2 k4 x1 a1 n0 l0 a3 x17))) else none) else none) else (pt_.j2 k4 x1 a1 n0 l0 a3 x17))
def pt_.j1 (kj1 : Nat) (n0 : Nat ) (a1 : Int) (l0 : List Int) (a3 : Int) (a2 : Int) (x1 : Int) : Option (Int × Bool × List Int) :=
 (pt_.l4 kj1 x1 n0 a1 l0 a3 (IntKind.wrap .i64 (a2 - (1 : Int))))
def pt_.l5 : Nat → Int → Nat  → Int → List Int → Int → Int → Option (Int × Bool × List Int)
 | 0, _, _, _, _, _, _ => none
 | k5 + 1, a2, n0, a1, l0, a3, x20 =>
  (if (decide (x20 ≤ (IntKind.wrap .i64 (a2 - (1 : Int))))) = true then (if 0 ≤ x20 ∧ x20 < (n0 : Int) then (if 0 ≤ a1 ∧ a1 < (n0 : Int) then (Option.bind (Less_uint32.f (List.getD (List.set (List.set l0 (Int.toNat a1) (List.getD l0 (Int.toNat a3) 0)) (Int.toNat a3) (List.getD l0 (Int.toNat a1) 0)) (Int.toNat x20) 0) (List.getD (List.set (List.set l0 (Int.toNat a1) (List.getD l0 (Int.toNat a3) 0)) (Int.toNat a3) (List.getD l0 (Int.toNat a1) 0)) (Int.toNat a1) 0)) fun r22 => (if r22 = true then ((pt_.l5 k5 a2 n0 a1 l0 a3) (IntKind.wrap .i64 (x20 + (1 : Int)))) else (pt_.j1 k5 n0 a1 l0 a3 a2 x20))) else none) else none) else (pt_.j1 k5 n0 a1 l0 a3 a2 x20))
def pt_.f (k : Nat) (n0 : Nat) (l0 : List Int) (a1 : Int) (a2 : Int) (a3 : Int) : Option (Int × Bool × List Int) :=
 (if 0 ≤ a3 ∧ a3 < (n0 : Int) then (if 0 ≤ a1 ∧ a1 < (n0 : Int) then (if 0 ≤ a1 ∧ a1 < (n0 : Int) then (if 0 ≤ a3 ∧ a3 < (n0 : Int) then (pt_.l5 k a2 n0 a1 l0 a3 (IntKind.wrap .i64 (a1 + (1 : Int)))) else none) else none) else none) else none)
def nextPowerOfTwo.f (a0 : Int) : Option (Int) :=
 (Option.bind (Len.f (IntKind.wrap .u64 a0)) fun r1 => (if 0 ≤ r1 then (lt (IntKind.wrap .u64 ((1 : Int) * 2 ^ min (Int.toNat r1) 64)) fun y2 => (some (y2))) else none))
def Next.f (x900 : Int) : Option (Int × Int) :=
 (lt (bitv .xor .u64 x900 (IntKind.wrap .u64 (x900 * 2 ^ 13))) fun x1 => (lt (bitv .xor .u64 x1 (Int.fdiv x1 (2 ^ 7))) fun x2 => (lt (bitv .xor .u64 x2 (IntKind.wrap .u64 (x2 * 2 ^ 17))) fun x3 => (some (x3, x3)))))
def bp_.j1 (kl1 : Int → List Int → Int → Option (List Int)) (a1 : Int) (n0 : Nat ) (x7 : Int) (r11 : Int × Int) (l6 : List Int) (x13 : Int) : Option (List Int) :=
 (if 0 ≤ (IntKind.wrap .i64 (a1 + x13)) ∧ (IntKind.wrap .i64 (a1 + x13)) < (n0 : Int) then (if 0 ≤ x7 ∧ x7 < (n0 : Int) then (if 0 ≤ x7 ∧ x7 < (n0 : Int) then (if 0 ≤ (IntKind.wrap .i64 (a1 + x13)) ∧ (IntKind.wrap .i64 (a1 + x13)) < (n0 : Int) then (kl1 r11.2 (List.set (List.set l6 (Int.toNat x7) (List.getD l6 (Int.toNat (IntKind.wrap .i64 (a1 + x13))) 0)) (Int.toNat (IntKind.wrap .i64 (a1 + x13))) (List.getD l6 (Int.toNat x7) 0)) (IntKind.wrap .i64 (x7 + (1 : Int)))) else none) else none) else none) else none)
def bp_.l1 : Nat → Int → Int → Int → Nat  → Int → List Int → Int → Option (List Int)
 | 0, _, _, _, _, _, _, _ => none
 | k1 + 1, a1, a2, r3, n0, x5, l6, x7 =>
  (if (decide (x7 ≤ (IntKind.wrap .i64 ((IntKind.wrap .i64 (a1 + (IntKind.wrap .i64 ((IntKind.wrap .i64 (Int.tdiv (IntKind.wrap .i64 (a2 - a1)) (4 : Int))) * (2 : Int))))) + (1 : Int))))) = true then (Option.bind (Next.f x5) fun r11 => (lt (IntKind.wrap .i64 (bitv .and .u64 r11.1 (IntKind.wrap .u64 (r3 - (1 : Int))))) fun y12 => (if (decide (y12 ≥ (IntKind.wrap .i64 (a2 - a1)))) = true then (lt (IntKind.wrap .i64 (y12 - (IntKind.wrap .i64 (a2 - a1)))) fun y14 => (bp_.j1 (bp_.l1 k1 a1 a2 r3 n0) a1 n0 x7 r11 l6 y14)) else (bp_.j1 (bp_.l1 k1 a1 a2 r3 n0) a1 n0 x7 r11 l6 y12)))) else (some (l6)))
def bp_.f (k : Nat) (n0 : Nat) (l0 : List Int) (a1 : Int) (a2 : Int) : Option (List Int) :=
 (if (decide ((IntKind.wrap .i64 (a2 - a1)) ≥ (8 : Int))) = true then (lt (IntKind.wrap .u64 (IntKind.wrap .i64 (a2 - a1))) fun x2 => (Option.bind (nextPowerOfTwo.f (IntKind.wrap .i64 (a2 - a1))) fun r3 => (lt (IntKind.wrap .i64 ((IntKind.wrap .i64 (a1 + (IntKind.wrap .i64 ((IntKind.wrap .i64 (Int.tdiv (IntKind.wrap .i64 (a2 - a1)) (4 : Int))) * (2 : Int))))) - (1 : Int))) fun y4 => (bp_.l1 k a1 a2 r3 n0 x2 l0 y4)))) else (some (l0)))
def pq_.j4 (kj4 : Nat) (rc : Nat → List Int → Int → Int → Int → Option (List Int)) (kl1 : List Int → Int → Int → Int → Bool → Bool → Option (List Int)) (n0 : Nat ) (l26 : List Int) (x7 : Int) (x8 : Int) (x24 : Int) (x21 : Int) : Option (List Int) :=
 (Option.bind (pt_.f kj4 n0 l26 x7 x8 x24) fun r27 => (lt (IntKind.wrap .i64 (r27.1 - x7)) fun y28 => (lt (IntKind.wrap .i64 (x8 - r27.1)) fun y29 => (lt (IntKind.wrap .i64 (Int.tdiv (IntKind.wrap .i64 (x8 - x7)) (8 : Int))) fun y30 => (if (decide (y28 < y29)) = true then (Option.bind (rc n0 r27.2.2 x7 r27.1 x21) fun r31 => (lt (IntKind.wrap .i64 (r27.1 + (1 : Int))) fun y32 => (kl1 r31 y32 x8 x21 (decide (y28 ≥ y30)) r27.2.1))) else (Option.bind (rc n0 r27.2.2 (IntKind.wrap .i64 (r27.1 + (1 : Int))) x8 x21) fun r33 => (kl1 r33 x7 r27.1 x21 (decide (y29 ≥ y30)) r27.2.1)))))))
def pq_.j3 (kj3 : Nat) (rc : Nat → List Int → Int → Int → Int → Option (List Int)) (kl1 : List Int → Int → Int → Int → Bool → Bool → Option (List Int)) (x7 : Int) (n0 : Nat ) (x24 : Int) (x8 : Int) (x21 : Int) (b10 : Bool) (b11 : Bool) (l26 : List Int) : Option (List Int) :=
 (if (decide (x7 > (0 : Int))) = true then (if 0 ≤ (IntKind.wrap .i64 (x7 - (1 : Int))) ∧ (IntKind.wrap .i64 (x7 - (1 : Int))) < (n0 : Int) then (if 0 ≤ x24 ∧ x24 < (n0 : Int) then (Option.bind (Less_uint32.f (List.getD l26 (Int.toNat (IntKind.wrap .i64 (x7 - (1 : Int)))) 0) (List.getD l26 (Int.toNat x24) 0)) fun r34 => (if (!r34) = true then (Option.bind (pe_.f kj3 n0 l26 x7 x8 x24) fun r35 => (kl1 r35.2 r35.1 x8 x21 b10 b11)) else (pq_.j4 kj3 rc kl1 n0 l26 x7 x8 x24 x21))) else none) else none) else (pq_.j4 kj3 rc kl1 n0 l26 x7 x8 x24 x21))
def pq_.j2 (kj2 : Nat) (rc : Nat → List Int → Int → Int → Int → Option (List Int)) (kl1 : List Int → Int → Int → Int → Bool → Bool → Option (List Int)) (b10 : Bool) (b11 : Bool) (n0 : Nat ) (x7 : Int) (x8 : Int) (x21 : Int) (l23 : List Int) (x24 : Int) (x25 : Int) : Option (List Int) :=
 (if b10 = true then (if b11 = true then (if (x25 == (1 : Int)) = true then (Option.bind (pi_.f kj2 n0 l23 x7 x8) fun r36 => (if r36.1 = true then (some (r36.2)) else (pq_.j3 kj2 rc kl1 x7 n0 x24 x8 x21 b10 b11 r36.2))) else (pq_.j3 kj2 rc kl1 x7 n0 x24 x8 x21 b10 b11 l23)) else (pq_.j3 kj2 rc kl1 x7 n0 x24 x8 x21 b10 b11 l23)) else (pq_.j3 kj2 rc kl1 x7 n0 x24 x8 x21 b10 b11 l23))
def pq_.j1 (kj1 : Nat) (rc : Nat → List Int → Int → Int → Int → Option (List Int)) (kl1 : List Int → Int → Int → Int → Bool → Bool → Option (List Int)) (x7 : Int) (x8 : Int) (n0 : Nat ) (b10 : Bool) (b11 : Bool) (l20 : List Int) (x21 : Int) : Option (List Int) :=
 (Option.bind (cp_.f l20 x7 x8) fun r22 => (if (r22.2 == (2 : Int)) = true then (Option.bind (rr_.f kj1 n0 l20 x7 x8) fun r37 => (lt (IntKind.wrap .i64 ((IntKind.wrap .i64 (x8 - (1 : Int))) - (IntKind.wrap .i64 (r22.1 - x7)))) fun y38 => (pq_.j2 kj1 rc kl1 b10 b11 n0 x7 x8 x21 r37 y38 (1 : Int)))) else (pq_.j2 kj1 rc kl1 b10 b11 n0 x7 x8 x21 l20 r22.1 r22.2)))
def pq_.l1 : Nat → (Nat → List Int → Int → Int → Int → Option (List Int)) → Nat  → List Int → Int → Int → Int → Bool → Bool → Option (List Int)
 | 0, _, _, _, _, _, _, _, _ => none
 | k1 + 1, rc, n0, l6, x7, x8, x9, b10, b11 =>
  (if (decide ((IntKind.wrap .i64 (x8 - x7)) ≤ (12 : Int))) = true then (Option.bind (is_.f k1 n0 l6 x7 x8) fun r18 => (some (r18))) else (if (x9 == (0 : Int)) = true then (Option.bind (hs_.f k1 n0 l6 x7 x8) fun r19 => (some (r19))) else (if (!b10) = true then (Option.bind (bp_.f k1 n0 l6 x7 x8) fun r39 => (pq_.j1 k1 rc (pq_.l1 k1 rc n0) x7 x8 n0 b10 b11 r39 (IntKind.wrap .i64 (x9 - (1 : Int))))) else (pq_.j1 k1 rc (pq_.l1 k1 rc n0) x7 x8 n0 b10 b11 l6 x9))))
def pq_.f : Nat → Nat → List Int → Int → Int → Int → Option (List Int)
 | 0, _, _, _, _, _ => none
 | k + 1, n0, l0, a1, a2, a3 =>
  (pq_.l1 k (pq_.f k) n0 l0 a1 a2 a3 true true)
def st_.f (k : Nat) (n0 : Nat) (l0 : List Int) : Option (List Int) :=
 (Option.bind (Len.f (IntKind.wrap .u64 (n0 : Int))) fun r1 => (Option.bind (pq_.f k n0 l0 (0 : Int) (n0 : Int) r1) fun r2 => (some (r2))))
end Go.Proofs.YticnjkdaccacaaaGreat.QS
end
