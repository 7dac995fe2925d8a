/- Slices of rows of the call's own: cut, appended to in place, cleared behind their end; calls of functions that have caught something. -/
import Derived.Test.YticnjkdaccacaaaDoorMr
import Derived.Laws.IdiomCopy
namespace Go.Proofs.YticnjkdaccacaaaDoor.Sx
open Go Go.RowKit Base Own

section
variable {P : Program} {T : Orc} {ops : Array Oper} {Q : Exit → Act → World → Prop} {S' : World → Prop} {Df : List Deferred} {N : Nat} {a : Act} {w w0 : World} {L : Env} {R : List Asn} {k : IntKind}
theorem sl_mid (t e : TypeId) (kl kh : IntKind) (ht : P.underlying t = some (.slice e)) (hi : (P.info? e).map (·.size) = some 1) (A : Option Addr) (n c l h : Nat) (xl xh : Int) (el : xl = l) (eh : xh = h) (h1 : l ≤ h) (h2 : h ≤ c) :
    ∀ W : World, (Instr.slice t (.slice A n c) (some (.int kl xl)) (some (.int kh xh)) none).run P W = .ok (.slice (dropA A c l) (h - l) (c - l)) W := by
  intro W
  subst el eh
  cases hq : P.info? e with
  | none => simp [hq] at hi
  | some i =>
    have hs : i.size = 1 := by simpa [hq] using hi
    simp only [Instr.slice, Sem.run_bind, run_underlying ht, Result.andThen_ok, Instr.sliceBounds, Instr.sliceBound, asIntOf, Sem.run_pure, Option.isSome]
    rw [if_pos ⟨by omega, by omega⟩]
    simp [sizeOf, typeInfo, hq, hs, dropA, h1]
/-- A slice of a slice, by the run that the operation asks for. -/
theorem slice_run (hT : T.Ok P) (fr : FrD Df N a L) {o : Oper} {t : TypeId} {x : Operand} {lo hi mx : Option Operand} {vlo vhi vmx : Option Value} (ho : o.op = .slice t x lo hi mx) {v : Value} {e : Nat} {A : Option Addr} {n c : Nat} (hx : ev L x = some (.slice A n c))
    (h1 : lo.map a.eval = vlo) (h2 : hi.map a.eval = vhi) (h3 : mx.map a.eval = vmx) (ht : T.ty.lookup t = some (.slice e)) (hr : ∀ w, (Instr.slice t (.slice A n c) vlo vhi vmx).run P w = .ok v w) (w : World) : (execOp a.eval o).run P w = .ok (.value v) w := by
  unfold execOp
  simp only [ho, (fr.ev hx).1, h1, h2, h3, Instr.sliceAt]
  rw [Sem.run_bind, Sem.run_bind, run_underlying (hT.und ht), Result.andThen_ok]
  simp only
  rw [hr]
  rfl
theorem andThen_ok' {α β : Type} {x : Result α} {f : α → World → Result β} {v : β} {w' : World} (h : x.andThen f = .ok v w') : ∃ u w1, x = .ok u w1 ∧ f u w1 = .ok v w' := by
  cases x with
  | ok u w1 => exact ⟨u, w1, rfl, h⟩
  | halt hl w1 => cases h
/-- What is appended where there is room stands behind, in the same row. -/
theorem app_in_exec {t e : TypeId} (RT : RowTy P t e k) (fr : FrD Df N a L) {o : Oper} {x y : Operand} {A Y : Option Addr} {n m c cy : Nat} {l news : List Int} (ho : o.op = .call { callee := .builtin .append, args := #[x, y], argTypes := #[t, t] }) (hx : ev L x = some (.slice A n c)) (hn : n = l.length) (hy : ev L y = some (.slice Y m cy)) (hm : m = news.length)
    (hr : Rk k w Y news) (hb : l.length + news.length ≤ c) (hb2 : (l.length : Int) + (news.length : Int) ≤ 17592186044416) (S : Sat w0 w (ownA k e A c l :: R)) :
    ∃ w', (execOp a.eval o).run P w = .ok (.value (.slice A (l ++ news).length c)) w' ∧ vok (.slice A (l ++ news).length c) = true ∧ Sat w0 w' (ownA k e A c (l ++ news) :: R) := by
  subst hn hm
  obtain ⟨F, ⟨h1, h2, h3⟩, hF, hk⟩ := S.opened
  obtain ⟨bytes, hle, hinfo⟩ := RT.hi
  have hmul : (l.length + news.length) * bytes ≤ (l.length + news.length) * 8 := Nat.mul_le_mul_left _ hle
  obtain ⟨v', w', hrun, h4, h5, h6⟩ := ap_run (P := P) t o.type (.int k 0) bytes RT.ht hinfo rfl h1 Y news.length cy news rfl hr.rd (fun e => by rw [hr.rd.empty e]; rfl) (by unfold maxLen; omega) (by omega) S.below.size
  have hv' : v' = .slice A (l ++ news).length c := by
    obtain ⟨i, hi, hzz⟩ := Option.map_eq_some_iff.1 hinfo
    have hrun' := hrun
    unfold Builtin.append_ at hrun'
    simp only [List.getElem?_toArray, List.getElem?_cons_zero, List.getElem?_cons_succ] at hrun'
    rw [Sem.run_bind, run_underlying RT.ht, Result.andThen_ok] at hrun'
    simp only at hrun'
    rw [Sem.run_bind] at hrun'
    obtain ⟨u, w1, q1, hrun'⟩ := andThen_ok' hrun'
    rw [Sem.run_bind] at hrun'
    obtain ⟨z, w2, q2, hrun'⟩ := andThen_ok' hrun'
    rw [run_underlying RT.ht] at q2
    injection q2 with q2 _
    subst q2
    rw [Sem.run_bind] at hrun'
    obtain ⟨zz, w3, q3, hrun'⟩ := andThen_ok' hrun'
    have hzz : zz = false := by injection q3 with q3; exact q3.symm
    subst hzz
    simp only [Bool.false_eq_true, if_false] at hrun'
    rw [Sem.run_bind] at hrun'
    obtain ⟨nn, w3', q4, hrun'⟩ := andThen_ok' hrun'
    have hnn : nn = news.length := by injection q4 with q4; exact q4.symm
    subst hnn
    rw [if_pos hb, Sem.run_bind] at hrun'
    obtain ⟨cs, w4, q5, hrun'⟩ := andThen_ok' hrun'
    have hl : (l ++ news).length = l.length + news.length := List.length_append
    rw [hl]
    cases A with
    | none => injection hrun' with hrun'; exact hrun'.symm
    | some ad =>
      simp only at hrun'
      rw [Sem.run_bind] at hrun'
      obtain ⟨_, w5, q6, hrun'⟩ := andThen_ok' hrun'
      injection hrun' with hrun'; exact hrun'.symm
  subst hv'
  obtain ⟨A', c', e', h7, h8, _, _⟩ := h4.slice
  injection e' with e1 e2 e3
  subst e3
  refine ⟨w', ?_, vok_sl ⟨h7, h8⟩, ?_⟩
  · unfold execOp
    simp only [ho, resolve]
    rw [Sem.run_bind, Sem.run_pure, Result.andThen_ok]
    simp only [invoke, builtin, List.map_toArray, List.map_cons, List.map_nil, (fr.ev hx).1, (fr.ev hy).1]
    rw [Sem.run_bind, hrun]; rfl
  · refine hk (A' := ownA k e A c (l ++ news)) (F' := F) (G := fun g => F g) ⟨h4, fun z hz => ?_, fun g => ?_⟩ ?_ (fun g _ hg => hg) fun g hg => .inl hg
    · rcases List.mem_append.1 hz with hz | hz
      · exact h2 z hz
      · exact hr.wf z hz
    · rw [h3 g]; cases A <;> rfl
    · refine (Chg.of_grown h5).mono fun g _ hg => (h3 g).2 hg.symm
theorem row_setCells {e : TypeId} (b : Nat) : ∀ (vs : List Value) (o : Nat) (w : World) (cur : Array Value), w.heap[b]? = some (.cells cur e (0, 0)) → ∃ cur', (w.setCells b o vs).heap[b]? = some (.cells cur' e (0, 0)) ∧ cur'.size = cur.size ∧ (∀ m, m ≤ o → cur'.toList.take m = cur.toList.take m) ∧ Chg (fun g => g = b) w (w.setCells b o vs) := by
  intro vs
  induction vs with
  | nil => intro o w cur h; exact ⟨cur, h, rfl, fun _ _ => rfl, Chg.refl _ _⟩
  | cons v vs ih =>
    intro o w cur h
    have h1 := heap_setCell_same w b o cur e v h
    obtain ⟨cur', q1, q2, q3, q4⟩ := ih (o + 1) (w.setCell ⟨b, o, none⟩ v) _ h1
    refine ⟨cur', q1, ?_, fun m hm => ?_, (Chg.setCell w ⟨b, o, none⟩ v).trans q4 fun _ _ h => h⟩
    · rw [q2]; simp
    · rw [q3 m (by omega)]
      simp [List.take_set_of_le, hm]
theorem sl_appin {t e : TypeId} (RT : RowTy P t e k) {s : SOp} {rest : List Itm} {d : Nat} {x y : Operand} {A Y : Option Addr} {n m c cy : Nat} {l news : List Int} (fr : FrD Df N a L) (hw : wantS L s = some true) (hq : s.q = false) (hd : s.dst = some d) (hlt : Nat.blt d N = true) (ho : s.op = .call { callee := .builtin .append, args := #[x, y], argTypes := #[t, t] }) (hx : ev L x = some (.slice A n c)) (hn : n = l.length) (hy : ev L y = some (.slice Y m cy)) (hm : m = news.length)
    (hr : Rk k w Y news) (hb : l.length + news.length ≤ c) (hb2 : (l.length : Int) + (news.length : Int) ≤ 17592186044416) (S : Sat w0 w (ownA k e A c l :: R))
    (h : ∀ w', Sat w0 w' (ownA k e A c (l ++ news) :: R) → S' w' ∧ ∀ a', FrD Df N a' ((d, .slice A (l ++ news).length c) :: L) → SL P Q S' rest a' w') : SL P Q S' (.one s :: rest) a w := by
  obtain ⟨w', h1, h2, h3⟩ := app_in_exec (P := P) RT fr (o := s.oper) ho hx hn hy hm hr hb hb2 S
  exact sl_val fr hw hq hd hlt h1 (h w' h3).1 h2 (h w' h3).2
theorem Sat.takeTo {e : TypeId} {A : Option Addr} {c : Nat} {l : List Int} (S : Sat w0 w (ownA k e A c l :: R)) (n : Nat) : Sat w0 w (ownA k e A c (l.take n) :: R) := by
  by_cases hn : n ≤ l.length
  · obtain ⟨F, ⟨h1, h2, h3⟩, hF, hk⟩ := S.opened
    have hl : (l.take n).length = n := by rw [List.length_take]; omega
    refine hk (A' := ownA k e A c (l.take n)) (F' := F) (G := fun _ => False) ⟨?_, fun z hz => h2 z (List.mem_of_mem_take hz), fun g => ?_⟩ (Chg.refl _ _) (fun _ _ h => h.elim) fun g hg => .inl hg
    · rcases h1.2 with ⟨e1, e2⟩ | ⟨g, cap, cur, e1, hB, hg, h4, h5, h6, h7⟩
      · injection e1 with e3 e4 e5
        subst e3 e5
        have : l = [] := List.eq_nil_of_length_eq_zero e2
        subst this
        simp only [List.take_nil]
        exact OwnI.nil k w _ e
      · injection e1 with e3 e4 e5
        subst e3 e5
        refine ⟨by simp, .inr ⟨g, c, cur, rfl, hB, hg, by omega, h5, h6, ?_⟩⟩
        have h8 := congrArg (List.take n) h7
        rw [List.take_take] at h8
        rw [hl, List.map_take, ← h8]
        congr 1
        omega
    · rw [h3 g]
      cases A <;> simp [Value.ownBlock]
  · rw [List.take_of_length_le (by omega)]; exact S
/-- Numbers behind the end of a row are cleared. -/
theorem clear_exec {t e : TypeId} (RT : RowTy P t e k) (fr : FrD Df N a L) {o : Oper} {x : Operand} {A : Option Addr} {j n c : Nat} {l : List Int} (ho : o.op = .call { callee := .builtin .clear, args := #[x], argTypes := #[t] }) (hx : ev L x = some (.slice (dropA A c j) n (c - j))) (hj : l.length ≤ j) (hn : j + n ≤ c) (h0 : 0 < n)
    (S : Sat w0 w (ownA k e A c l :: R)) : ∃ w', (execOp a.eval o).run P w = .ok (.value (.tuple #[])) w' ∧ Sat w0 w' (ownA k e A c l :: R) := by
  obtain ⟨F, ⟨h1, h2, h3⟩, hF, hk⟩ := S.opened
  obtain ⟨bytes, hle, hinfo⟩ := RT.hi
  obtain ⟨i, hi, hzz⟩ := Option.map_eq_some_iff.1 hinfo
  simp only [Prod.mk.injEq] at hzz
  obtain ⟨hz0, hs, hby⟩ := hzz
  have hzv : ∀ W, (zeroValue e).run P W = .ok (.int k 0) W := fun W => by
    unfold zeroValue typeInfo
    simp [Sem.run_bind, hi, hz0, Result.andThen]
  rcases h1.2 with ⟨e1, e2⟩ | ⟨g, cap, cur, e1, hB, hg, h4, h5, h6, h7⟩
  · injection e1 with e3 e4 e5
    omega
  · injection e1 with e3 e4 e5
    subst e3 e5
    have hd : dropA (some (⟨g, 0, none⟩ : Addr)) c j = some ⟨g, j, none⟩ := by
      unfold dropA
      rw [if_neg (by omega)]
      simp [Addr.add]
      omega
    rw [hd] at hx
    have hcell : ∀ q, q < n → (w.cell? ⟨g, j + 0 + q, none⟩).isSome = true := fun q hq => by
      rw [cell_of_row _ _ _ _ _ _ hg, Array.getElem?_eq_getElem (by omega)]; rfl
    have hfz : ∀ q, q < n → w.frozen? ⟨g, j + 0 + q, none⟩ = false := fun q _ => frozen_of_row w g _ _ _ hg
    have hzc : (Builtin.zeroCells (Value.int k 0).cells n).toList = List.replicate n (.int k 0) := by
      unfold Builtin.zeroCells
      apply List.ext_getElem
      · simp [Value.cells]
      · intro q h1' h2'
        simp [Value.cells, Nat.mod_one]
    have hst := run_storeCells_cells (P := P) g j (List.replicate n (.int k 0)) 0 w (by simpa using hcell) (by simpa using hfz) (fun v hv => by rw [List.eq_of_mem_replicate hv]; rfl)
    refine ⟨w.setCells g (j + 0) (List.replicate n (.int k 0)), ?_, ?_⟩
    · unfold execOp
      simp only [ho, resolve]
      rw [Sem.run_bind, Sem.run_pure, Result.andThen_ok]
      simp only [invoke, builtin, List.map_toArray, List.map_cons, List.map_nil, (fr.ev hx).1]
      rw [Sem.run_bind]
      unfold Builtin.clear_
      simp only [List.getElem?_toArray, List.getElem?_cons_zero, List.getElem?_cons_succ]
      rw [Sem.run_bind, run_underlying RT.ht, Result.andThen_ok]
      cases n with
      | zero => omega
      | succ n =>
        simp only
        rw [Sem.run_bind, hzv, Result.andThen_ok, hzc, Sem.run_bind, hst]
        rfl
    · obtain ⟨cur', q1, q2, q3, q4⟩ := row_setCells (e := e) g (List.replicate n (.int k 0)) (j + 0) w cur hg
      refine hk (A' := ownA k e (some ⟨g, 0, none⟩) c l) (F' := F) (G := fun b => b = g) ⟨⟨by simp, .inr ⟨g, c, cur', rfl, hB, q1, h4, h5, by omega, ?_⟩⟩, h2, h3⟩ q4 (fun b _ hb => (h3 b).2 (by rw [hb]; rfl)) fun b hb => .inl hb
      rw [q3 _ (by omega)]; exact h7
/-- A variable is boxed. -/
theorem wl_boxv {o : Oper} {rest : List Oper} {t : TypeId} {x : Operand} {d : Nat} {v : Value} (fr : FrD Df N a L) (hw : wantL ops L o = some true) (hd : o.dst = some d) (hlt : Nat.blt d N = true) (ho : o.op = .box t x) (hx : ev L x = some v) (hc : v.cells = #[v]) (S : Sat w0 w R)
    (h : ∀ w' b, Sat w0 w' (stA t b [v] :: R) → ∀ a', FrD Df N a' ((d, .pointer (some ⟨b, 0, none⟩)) :: L) → wpList P ops Q rest a' w') : wpList P ops Q (o :: rest) a w := by
  refine wl_val (v := .pointer (some ⟨w.heap.size, 0, none⟩)) (w' := w.alloc (.cells #[v] t)) fr hw hd hlt ?_ rfl (h _ _ ?_)
  · have e := (fr.ev hx).1
    unfold execOp
    simp only [ho, e]
    have hr : (Instr.box t v).run P w = .ok (.pointer (some ⟨w.heap.size, 0, none⟩)) (w.alloc (.cells v.cells t)) := rfl
    rw [Sem.run_bind, hr, hc]
    rfl
  · exact S.add (F := fun g => g = w.heap.size) ((Below.refl _ _).alloc (Nat.le_refl _) _) ⟨heap_alloc_new _ _, by rw [List.all_cons, List.all_nil, Bool.and_true]; exact (fr.ev hx).2, S.below.size, fun g => Iff.rfl⟩ fun g hg => Nat.le_of_eq hg.symm
/-- A function value that has caught something. -/
theorem wl_makef {o : Oper} {rest : List Oper} {d : Nat} {g : FuncId} {cs : Array Operand} {xs : List Value} (fr : FrD Df N a L) (hw : wantL ops L o = some true) (hd : o.dst = some d) (hlt : Nat.blt d N = true) (ho : o.op = .makeFunc (.func g) #[] cs) (hx : evs L cs.toList = some xs)
    (h : ∀ a', FrD Df N a' ((d, .func (.func g) #[] xs.toArray) :: L) → wpList P ops Q rest a' w) : wpList P ops Q (o :: rest) a w := by
  refine wl_val (v := .func (.func g) #[] xs.toArray) fr hw hd hlt ?_ rfl h
  have e : cs.map a.eval = xs.toArray := by
    apply Array.toList_inj.1
    rw [Array.toList_map, (evs_run fr hx).1]
  unfold execOp
  simp only [ho, e]
  rw [Sem.run_bind, Array.map_empty]
  rfl
/-- A call through such a value. -/
theorem wl_callc {o : Oper} {rest : List Oper} {d : Nat} {g : FuncId} {x : Operand} {xs : List Value} {lb : Array Value} {c : Call} {E : Ending → World → Prop} (fr : FrD Df N a L) (hw : wantL ops L o = some true) (hd : o.dst = some d) (hlt : Nat.blt d N = true) (ho : o.op = .call c) (hc : c.callee = .value x) (hx : ev L x = some (.func (.func g) #[] lb)) (hxs : evs L c.args.toList = some xs) (hin : Enters P g) (hcon : Calls P g (xs.toArray ++ lb) w E)
    (h : ∀ e w', E e w' → ∃ v, e = .returned v ∧ vok v = true ∧ ∀ a', FrD Df N a' ((d, v) :: L) → wpList P ops Q rest a' w') : wpList P ops Q (o :: rest) a w := by
  have e : c.args.map a.eval = xs.toArray := by
    apply Array.toList_inj.1
    rw [Array.toList_map, (evs_run fr hxs).1]
  have hrun : (execOp a.eval o).run P w = .ok (.enter g (xs.toArray ++ lb)) w := by
    unfold execOp
    simp only [ho, resolve, hc, (fr.ev hx).1, Deferred.ofValue]
    rw [Sem.run_bind, Sem.run_pure, Result.andThen_ok]
    simp only [invoke]
    have e3 := hin (xs.toArray ++ lb) w
    rw [← e] at e3 ⊢
    simpa using e3
  refine wl_op fr hw fun K hK => wp_call hrun (hcon.mono fun e' w' hR => ?_)
  obtain ⟨v, he, hv, hk⟩ := h e' w' hR
  exact ⟨v, he, hK _ _ (by rw [hd]; exact hk _ (fr.put (blt_lt hlt) hv))⟩
theorem wl_val0 {o : Oper} {rest : List Oper} {v : Value} {w' : World} (fr : FrD Df N a L) (hw : wantL ops L o = some true) (hd : o.dst = none) (hrun : (execOp a.eval o).run P w = .ok (.value v) w') (h : wpList P ops Q rest a w') : wpList P ops Q (o :: rest) a w :=
  wl_op fr hw fun K' hK => wp_value hrun (hK _ _ (by rw [hd]; exact h))
theorem dropq_run (hT : T.Ok P) {o : Oper} {t : TypeId} {x y : Operand} {A : Option Addr} {l : List Int} {n c e : Nat} {ki : IntKind} {i : Int} (fr : FrD Df N a L) (ho : o.op = .slice t x (some y) none none)
    (hx : ev L x = some (.slice A n c)) (hy : ev L y = some (.int ki i)) (ht : T.ty.lookup t = some (.slice e)) (hi : (P.info? e).map (·.size) = some 1) (hn : n = l.length) (hb : 0 ≤ i ∧ i ≤ (l.length : Int)) :
    (∀ w, (execOp a.eval o).run P w = .ok (.value (.slice (dropA A c i.toNat) (l.drop i.toNat).length (c - i.toNat))) w) ∧ vok (.slice (dropA A c i.toNat) (l.drop i.toNat).length (c - i.toNat)) = true := by
  subst hn
  have hv := (fr.ev hx).2
  have hv2 : l.length ≤ c ∧ c ≤ maxLen := by simpa [vok, vokC, vok1] using hv
  have hl : (l.drop i.toNat).length = l.length - i.toNat := List.length_drop
  rw [hl]
  refine ⟨fun w => slice_run hT fr ho hx (vlo := some (.int ki (i.toNat : Int))) (vhi := none) (vmx := none) (by rw [show ((i.toNat : Nat) : Int) = i by omega]; exact congrArg some (fr.ev hy).1) rfl rfl ht (sl_drop _ e ki (hT.und ht) hi A l.length c i.toNat (by omega)) w, vok_sl ⟨by omega, by omega⟩⟩
theorem wl_drop (hT : T.Ok P) {o : Oper} {rest : List Oper} {t : TypeId} {x y : Operand} {d : Nat} {A : Option Addr} {l : List Int} {n c e : Nat} {ki : IntKind} {i : Int} (fr : FrD Df N a L) (hw : wantL ops L o = some true) (ho : o.op = .slice t x (some y) none none) (hd : o.dst = some d) (hlt : Nat.blt d N = true)
    (hx : ev L x = some (.slice A n c)) (hy : ev L y = some (.int ki i)) (ht : T.ty.lookup t = some (.slice e)) (hi : (P.info? e).map (·.size) = some 1) (hn : n = l.length) (hb : 0 ≤ i ∧ i ≤ (l.length : Int))
    (h : ∀ a', FrD Df N a' ((d, .slice (dropA A c i.toNat) (l.drop i.toNat).length (c - i.toNat)) :: L) → wpList P ops Q rest a' w) : wpList P ops Q (o :: rest) a w :=
  wl_val fr hw hd hlt ((dropq_run hT fr ho hx hy ht hi hn hb).1 w) (dropq_run hT fr ho hx hy ht hi hn hb).2 h
theorem sl_dropq (hT : T.Ok P) {s : SOp} {rest : List Itm} {t : TypeId} {x y : Operand} {d : Nat} {A : Option Addr} {l : List Int} {n c e : Nat} {ki : IntKind} {i : Int} (fr : FrD Df N a L) (hw : wantS L s = some true) (hq : s.q = true) (ho : s.op = .slice t x (some y) none none) (hd : s.dst = some d) (hlt : Nat.blt d N = true)
    (hx : ev L x = some (.slice A n c)) (hy : ev L y = some (.int ki i)) (ht : T.ty.lookup t = some (.slice e)) (hi : (P.info? e).map (·.size) = some 1) (hn : n = l.length) (hb : 0 ≤ i ∧ i ≤ (l.length : Int))
    (h : ∀ a', FrD Df N a' ((d, .slice (dropA A c i.toNat) (l.drop i.toNat).length (c - i.toNat)) :: L) → SL P Q S' rest a' w) : SL P Q S' (.one s :: rest) a w :=
  sl_q fr hw hq hd hlt (fun w _ => (dropq_run hT fr (o := s.oper) ho hx hy ht hi hn hb).1 w) (dropq_run hT fr (o := s.oper) ho hx hy ht hi hn hb).2 h
theorem sl_takeq (hT : T.Ok P) {s : SOp} {rest : List Itm} {t : TypeId} {x y : Operand} {d : Nat} {A : Option Addr} {l : List Int} {n c e sz : Nat} {ki : IntKind} {i : Int} (fr : FrD Df N a L) (hw : wantS L s = some true) (hq : s.q = true) (ho : s.op = .slice t x none (some y) none) (hd : s.dst = some d) (hlt : Nat.blt d N = true)
    (hx : ev L x = some (.slice A n c)) (hy : ev L y = some (.int ki i)) (ht : T.ty.lookup t = some (.slice e)) (hs : T.sz.lookup e = some sz) (hn : n = l.length) (hb : 0 ≤ i ∧ i ≤ (l.length : Int))
    (h : ∀ a', FrD Df N a' ((d, .slice A (l.take i.toNat).length c) :: L) → SL P Q S' rest a' w) : SL P Q S' (.one s :: rest) a w := by
  subst hn
  have hv := (fr.ev hx).2
  have hv2 : l.length ≤ c ∧ c ≤ maxLen := by simpa [vok, vokC, vok1] using hv
  have hl : (l.take i.toNat).length = i.toNat := by rw [List.length_take]; omega
  exact sl_q fr hw hq hd hlt (fun w _ => take_run hT fr (o := s.oper) ho hx hy ht hs ⟨hb.1, by omega⟩ w) (vok_sl ⟨by omega, hv2.2⟩) fun a' fr' => h a' (by rw [hl]; exact fr')
end
end Go.Proofs.YticnjkdaccacaaaDoor.Sx
