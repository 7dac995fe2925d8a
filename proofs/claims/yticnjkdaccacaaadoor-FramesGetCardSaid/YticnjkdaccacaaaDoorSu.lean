/- Steps of a walk over structs behind pointers, and maps. -/
import Derived.Test.YticnjkdaccacaaaDoorMap
namespace Go.Proofs.YticnjkdaccacaaaDoor.Sx
open Go Go.RowKit Base Own

/-! ### A struct in a block of its own -/
def stA (e b : Nat) (cs : List Value) : Asn where
  holds := fun w B F => w.heap[b]? = some (.cells cs.toArray e (0, 0)) ∧ cs.all vok = true ∧ B ≤ b ∧ ∀ g, F g ↔ g = b
  keep := fun ⟨h1, h2, h3, h4⟩ hc hF _ => ⟨by rw [hc.block _ (Array.getElem?_eq_some_iff.1 h1).1 (hF _ ((h4 _).2 rfl))]; exact h1, h2, h3, h4⟩
  dom := fun ⟨h1, _, h3, h4⟩ g hg => by rw [h4 g] at hg; subst hg; exact ⟨h3, (Array.getElem?_eq_some_iff.1 h1).1⟩
def mapA {α : Type} (k : IntKind) (f : α → Value) (b : Nat) (m : List (Int × α)) : Asn where
  holds := fun w B F => (∃ es clock, w.heap[b]? = some (.map es clock) ∧ Tells k f es clock m) ∧ B ≤ b ∧ ∀ g, F g ↔ g = b
  keep := fun ⟨⟨es, cl, h1, h2⟩, h3, h4⟩ hc hF _ => ⟨⟨es, cl, by rw [hc.block _ (Array.getElem?_eq_some_iff.1 h1).1 (hF _ ((h4 _).2 rfl))]; exact h1, h2⟩, h3, h4⟩
  dom := fun ⟨⟨es, cl, h1, h2⟩, h3, h4⟩ g hg => by rw [h4 g] at hg; subst hg; exact ⟨h3, (Array.getElem?_eq_some_iff.1 h1).1⟩
section
variable {w0 w : World} {M : List Asn}
theorem Sat.stAt {e b : Nat} {cs : List Value} (S : Sat w0 w M) (i : Nat) (hi : M[i]? = some (stA e b cs)) {j : Nat} {v : Value} (hj : cs[j]? = some v) : w.cell? ((⟨b, 0, none⟩ : Addr).add j) = some v ∧ vok v = true := by
  obtain ⟨F, h1, h2, _⟩ := (S.frontAt i hi).hd
  have e1 : (⟨b, 0, none⟩ : Addr).add j = ⟨b, j, none⟩ := by unfold Addr.add; split <;> simp_all
  exact ⟨by rw [e1, cell_of_row _ _ _ _ _ _ h1]; simpa using hj, (List.all_eq_true.1 h2) _ (List.mem_of_getElem? hj)⟩
theorem Sat.mapAt {α : Type} {k : IntKind} {f : α → Value} {b : Nat} {m : List (Int × α)} (S : Sat w0 w M) (i : Nat) (hi : M[i]? = some (mapA k f b m)) : ∃ es clock, w.heap[b]? = some (.map es clock) ∧ Tells k f es clock m := by
  obtain ⟨F, h1, _⟩ := (S.frontAt i hi).hd
  exact h1
theorem stA_lower {e b : Nat} {cs : List Value} {B B' : Nat} (hB : B' ≤ B) : ∀ F, (stA e b cs).holds w B F → (stA e b cs).holds w B' F := fun _ ⟨h1, h2, h3, h4⟩ => ⟨h1, h2, Nat.le_trans hB h3, h4⟩
theorem mapA_lower {α : Type} {k : IntKind} {f : α → Value} {b : Nat} {m : List (Int × α)} {B B' : Nat} (hB : B' ≤ B) : ∀ F, (mapA k f b m).holds w B F → (mapA k f b m).holds w B' F := fun _ ⟨h1, h3, h4⟩ => ⟨h1, Nat.le_trans hB h3, h4⟩
theorem addr0 (b j : Nat) : (⟨b, 0, none⟩ : Addr).add j = ⟨b, j, none⟩ := by unfold Addr.add; split <;> simp_all
end
section
variable {P : Program} {T : Orc} {ops : Array Oper} {Q : Exit → Act → World → Prop} {S' : World → Prop} {Df : List Deferred} {N : Nat} {a : Act} {w w0 : World} {L : Env} {R : List Asn}
/-- A field is read. -/
theorem wl_ldf (hT : T.Ok P) {o : Oper} {rest : List Oper} {te : TypeId} {x : Operand} {d : Nat} {A : Addr} {v : Value} {de : TypeDesc} (hr : w.cell? A = some v ∧ vok v = true) (fr : FrD Df N a L) (hw : wantL ops L o = some true) (ho : o.op = .load te x) (hd : o.dst = some d) (hlt : Nat.blt d N = true)
    (hx : ev L x = some (.pointer (some A))) (hte : T.ty.lookup te = some de) (hde : aggD de = false) (h : ∀ a', FrD Df N a' ((d, v) :: L) → wpList P ops Q rest a' w) : wpList P ops Q (o :: rest) a w :=
  wl_val fr hw hd hlt (load_run hT fr ho hx hte hde hr.1) hr.2 h
theorem sl_ldf (hT : T.Ok P) {s : SOp} {rest : List Itm} {te : TypeId} {x : Operand} {d : Nat} {A : Addr} {v : Value} {de : TypeDesc} (hr : ∀ w, S' w → w.cell? A = some v ∧ vok v = true) (fr : FrD Df N a L) (hw : wantS L s = some true) (hq : s.q = true) (ho : s.op = .load te x) (hd : s.dst = some d) (hlt : Nat.blt d N = true)
    (hx : ev L x = some (.pointer (some A))) (hte : T.ty.lookup te = some de) (hde : aggD de = false) (hS : S' w) (h : ∀ a', FrD Df N a' ((d, v) :: L) → SL P Q S' rest a' w) : SL P Q S' (.one s :: rest) a w :=
  sl_q fr hw hq hd hlt (fun w' hS' => load_run hT fr (o := s.oper) ho hx hte hde (hr w' hS').1) (hr w hS).2 h
theorem store1_run (hT : T.Ok P) (fr : FrD Df N a L) {o : Oper} {te : TypeId} {p v : Operand} {b e j : Nat} {cs : List Value} {z : Value} (ho : o.op = .store te p v) (hp : ev L p = some (.pointer (some ((⟨b, 0, none⟩ : Addr).add j)))) (hv : ev L v = some z) (hs : T.sz.lookup te = some 1)
    (hc : z.cells = #[z]) (h1 : z.oneCell' = true) (S : Sat w0 w (stA e b cs :: R)) (hj : Nat.blt j cs.length = true) : ∃ w', (execOp a.eval o).run P w = .ok .skip w' ∧ Sat w0 w' (stA e b (cs.set j z) :: R) := by
  obtain ⟨F, ⟨g1, g2, g4, g5⟩, hF, hk⟩ := S.opened
  have hj := blt_lt hj
  have hcell : w.cell? ⟨b, j, none⟩ = some cs[j] := by
    rw [cell_of_row _ _ _ _ _ _ g1]; simp [List.getElem?_eq_getElem hj]
  have hfz := frozen_of_row w b j _ _ g1
  have hrun : (storeCells (⟨b, j, none⟩ : Addr) [z]).run P w = .ok () (w.setCell ⟨b, j, none⟩ z) := by
    have h2 := run_storeCells_cells (P := P) b j [z] 0 w (fun q hq => by
      have hq : q = 0 := by simpa using hq
      subst hq; simpa using by rw [hcell]; rfl) (fun q hq => by
      have hq : q = 0 := by simpa using hq
      subst hq; simpa using hfz) (fun u hu => by
      have hu : u = z := by simpa using hu
      subst hu; exact h1)
    have h3 : (storeCells (⟨b, j, none⟩ : Addr) [z]).run P w = .ok () (w.setCells b j [z]) := by simpa using h2
    exact h3
  refine ⟨w.setCell ⟨b, j, none⟩ z, ?_, hk (A' := stA e b (cs.set j z)) (F' := F) (G := fun g => g = b) ⟨?_, ?_, g4, g5⟩ (Chg.setCell w ⟨b, j, none⟩ z) (fun g _ hg => (g5 g).2 hg) fun g hg => .inl hg⟩
  · unfold execOp
    simp only [ho, (fr.ev hp).1, (fr.ev hv).1, Instr.storeAt, Instr.sureAddr, storeVar, hc, addr0]
    simp [size_run hT hs, hrun]
  · rw [heap_setCell_same w b j _ e z g1]; simp
  · rw [List.all_eq_true]
    intro u hu
    rcases List.mem_or_eq_of_mem_set hu with hu | hu
    · exact (List.all_eq_true.1 g2) u hu
    · subst hu; exact (fr.ev hv).2
theorem wl_stf (hT : T.Ok P) {o : Oper} {rest : List Oper} {te : TypeId} {p v : Operand} {b e j : Nat} {cs : List Value} {z : Value} (fr : FrD Df N a L) (hw : wantL ops L o = some true) (hd : o.dst = none) (ho : o.op = .store te p v) (hp : ev L p = some (.pointer (some ((⟨b, 0, none⟩ : Addr).add j)))) (hv : ev L v = some z) (hs : T.sz.lookup te = some 1)
    (hc : z.cells = #[z]) (h1 : z.oneCell' = true) (S : Sat w0 w (stA e b cs :: R)) (hj : Nat.blt j cs.length = true) (h : ∀ w', Sat w0 w' (stA e b (cs.set j z) :: R) → wpList P ops Q rest a w') : wpList P ops Q (o :: rest) a w := by
  obtain ⟨w', h2, h3⟩ := store1_run hT fr ho hp hv hs hc h1 S hj
  exact wl_skip fr hw hd h2 (h w' h3)
theorem sl_stf (hT : T.Ok P) {s : SOp} {rest : List Itm} {te : TypeId} {p v : Operand} {b e j : Nat} {cs : List Value} {z : Value} (fr : FrD Df N a L) (hw : wantS L s = some true) (hq : s.q = false) (hd : s.dst = none) (ho : s.op = .store te p v) (hp : ev L p = some (.pointer (some ((⟨b, 0, none⟩ : Addr).add j)))) (hv : ev L v = some z) (hs : T.sz.lookup te = some 1)
    (hc : z.cells = #[z]) (h1 : z.oneCell' = true) (S : Sat w0 w (stA e b cs :: R)) (hj : Nat.blt j cs.length = true) (h : ∀ w', Sat w0 w' (stA e b (cs.set j z) :: R) → S' w' ∧ SL P Q S' rest a w') : SL P Q S' (.one s :: rest) a w := by
  obtain ⟨w', h2, h3⟩ := store1_run hT fr (o := s.oper) ho hp hv hs hc h1 S hj
  exact sl_skip fr hw hq hd h2 (h w' h3).1 (h w' h3).2
theorem sl_ldfl (hT : T.Ok P) {s : SOp} {rest : List Itm} {te : TypeId} {x : Operand} {d : Nat} {A : Addr} {v : Value} {de : TypeDesc} (hr : w.cell? A = some v ∧ vok v = true) (fr : FrD Df N a L) (hw : wantS L s = some true) (hq : s.q = false) (ho : s.op = .load te x) (hd : s.dst = some d) (hlt : Nat.blt d N = true)
    (hx : ev L x = some (.pointer (some A))) (hte : T.ty.lookup te = some de) (hde : aggD de = false) (hS : S' w) (h : ∀ a', FrD Df N a' ((d, v) :: L) → SL P Q S' rest a' w) : SL P Q S' (.one s :: rest) a w :=
  sl_val fr hw hq hd hlt (load_run hT fr (o := s.oper) ho hx hte hde hr.1) hS hr.2 h
/-- A struct that was built is boxed. -/
theorem wl_boxs {o : Oper} {rest : List Oper} {t : TypeId} {x : Operand} {d : Nat} {cs : List Value} (fr : FrD Df N a L) (hw : wantL ops L o = some true) (hd : o.dst = some d) (hlt : Nat.blt d N = true) (ho : o.op = .box t x) (hx : ev L x = some (.agg cs.toArray)) (hv : cs.all vok = true) (S : Sat w0 w R)
    (h : ∀ w' b, Sat w0 w' (stA t b cs :: R) → ∀ a', FrD Df N a' ((d, .pointer (some ⟨b, 0, none⟩)) :: L) → wpList P ops Q rest a' w') : wpList P ops Q (o :: rest) a w := by
  refine wl_val (v := .pointer (some ⟨w.heap.size, 0, none⟩)) (w' := w.alloc (.cells cs.toArray t)) fr hw hd hlt ?_ rfl (h _ _ ?_)
  · unfold execOp
    simp only [ho, (fr.ev hx).1]
    rfl
  · exact S.add (F := fun g => g = w.heap.size) ((Below.refl _ _).alloc (Nat.le_refl _) _) ⟨heap_alloc_new _ _, hv, S.below.size, fun g => Iff.rfl⟩ fun g hg => Nat.le_of_eq hg.symm
theorem wl_build {o : Oper} {rest : List Oper} {t : TypeId} {ps : Array (Nat × Operand)} {d : Nat} {L2 : List (Nat × Value)} {cs : List Value} (fr : FrD Df N a L) (hw : wantL ops L o = some true) (hd : o.dst = some d) (hlt : Nat.blt d N = true) (ho : o.op = .build t ps) (hp : (ps.map fun (i, x) => (i, a.eval x)).toList = L2) (hb : P.built t L2 = some cs.toArray) (hv : vok (.agg cs.toArray) = true)
    (h : ∀ a', FrD Df N a' ((d, .agg cs.toArray) :: L) → wpList P ops Q rest a' w) : wpList P ops Q (o :: rest) a w := by
  refine wl_val (v := .agg cs.toArray) fr hw hd hlt ?_ hv h
  unfold execOp
  simp only [ho]
  rw [Sem.run_bind, run_build w t _ cs.toArray (by rw [hp]; exact hb)]; rfl
/-- A row of the call's own, cut short. -/
theorem wl_otake (hT : T.Ok P) {k : IntKind} {o : Oper} {rest : List Oper} {t : TypeId} {x y : Operand} {d : Nat} {A : Option Addr} {l : List Int} {n c e e' s : Nat} {ki : IntKind} {i : Int} (fr : FrD Df N a L) (hw : wantL ops L o = some true) (ho : o.op = .slice t x none (some y) none) (hd : o.dst = some d) (hlt : Nat.blt d N = true)
    (hx : ev L x = some (.slice A n c)) (hy : ev L y = some (.int ki i)) (ht : T.ty.lookup t = some (.slice e)) (hs : T.sz.lookup e = some s) (hn : n = l.length) (hb : 0 ≤ i ∧ i ≤ (l.length : Int)) (S : Sat w0 w (ownA k e' A c l :: R))
    (h : Sat w0 w (ownA k e' A c (l.take i.toNat) :: R) → ∀ a', FrD Df N a' ((d, .slice A (l.take i.toNat).length c) :: L) → wpList P ops Q rest a' w) : wpList P ops Q (o :: rest) a w := by
  refine wl_take hT fr hw ho hd hlt hx hy ht hs hn hb (h ?_)
  obtain ⟨F, ⟨h1, h2, h3⟩, hF, hk⟩ := S.opened
  have hl : (l.take i.toNat).length = i.toNat := by rw [List.length_take]; omega
  refine hk (A' := ownA k e' A c (l.take i.toNat)) (F' := F) (G := fun _ => False) ⟨?_, fun z hz => h2 z (List.mem_of_mem_take hz), fun g => ?_⟩ (Chg.refl _ _) (fun _ _ h => h.elim) fun g hg => .inl hg
  · rcases h1.2 with ⟨e1, e2⟩ | ⟨g, cap, cur, e1, hB, hg, h4, h5, h6, h7⟩
    · injection e1 with e3 e4 e5
      subst e3 e5
      have : l = [] := List.eq_nil_of_length_eq_zero e2
      subst this
      simp only [List.take_nil]
      exact OwnI.nil k w _ e'
    · injection e1 with e3 e4 e5
      subst e3 e5
      refine ⟨by simp, .inr ⟨g, c, cur, rfl, hB, hg, by omega, h5, h6, ?_⟩⟩
      have h8 := congrArg (List.take i.toNat) h7
      rw [List.take_take] at h8
      rw [hl, List.map_take, ← h8]
      congr 1
      omega
  · rw [h3 g]
    cases A <;> simp [Value.ownBlock]
/-! ### Maps -/
variable {α : Type} {k : IntKind} {f : α → Value}
theorem wl_mkmap (k : IntKind) (f : α → Value) {o : Oper} {rest : List Oper} {t : TypeId} {d : Nat} (fr : FrD Df N a L) (hw : wantL ops L o = some true) (hd : o.dst = some d) (hlt : Nat.blt d N = true) (ho : o.op = .makeMap t none) (S : Sat w0 w R)
    (h : ∀ w' b, Sat w0 w' (mapA k f b [] :: R) → ∀ a', FrD Df N a' ((d, .map (some b)) :: L) → wpList P ops Q rest a' w') : wpList P ops Q (o :: rest) a w := by
  refine wl_val (v := .map (some w.heap.size)) (w' := w.alloc (.map #[] 0)) fr hw hd hlt ?_ rfl (h _ _ ?_)
  · unfold execOp
    simp only [ho]
    rfl
  · exact S.add (F := fun g => g = w.heap.size) ((Below.refl _ _).alloc (Nat.le_refl _) _) ⟨⟨_, _, heap_alloc_new _ _, Tells.empty k f⟩, S.below.size, fun g => Iff.rfl⟩ fun g hg => Nat.le_of_eq hg.symm
theorem getD_map (o : Option α) (d : α) : (o.map f).getD (f d) = f (o.getD d) := by cases o <;> rfl
theorem lk_exec (hT : T.Ok P) (fr : FrD Df N a L) {o : Oper} {mt kt et : TypeId} {x y : Operand} {b : Nat} {K : Int} {m : List (Int × α)} {ok : Bool} (z : α) (ho : o.op = .lookup mt x y ok) (hx : ev L x = some (.map (some b))) (hy : ev L y = some (.int k K)) (hm : T.ty.lookup mt = some (.map kt et)) (hk : T.ty.lookup kt = some (.int k)) (hz : ∀ W, (zeroValue et).run P W = .ok (f z) W) {w : World}
    (hr : ∃ es clock, w.heap[b]? = some (.map es clock) ∧ Tells k f es clock m) : (execOp a.eval o).run P w = .ok (.value (if ok then .tuple #[f ((lkM m K).getD z), .bool (lkM m K).isSome] else f ((lkM m K).getD z))) w := by
  obtain ⟨es, cl, h1, h2⟩ := hr
  have h3 := lookup_run (hT.und hm) (hT.und hk) hz h2 h1 K ok
  unfold execOp
  simp only [ho, (fr.ev hx).1, (fr.ev hy).1]
  rw [Sem.run_bind, h3]
  simp only [getD_map, Result.andThen_ok]
  rfl
theorem lk_vok {m : List (Int × α)} {w : World} {b : Nat} (hr : ∃ es clock, w.heap[b]? = some (.map es clock) ∧ Tells k f es clock m) (z : α) (hz : vok (f z) = true) (K : Int) : vok (f ((lkM m K).getD z)) = true := by
  obtain ⟨es, cl, h1, h2⟩ := hr
  cases h : lkM m K with
  | none => exact hz
  | some v => exact (h2.wf _ (lk_some h)).2
theorem wl_lk (hT : T.Ok P) {o : Oper} {rest : List Oper} {mt kt et : TypeId} {x y : Operand} {d b : Nat} {K : Int} {m : List (Int × α)} (z : α) (hz : ∀ W, (zeroValue et).run P W = .ok (f z) W) (hzv : vok (f z) = true) (hr : ∃ es clock, w.heap[b]? = some (.map es clock) ∧ Tells k f es clock m) (fr : FrD Df N a L) (hw : wantL ops L o = some true) (hd : o.dst = some d) (hlt : Nat.blt d N = true) (ho : o.op = .lookup mt x y false)
    (hx : ev L x = some (.map (some b))) (hy : ev L y = some (.int k K)) (hm : T.ty.lookup mt = some (.map kt et)) (hk : T.ty.lookup kt = some (.int k)) (h : ∀ a', FrD Df N a' ((d, f ((lkM m K).getD z)) :: L) → wpList P ops Q rest a' w) : wpList P ops Q (o :: rest) a w :=
  wl_val fr hw hd hlt (lk_exec hT fr z ho hx hy hm hk hz hr) (lk_vok hr z hzv K) h
theorem sl_lk (hT : T.Ok P) {s : SOp} {rest : List Itm} {mt kt et : TypeId} {x y : Operand} {d b : Nat} {K : Int} {m : List (Int × α)} (z : α) (hz : ∀ W, (zeroValue et).run P W = .ok (f z) W) (hzv : vok (f z) = true) (hr : ∀ w, S' w → ∃ es clock, w.heap[b]? = some (.map es clock) ∧ Tells k f es clock m) (fr : FrD Df N a L) (hw : wantS L s = some true) (hq : s.q = true) (hd : s.dst = some d) (hlt : Nat.blt d N = true) (ho : s.op = .lookup mt x y false)
    (hx : ev L x = some (.map (some b))) (hy : ev L y = some (.int k K)) (hm : T.ty.lookup mt = some (.map kt et)) (hk : T.ty.lookup kt = some (.int k)) (hS : S' w) (h : ∀ a', FrD Df N a' ((d, f ((lkM m K).getD z)) :: L) → SL P Q S' rest a' w) : SL P Q S' (.one s :: rest) a w :=
  sl_q fr hw hq hd hlt (fun w' hS' => lk_exec hT fr (o := s.oper) z ho hx hy hm hk hz (hr w' hS')) (lk_vok (hr w hS) z hzv K) h
theorem wl_lk2 (hT : T.Ok P) {o : Oper} {rest : List Oper} {mt kt et : TypeId} {x y : Operand} {d b : Nat} {K : Int} {m : List (Int × α)} (z : α) (hz : ∀ W, (zeroValue et).run P W = .ok (f z) W) (hzv : vok (f z) = true) (hf : ∀ z, vokC (f z) = vok (f z)) (hr : ∃ es clock, w.heap[b]? = some (.map es clock) ∧ Tells k f es clock m) (fr : FrD Df N a L) (hw : wantL ops L o = some true) (hd : o.dst = some d) (hlt : Nat.blt d N = true) (ho : o.op = .lookup mt x y true)
    (hx : ev L x = some (.map (some b))) (hy : ev L y = some (.int k K)) (hm : T.ty.lookup mt = some (.map kt et)) (hk : T.ty.lookup kt = some (.int k)) (h : ∀ a', FrD Df N a' ((d, .tuple #[f ((lkM m K).getD z), .bool (lkM m K).isSome]) :: L) → wpList P ops Q rest a' w) : wpList P ops Q (o :: rest) a w :=
  wl_val fr hw hd hlt (lk_exec hT fr z ho hx hy hm hk hz hr) (by
    show [f ((lkM m K).getD z), Value.bool (lkM m K).isSome].all vokC = true
    rw [List.all_cons, hf, lk_vok hr z hzv K]; rfl) h
theorem up_exec (hT : T.Ok P) (fr : FrD Df N a L) {o : Oper} {mt kt et : TypeId} {x y v : Operand} {b : Nat} {K : Int} {m : List (Int × α)} {z : α} (ho : o.op = .mapUpdate mt x y v ∨ o.op = .insert mt x y v) (hx : ev L x = some (.map (some b))) (hy : ev L y = some (.int k K)) (hv : ev L v = some (f z)) (hm : T.ty.lookup mt = some (.map kt et)) (hk : T.ty.lookup kt = some (.int k)) (S : Sat w0 w (mapA k f b m :: R)) :
    ∃ w', (execOp a.eval o).run P w = .ok .skip w' ∧ Sat w0 w' (mapA k f b (upM m K z) :: R) := by
  obtain ⟨F, ⟨⟨es, cl, h1, h2⟩, g4, g5⟩, hF, hk'⟩ := S.opened
  obtain ⟨es', cl', h3, h4⟩ := update_run (hT.und hm) (hT.und hk) h2 h1 (fr.ev hy).2 (fr.ev hv).2
  refine ⟨_, ?_, hk' (A' := mapA k f b (upM m K z)) (F' := F) (G := fun g => g = b) ⟨⟨es', cl', putObj_at h1, h4⟩, g4, g5⟩ (putObj_chg w b _) (fun g _ hg => (g5 g).2 hg) fun g hg => .inl hg⟩
  unfold execOp
  rcases ho with ho | ho <;> (simp only [ho, (fr.ev hx).1, (fr.ev hy).1, (fr.ev hv).1]; rw [Sem.run_bind, h3]; rfl)
theorem wl_up (hT : T.Ok P) {o : Oper} {rest : List Oper} {mt kt et : TypeId} {x y v : Operand} {b : Nat} {K : Int} {m : List (Int × α)} (z : α) (fr : FrD Df N a L) (hw : wantL ops L o = some true) (hd : o.dst = none) (ho : o.op = .mapUpdate mt x y v ∨ o.op = .insert mt x y v) (hx : ev L x = some (.map (some b))) (hy : ev L y = some (.int k K)) (hv : ev L v = some (f z)) (hm : T.ty.lookup mt = some (.map kt et)) (hk : T.ty.lookup kt = some (.int k)) (S : Sat w0 w (mapA k f b m :: R))
    (h : ∀ w', Sat w0 w' (mapA k f b (upM m K z) :: R) → wpList P ops Q rest a w') : wpList P ops Q (o :: rest) a w := by
  obtain ⟨w', h1, h2⟩ := up_exec hT fr ho hx hy hv hm hk S
  exact wl_skip fr hw hd h1 (h w' h2)
theorem sl_up (hT : T.Ok P) {s : SOp} {rest : List Itm} {mt kt et : TypeId} {x y v : Operand} {b : Nat} {K : Int} {m : List (Int × α)} (z : α) (fr : FrD Df N a L) (hw : wantS L s = some true) (hq : s.q = false) (hd : s.dst = none) (ho : s.op = .mapUpdate mt x y v ∨ s.op = .insert mt x y v) (hx : ev L x = some (.map (some b))) (hy : ev L y = some (.int k K)) (hv : ev L v = some (f z)) (hm : T.ty.lookup mt = some (.map kt et)) (hk : T.ty.lookup kt = some (.int k)) (S : Sat w0 w (mapA k f b m :: R))
    (h : ∀ w', Sat w0 w' (mapA k f b (upM m K z) :: R) → S' w' ∧ SL P Q S' rest a w') : SL P Q S' (.one s :: rest) a w := by
  obtain ⟨w', h1, h2⟩ := up_exec hT fr (o := s.oper) ho hx hy hv hm hk S
  exact sl_skip fr hw hq hd h1 (h w' h2).1 (h w' h2).2
theorem wl_del (hT : T.Ok P) {o : Oper} {rest : List Oper} {mt kt et : TypeId} {x y : Operand} {ts : Array TypeId} {b : Nat} {K : Int} {m : List (Int × α)} (fr : FrD Df N a L) (hw : wantL ops L o = some true) (hd : o.dst = none) (ho : o.op = .call { callee := .builtin .delete, args := #[x, y], argTypes := ts }) (ht : ts[0]? = some mt) (hx : ev L x = some (.map (some b))) (hy : ev L y = some (.int k K)) (hm : T.ty.lookup mt = some (.map kt et)) (hk : T.ty.lookup kt = some (.int k)) (S : Sat w0 w (mapA k f b m :: R))
    (h : ∀ w', Sat w0 w' (mapA k f b (delM m K) :: R) → wpList P ops Q rest a w') : wpList P ops Q (o :: rest) a w := by
  obtain ⟨F, ⟨⟨es, cl, h1, h2⟩, g4, g5⟩, hF, hk'⟩ := S.opened
  obtain ⟨es', h3, h4⟩ := delete_run (ty := o.type) (hT.und hm) (hT.und hk) ht h2 h1 K
  have h5 := hk' (A' := mapA k f b (delM m K)) (F' := F) (G := fun g => g = b) ⟨⟨es', cl, putObj_at h1, h4⟩, g4, g5⟩ (putObj_chg w b _) (fun g _ hg => (g5 g).2 hg) fun g hg => .inl hg
  refine wl_op fr hw fun K' hK => wp_value (v := .tuple #[]) ?_ (hK _ _ (by rw [hd]; exact h _ h5))
  unfold execOp
  simp only [ho, resolve]
  rw [Sem.run_bind, Sem.run_pure, Result.andThen_ok]
  simp only [invoke, builtin, List.map_toArray, List.map_cons, List.map_nil, (fr.ev hx).1, (fr.ev hy).1]
  rw [Sem.run_bind, h3]; rfl
end
end Go.Proofs.YticnjkdaccacaaaDoor.Sx
