/- Steps of a walk over arrays of the call's own. -/
import Derived.Test.YticnjkdaccacaaaDoorSn
namespace Go.Proofs.YticnjkdaccacaaaDoor.Sx
open Go Go.RowKit Base Own

section
variable {α : Type} {P : Program} {T : Orc} {ops : Array Oper} {Q : Exit → Act → World → Prop} {S' : World → Prop} {Df : List Deferred} {N : Nat} {a : Act} {w w0 : World} {L : Env} {R : List Asn} {f : α → Value}
theorem wl_box {o : Oper} {rest : List Oper} {t : TypeId} {x : Operand} {d n : Nat} {l : List α} (fr : FrD Df N a L) (hw : wantL ops L o = some true) (hd : o.dst = some d) (hlt : Nat.blt d N = true) (ho : o.op = .box t x) (hx : ev L x = some (.agg (l.map f).toArray)) (hn : l.length = n) (hf : ∀ z, vok (f z) = vok1 (f z)) (S : Sat w0 w R)
    (h : ∀ w' b, Sat w0 w' (arrA f t n b l :: R) → ∀ a', FrD Df N a' ((d, .pointer (some ⟨b, 0, none⟩)) :: L) → wpList P ops Q rest a' w') : wpList P ops Q (o :: rest) a w := by
  have hv := (fr.ev hx).2
  refine wl_val (v := .pointer (some ⟨w.heap.size, 0, none⟩)) (w' := w.alloc (.cells (l.map f).toArray t)) fr hw hd hlt ?_ rfl (h _ _ ?_)
  · unfold execOp
    simp only [ho, (fr.ev hx).1]
    rfl
  · refine S.add (F := fun g => g = w.heap.size) ((Below.refl _ _).alloc (Nat.le_refl _) _) ⟨heap_alloc_new _ _, hn, fun z hz => ?_, S.below.size, fun g => Iff.rfl⟩ fun g hg => Nat.le_of_eq hg.symm
    rw [hf]
    exact (List.all_eq_true.1 (show (l.map f).all vok1 = true from hv)) _ (List.mem_map_of_mem hz)
theorem wl_alloc {o : Oper} {rest : List Oper} {t : TypeId} {d n : Nat} {l : List α} (fr : FrD Df N a L) (hw : wantL ops L o = some true) (hd : o.dst = some d) (hlt : Nat.blt d N = true) (ho : o.op = .alloc t) (hz : ∀ W, (zeroValue t).run P W = .ok (.agg (l.map f).toArray) W) (hn : l.length = n) (hok : l.all (fun z => vok (f z)) = true) (S : Sat w0 w R)
    (h : ∀ w' b, Sat w0 w' (arrA f t n b l :: R) → ∀ a', FrD Df N a' ((d, .pointer (some ⟨b, 0, none⟩)) :: L) → wpList P ops Q rest a' w') : wpList P ops Q (o :: rest) a w := by
  refine wl_val (v := .pointer (some ⟨w.heap.size, 0, none⟩)) (w' := w.alloc (.cells (l.map f).toArray t)) fr hw hd hlt ?_ rfl (h _ _ ?_)
  · unfold execOp
    simp only [ho, Instr.alloc]
    rw [Sem.run_bind, Sem.run_bind, hz, Result.andThen_ok]
    rfl
  · exact S.add (F := fun g => g = w.heap.size) ((Below.refl _ _).alloc (Nat.le_refl _) _) ⟨heap_alloc_new _ _, hn, fun z hz => (List.all_eq_true.1 hok) z hz, S.below.size, fun g => Iff.rfl⟩ fun g hg => Nat.le_of_eq hg.symm
theorem indexArr_run (hT : T.Ok P) (fr : FrD Df N a L) {o : Oper} {t : TypeId} {x ix : Operand} (ho : o.op = .indexAddr t x ix) {A : Addr} {n e s : Nat} {ki : IntKind} {i : Int} (hx : ev L x = some (.pointer (some A))) (hi : ev L ix = some (.int ki i))
    (ht : T.ty.lookup t = some (.array n e)) (hs : T.sz.lookup e = some s) (h0 : 0 ≤ i) (hlt : i < n) (w : World) : (execOp a.eval o).run P w = .ok (.value (.pointer (some (A.add (i.toNat * s))))) w := by
  unfold execOp
  simp only [ho, (fr.ev hx).1, (fr.ev hi).1, Instr.indexAt, asIntOf]
  simp [run_underlying (hT.und ht), size_run hT hs, h0, hlt, Instr.sureAddr]
theorem cell_arr {e b : Nat} {l : List α} (h : w.heap[b]? = some (.cells (l.map f).toArray e (0, 0))) {i : Nat} (hi : i < l.length) (dd : α) : w.cell? ((⟨b, 0, none⟩ : Addr).add (i * 1)) = some (f (l.getD i dd)) := by
  have e1 : (⟨b, 0, none⟩ : Addr).add (i * 1) = ⟨b, i, none⟩ := by unfold Addr.add; split <;> simp_all
  rw [e1, cell_of_row _ _ _ _ _ _ h]
  simp [List.getElem?_eq_getElem hi, List.getD_eq_getElem?_getD]
theorem wl_pa (hT : T.Ok P) {o : Oper} {rest : List Oper} {t : TypeId} {x ix : Operand} {d b n e : Nat} {ki : IntKind} {i : Int} (fr : FrD Df N a L) (hw : wantL ops L o = some true) (ho : o.op = .indexAddr t x ix) (hd : o.dst = some d) (hlt : Nat.blt d N = true) (hx : ev L x = some (.pointer (some ⟨b, 0, none⟩))) (hi : ev L ix = some (.int ki i))
    (ht : T.ty.lookup t = some (.array n e)) (hs : T.sz.lookup e = some 1) (hb : 0 ≤ i ∧ i < (n : Int)) (h : ∀ a', FrD Df N a' ((d, .pointer (some ((⟨b, 0, none⟩ : Addr).add (i.toNat * 1)))) :: L) → wpList P ops Q rest a' w) : wpList P ops Q (o :: rest) a w :=
  wl_val fr hw hd hlt (indexArr_run hT fr ho hx hi ht hs hb.1 hb.2 w) rfl h
theorem wl_lda (hT : T.Ok P) (dd : α) {o1 o2 : Oper} {rest : List Oper} {t te : TypeId} {x ix : Operand} {d1 d2 b n n' e e' : Nat} {l : List α} {ki : IntKind} {i : Int} {de : TypeDesc}
    (hr : w.heap[b]? = some (.cells (l.map f).toArray e (0, 0)) ∧ l.length = n ∧ ∀ z ∈ l, vok (f z) = true) (fr : FrD Df N a L) (hw : wantL ops L o1 = some true) (ho1 : o1.op = .indexAddr t x ix) (hd1 : o1.dst = some d1) (hw2 : wantL ops L o2 = some true) (ho2 : o2.op = .load te (.tmp d1)) (hd2 : o2.dst = some d2) (hl1 : Nat.blt d1 N = true) (hl2 : Nat.blt d2 N = true)
    (hx : ev L x = some (.pointer (some ⟨b, 0, none⟩))) (hi : ev L ix = some (.int ki i)) (ht : T.ty.lookup t = some (.array n' e')) (hn : n = n') (hs : T.sz.lookup e' = some 1) (hte : T.ty.lookup te = some de) (hde : aggD de = false) (hf : L.lookup d1 = none) (hb : 0 ≤ i ∧ i < (l.length : Int))
    (h : ∀ a', FrD Df N a' ((d2, f (l.getD i.toNat dd)) :: L) → wpList P ops Q rest a' w) : wpList P ops Q (o1 :: o2 :: rest) a w := by
  subst hn
  obtain ⟨h1, h2, h3⟩ := hr
  obtain ⟨j, rfl⟩ : ∃ j : Nat, i = j := ⟨i.toNat, by omega⟩
  have hj : j < l.length := by omega
  refine wl_val fr hw hd1 hl1 (indexArr_run hT fr ho1 hx hi ht hs (by omega) (by omega) w) rfl fun a1 fr1 => ?_
  have hw3 : wantL ops ((d1, .pointer (some ((⟨b, 0, none⟩ : Addr).add ((j : Int).toNat * 1)))) :: L) o2 = some true := by
    have hk := hw2
    unfold wantL at hk ⊢
    split at hk
    · exact hk
    · rename_i j' want hg'
      split at hk
      · rename_i t' ht'
        split at hk
        · rename_i b hb'
          have hne : t' ≠ d1 := fun e => by subst e; rw [hf] at hb'; cases hb'
          rw [lookup_cons, if_neg hne, hb']; exact hk
        · cases hk
        · cases hk
      · cases hk
  have hm : l.getD j dd ∈ l := by rw [List.getD_eq_getElem?_getD, List.getElem?_eq_getElem hj]; exact List.getElem_mem hj
  refine wl_val (v := f (l.getD j dd)) fr1 hw3 hd2 hl2 (load_run hT fr1 ho2 (by show ((d1, _) :: L).lookup d1 = _; rw [lookup_cons, if_pos rfl]) hte hde (by rw [Int.toNat_natCast]; exact cell_arr h1 hj dd)) (h3 _ hm) fun a2 fr2 => h a2 ?_
  refine ⟨fr2.size, fr2.defers, fun e u he => fr2.get e u ?_⟩
  rw [lookup_cons] at he ⊢
  by_cases h1 : e = d2
  · rw [if_pos h1] at he ⊢; rw [Int.toNat_natCast] at he; exact he
  · rw [if_neg h1] at he ⊢
    rw [lookup_cons]
    by_cases h2 : e = d1
    · subst h2; rw [hf] at he; cases he
    · rw [if_neg h2]; exact he
theorem sl_lda (hT : T.Ok P) (dd : α) {s1 s2 : SOp} {rest : List Itm} {t te : TypeId} {x ix : Operand} {d1 d2 b n n' e e' : Nat} {l : List α} {ki : IntKind} {i : Int} {de : TypeDesc}
    (hr : ∀ w, S' w → w.heap[b]? = some (.cells (l.map f).toArray e (0, 0)) ∧ l.length = n ∧ ∀ z ∈ l, vok (f z) = true) (fr : FrD Df N a L) (hw : wantS L s1 = some true) (hq : s1.q = true) (ho1 : s1.op = .indexAddr t x ix) (hd1 : s1.dst = some d1) (hw2 : wantS L s2 = some true) (hq2 : s2.q = true) (ho2 : s2.op = .load te (.tmp d1)) (hd2 : s2.dst = some d2) (hl1 : Nat.blt d1 N = true) (hl2 : Nat.blt d2 N = true)
    (hx : ev L x = some (.pointer (some ⟨b, 0, none⟩))) (hi : ev L ix = some (.int ki i)) (ht : T.ty.lookup t = some (.array n' e')) (hn : n = n') (hs : T.sz.lookup e' = some 1) (hte : T.ty.lookup te = some de) (hde : aggD de = false) (hf : L.lookup d1 = none) (hb : 0 ≤ i ∧ i < (l.length : Int)) (hS : S' w)
    (h : ∀ a', FrD Df N a' ((d2, f (l.getD i.toNat dd)) :: L) → SL P Q S' rest a' w) : SL P Q S' (.one s1 :: .one s2 :: rest) a w := by
  subst hn
  obtain ⟨h1, h2, h3⟩ := hr w hS
  obtain ⟨j, rfl⟩ : ∃ j : Nat, i = j := ⟨i.toNat, by omega⟩
  have hj : j < l.length := by omega
  refine sl_q fr hw hq hd1 hl1 (fun w' _ => indexArr_run hT fr (o := s1.oper) ho1 hx hi ht hs (by omega) (by omega) w') rfl fun a1 fr1 => ?_
  have hw3 : wantS ((d1, .pointer (some ((⟨b, 0, none⟩ : Addr).add ((j : Int).toNat * 1)))) :: L) s2 = some true := by
    have hk := hw2
    unfold wantS at hk ⊢
    split at hk
    · rename_i hg'; rw [hg'] at *
    · rename_i t' want hg'
      split at hk
      · rename_i b hb'
        have hne : t' ≠ d1 := fun e => by subst e; rw [hf] at hb'; cases hb'
        rw [lookup_cons, if_neg hne, hb']; exact hk
      · cases hk
      · cases hk
  have hm : l.getD j dd ∈ l := by rw [List.getD_eq_getElem?_getD, List.getElem?_eq_getElem hj]; exact List.getElem_mem hj
  refine sl_q (v := f (l.getD j dd)) fr1 hw3 hq2 hd2 hl2 (fun w' hS' => load_run hT fr1 (o := s2.oper) ho2 (by show ((d1, _) :: L).lookup d1 = _; rw [lookup_cons, if_pos rfl]) hte hde (by rw [Int.toNat_natCast]; exact cell_arr (hr w' hS').1 hj dd)) (h3 _ hm) fun a2 fr2 => h a2 ?_
  refine ⟨fr2.size, fr2.defers, fun e u he => fr2.get e u ?_⟩
  rw [lookup_cons] at he ⊢
  by_cases h1 : e = d2
  · rw [if_pos h1] at he ⊢; rw [Int.toNat_natCast] at he; exact he
  · rw [if_neg h1] at he ⊢
    rw [lookup_cons]
    by_cases h2 : e = d1
    · subst h2; rw [hf] at he; cases he
    · rw [if_neg h2]; exact he
theorem wl_sta (hT : T.Ok P) (z : α) {o : Oper} {rest : List Oper} {te : TypeId} {p v : Operand} {b n e : Nat} {l : List α} {i : Int} (fr : FrD Df N a L) (hw : wantL ops L o = some true) (hd : o.dst = none) (ho : o.op = .store te p v) (hp : ev L p = some (.pointer (some ((⟨b, 0, none⟩ : Addr).add (i.toNat * 1))))) (hv : ev L v = some (f z)) (hs : T.sz.lookup te = some 1)
    (hc : (f z).cells = #[f z]) (h1 : (f z).oneCell' = true) (S : Sat w0 w (arrA f e n b l :: R)) (hb : 0 ≤ i ∧ i < (n : Int)) (h : ∀ w', Sat w0 w' (arrA f e n b (l.set i.toNat z) :: R) → wpList P ops Q rest a w') : wpList P ops Q (o :: rest) a w := by
  obtain ⟨j, rfl⟩ : ∃ j : Nat, i = j := ⟨i.toNat, by omega⟩
  rw [Int.toNat_natCast] at h hp
  obtain ⟨F, ⟨g1, g2, g3, g4, g5⟩, hF, hk⟩ := S.opened
  have hj : j < l.length := by omega
  have e1 : (⟨b, 0, none⟩ : Addr).add (j * 1) = ⟨b, j, none⟩ := by unfold Addr.add; split <;> simp_all
  have hcell : w.cell? ⟨b, j, none⟩ = some (f l[j]) := by
    rw [cell_of_row _ _ _ _ _ _ g1]; simp [List.getElem?_eq_getElem hj]
  have hfz := frozen_of_row w b j _ _ g1
  have hrun : (storeCells (⟨b, j, none⟩ : Addr) [f z]).run P w = .ok () (w.setCell ⟨b, j, none⟩ (f z)) := by
    have h2 := run_storeCells_cells (P := P) b j [f z] 0 w (fun q hq => by
      have hq : q = 0 := by simpa using hq
      subst hq; simpa using by rw [hcell]; rfl) (fun q hq => by
      have hq : q = 0 := by simpa using hq
      subst hq; simpa using hfz) (fun u hu => by
      have hu : u = f z := by simpa using hu
      subst hu; exact h1)
    have h3 : (storeCells (⟨b, j, none⟩ : Addr) [f z]).run P w = .ok () (w.setCells b j [f z]) := by simpa using h2
    exact h3
  refine wl_skip (w' := w.setCell ⟨b, j, none⟩ (f z)) fr hw hd ?_ (h _ ?_)
  · unfold execOp
    simp only [ho, (fr.ev hp).1, (fr.ev hv).1, Instr.storeAt, Instr.sureAddr, storeVar, hc, e1]
    simp [size_run hT hs, hrun]
  · refine hk (A' := arrA f e n b (l.set j z)) (F' := F) (G := fun g => g = b) ⟨?_, by rw [List.length_set]; exact g2, fun u hu => ?_, g4, g5⟩ (Chg.setCell w ⟨b, j, none⟩ (f z)) (fun g _ hg => (g5 g).2 hg) fun g hg => .inl hg
    · have h3 := heap_setCell_same w b j _ e (f z) g1
      rw [h3]
      congr 2
      rw [List.map_set]
      simp
    · rcases List.mem_or_eq_of_mem_set hu with hu | hu
      · exact g3 u hu
      · subst hu; exact (fr.ev hv).2
/-- An element of an array by value. -/
theorem ix_run (hT : T.Ok P) (dd : α) (fr : FrD Df N a L) {o : Oper} {t : TypeId} {x ix : Operand} {n e : Nat} {l : List α} {ki : IntKind} {i : Int} {de : TypeDesc} (ho : o.op = .index t x ix) (hx : ev L x = some (.agg (l.map f).toArray)) (hi : ev L ix = some (.int ki i)) (hn : l.length = n) (ht : T.ty.lookup t = some (.array n e)) (hs : T.sz.lookup e = some 1) (hte : T.ty.lookup e = some de) (hde : aggD de = false)
    (hb : 0 ≤ i ∧ i < (l.length : Int)) (w : World) : (execOp a.eval o).run P w = .ok (.value (f (l.getD i.toNat dd))) w := by
  obtain ⟨j, rfl⟩ : ∃ j : Nat, i = j := ⟨i.toNat, by omega⟩
  have hj : j < l.length := by omega
  unfold execOp
  simp only [ho, (fr.ev hx).1, (fr.ev hi).1, Instr.index, asIntOf]
  have h1 : (0 : Int) ≤ j ∧ (j : Int) < n := by omega
  rw [Sem.run_bind, Sem.run_bind, Sem.run_pure, Result.andThen_ok]
  simp only
  rw [Sem.run_bind, run_underlying (hT.und ht), Result.andThen_ok]
  simp only
  rw [if_pos h1, Sem.run_bind, size_run hT hs, Result.andThen_ok]
  unfold part
  rw [Sem.run_bind, isAgg_run (hT.und hte), Result.andThen_ok, hde, if_neg (by decide)]
  simp [List.getElem?_eq_getElem hj, List.getD_eq_getElem?_getD]
theorem wl_ix (hT : T.Ok P) (dd : α) {o : Oper} {rest : List Oper} {t : TypeId} {x ix : Operand} {d n e : Nat} {l : List α} {ki : IntKind} {i : Int} {de : TypeDesc} (hf : ∀ z, vok (f z) = vok1 (f z)) (fr : FrD Df N a L) (hw : wantL ops L o = some true) (hd : o.dst = some d) (hlt : Nat.blt d N = true) (ho : o.op = .index t x ix) (hx : ev L x = some (.agg (l.map f).toArray)) (hi : ev L ix = some (.int ki i)) (hn : l.length = n) (ht : T.ty.lookup t = some (.array n e)) (hs : T.sz.lookup e = some 1) (hte : T.ty.lookup e = some de) (hde : aggD de = false)
    (hb : 0 ≤ i ∧ i < (l.length : Int)) (h : ∀ a', FrD Df N a' ((d, f (l.getD i.toNat dd)) :: L) → wpList P ops Q rest a' w) : wpList P ops Q (o :: rest) a w := by
  refine wl_val fr hw hd hlt (ix_run hT dd fr ho hx hi hn ht hs hte hde hb w) ?_ h
  rw [hf]
  have hj : i.toNat < l.length := by omega
  have hm : l.getD i.toNat dd ∈ l := by rw [List.getD_eq_getElem?_getD, List.getElem?_eq_getElem hj]; exact List.getElem_mem hj
  exact (List.all_eq_true.1 (show (l.map f).all vok1 = true from (fr.ev hx).2)) _ (List.mem_map_of_mem hm)
theorem sl_ix (hT : T.Ok P) (dd : α) {s : SOp} {rest : List Itm} {t : TypeId} {x ix : Operand} {d n e : Nat} {l : List α} {ki : IntKind} {i : Int} {de : TypeDesc} (hf : ∀ z, vok (f z) = vok1 (f z)) (fr : FrD Df N a L) (hw : wantS L s = some true) (hq : s.q = true) (hd : s.dst = some d) (hlt : Nat.blt d N = true) (ho : s.op = .index t x ix) (hx : ev L x = some (.agg (l.map f).toArray)) (hi : ev L ix = some (.int ki i)) (hn : l.length = n) (ht : T.ty.lookup t = some (.array n e)) (hs : T.sz.lookup e = some 1) (hte : T.ty.lookup e = some de) (hde : aggD de = false)
    (hb : 0 ≤ i ∧ i < (l.length : Int)) (h : ∀ a', FrD Df N a' ((d, f (l.getD i.toNat dd)) :: L) → SL P Q S' rest a' w) : SL P Q S' (.one s :: rest) a w := by
  refine sl_q fr hw hq hd hlt (fun w' _ => ix_run hT dd fr (o := s.oper) ho hx hi hn ht hs hte hde hb w') ?_ h
  rw [hf]
  have hj : i.toNat < l.length := by omega
  have hm : l.getD i.toNat dd ∈ l := by rw [List.getD_eq_getElem?_getD, List.getElem?_eq_getElem hj]; exact List.getElem_mem hj
  exact (List.all_eq_true.1 (show (l.map f).all vok1 = true from (fr.ev hx).2)) _ (List.mem_map_of_mem hm)
end
end Go.Proofs.YticnjkdaccacaaaDoor.Sx
