/- Texts of this work, one behind the other. -/
import Derived.Test.YticnjkdaccacaaaGreatDoorVSectorsPlay4
import Derived.Laws.IdiomCopy
import Derived.Maps.RangeWalk
import Derived.RangeFuncLeaves
import Derived.RangeFuncRecord
import Derived.RangeFuncCalls
section
/- Steps of a walk that write into rows of the call's own. -/
namespace Go.Proofs.YticnjkdaccacaaaGreatDoor.Sx
open Go Go.RowKit Base Own

/-- The pointer to an element of a row. -/
def elP (A : Option Addr) (i : Int) : Value := .pointer (A.map fun ad => ad.add (i.toNat * 1))
section
variable {P : Program} {T : Orc} {ops : Array Oper} {Q : Exit → Act → World → Prop} {S' : World → Prop} {Df : List Deferred} {N : Nat} {a : Act} {w w0 : World} {L : Env} {R : List Asn} {k : IntKind} {A : Option Addr} {l : List Int} {i : Int}
theorem el_run (hT : T.Ok P) (fr : FrD Df N a L) {o : Oper} {t : TypeId} {x ix : Operand} {n c e : Nat} {ki : IntKind} (ho : o.op = .indexAddr t x ix) (hr : Rk k w A l) (hx : ev L x = some (.slice A n c)) (hi : ev L ix = some (.int ki i)) (ht : T.ty.lookup t = some (.slice e)) (hs : T.sz.lookup e = some 1) (hn : n = l.length) (hb : 0 ≤ i ∧ i < (l.length : Int)) (w' : World) :
    (execOp a.eval o).run P w' = .ok (.value (elP A i)) w' := by
  subst hn
  obtain ⟨ad, rfl, -, -⟩ := hr.rd.cell (j := i.toNat) (by omega)
  exact indexAddr_run hT fr ho hx hi ht hs hb.1 hb.2 w'
theorem wl_pe (hT : T.Ok P) {o : Oper} {rest : List Oper} {t : TypeId} {x ix : Operand} {d n c e : Nat} {ki : IntKind} (hr : Rk k w A l) (fr : FrD Df N a L) (hw : wantL ops L o = some true) (ho : o.op = .indexAddr t x ix) (hd : o.dst = some d) (hlt : Nat.blt d N = true) (hx : ev L x = some (.slice A n c)) (hi : ev L ix = some (.int ki i))
    (ht : T.ty.lookup t = some (.slice e)) (hs : T.sz.lookup e = some 1) (hn : n = l.length) (hb : 0 ≤ i ∧ i < (l.length : Int)) (h : ∀ a', FrD Df N a' ((d, elP A i) :: L) → wpList P ops Q rest a' w) : wpList P ops Q (o :: rest) a w :=
  wl_val fr hw hd hlt (el_run hT fr ho hr hx hi ht hs hn hb w) rfl h
theorem sl_pe (hT : T.Ok P) {s : SOp} {rest : List Itm} {t : TypeId} {x ix : Operand} {d n c e : Nat} {ki : IntKind} (hr : Rk k w A l) (fr : FrD Df N a L) (hw : wantS L s = some true) (hq : s.q = true) (ho : s.op = .indexAddr t x ix) (hd : s.dst = some d) (hlt : Nat.blt d N = true) (hx : ev L x = some (.slice A n c)) (hi : ev L ix = some (.int ki i))
    (ht : T.ty.lookup t = some (.slice e)) (hs : T.sz.lookup e = some 1) (hn : n = l.length) (hb : 0 ≤ i ∧ i < (l.length : Int)) (h : ∀ a', FrD Df N a' ((d, elP A i) :: L) → SL P Q S' rest a' w) : SL P Q S' (.one s :: rest) a w :=
  sl_q fr hw hq hd hlt (fun w' _ => el_run hT fr (o := s.oper) ho hr hx hi ht hs hn hb w') rfl h
theorem lde_run (hT : T.Ok P) (fr : FrD Df N a L) {o : Oper} {te : TypeId} {x : Operand} {de : TypeDesc} (ho : o.op = .load te x) (hx : ev L x = some (elP A i)) (hte : T.ty.lookup te = some de) (hde : aggD de = false) (hr : Rk k w A l) (hb : 0 ≤ i ∧ i < (l.length : Int)) :
    (execOp a.eval o).run P w = .ok (.value (.int k (l.getD i.toNat 0))) w ∧ vok (.int k (l.getD i.toNat 0)) = true := by
  have hj : i.toNat < l.length := by omega
  obtain ⟨ad, rfl, -, hc⟩ := hr.rd.cell hj
  have hm : l.getD i.toNat 0 ∈ l := by rw [List.getD_eq_getElem?_getD, List.getElem?_eq_getElem hj]; exact List.getElem_mem hj
  exact ⟨load_run hT fr ho hx hte hde (by rw [Nat.mul_one]; exact hc), hr.wf _ hm⟩
theorem wl_lde (hT : T.Ok P) {o : Oper} {rest : List Oper} {te : TypeId} {x : Operand} {d : Nat} {de : TypeDesc} (hr : Rk k w A l) (fr : FrD Df N a L) (hw : wantL ops L o = some true) (ho : o.op = .load te x) (hd : o.dst = some d) (hlt : Nat.blt d N = true) (hx : ev L x = some (elP A i)) (hte : T.ty.lookup te = some de) (hde : aggD de = false) (hb : 0 ≤ i ∧ i < (l.length : Int))
    (h : ∀ a', FrD Df N a' ((d, .int k (l.getD i.toNat 0)) :: L) → wpList P ops Q rest a' w) : wpList P ops Q (o :: rest) a w :=
  wl_val fr hw hd hlt (lde_run hT fr ho hx hte hde hr hb).1 (lde_run hT fr ho hx hte hde hr hb).2 h
/-- A loud one, in a region. -/
theorem sl_lde (hT : T.Ok P) {s : SOp} {rest : List Itm} {te : TypeId} {x : Operand} {d : Nat} {de : TypeDesc} (hr : Rk k w A l) (fr : FrD Df N a L) (hw : wantS L s = some true) (hq : s.q = false) (ho : s.op = .load te x) (hd : s.dst = some d) (hlt : Nat.blt d N = true) (hx : ev L x = some (elP A i)) (hte : T.ty.lookup te = some de) (hde : aggD de = false) (hb : 0 ≤ i ∧ i < (l.length : Int)) (hS : S' w)
    (h : ∀ a', FrD Df N a' ((d, .int k (l.getD i.toNat 0)) :: L) → SL P Q S' rest a' w) : SL P Q S' (.one s :: rest) a w :=
  sl_val fr hw hq hd hlt (lde_run hT fr (o := s.oper) ho hx hte hde hr hb).1 hS (lde_run hT fr (o := s.oper) ho hx hte hde hr hb).2 h
/-- Two of them, either way about. -/
theorem sl_lde2 (hT : T.Ok P) {s t : SOp} {rest : List Itm} {te tf : TypeId} {x y : Operand} {d d' : Nat} {de df : TypeDesc} {k' : IntKind} {A' : Option Addr} {l' : List Int} {i' : Int} (hr : Rk k w A l) (hr' : Rk k' w A' l') (fr : FrD Df N a L)
    (ho : s.op = .load te x) (hd : s.dst = some d) (hlt : Nat.blt d N = true) (hx : ev L x = some (elP A i)) (hte : T.ty.lookup te = some de) (hde : aggD de = false) (hb : 0 ≤ i ∧ i < (l.length : Int))
    (ho' : t.op = .load tf y) (hd' : t.dst = some d') (hlt' : Nat.blt d' N = true) (hy : ev L y = some (elP A' i')) (htf : T.ty.lookup tf = some df) (hdf : aggD df = false) (hb' : 0 ≤ i' ∧ i' < (l'.length : Int))
    (hxd : ∀ v, ev ((d', v) :: L) x = ev L x) (hyd : ∀ v, ev ((d, v) :: L) y = ev L y) (hne : Nat.beq d d' = false) (hS : S' w)
    (h : ∀ a', FrD Df N a' ((d', .int k' (l'.getD i'.toNat 0)) :: (d, .int k (l.getD i.toNat 0)) :: L) → SL P Q S' rest a' w) : SL P Q S' (.two s t :: rest) a w := by
  have h1 := lde_run hT fr (o := s.oper) ho hx hte hde hr hb
  have h2 := lde_run hT fr (o := t.oper) ho' hy htf hdf hr' hb'
  have f1 : FrD Df N (a.put s.dst (.int k (l.getD i.toNat 0))) ((d, .int k (l.getD i.toNat 0)) :: L) := by rw [hd]; exact fr.put (blt_lt hlt) h1.2
  have f2 : FrD Df N (a.put t.dst (.int k' (l'.getD i'.toNat 0))) ((d', .int k' (l'.getD i'.toNat 0)) :: L) := by rw [hd']; exact fr.put (blt_lt hlt') h2.2
  have hne' : d ≠ d' := fun e => by subst e; simp at hne
  refine s2lv h1.1 (lde_run hT f1 (o := t.oper) ho' (by rw [hyd]; exact hy) htf hdf hr' hb').1 h2.1 (lde_run hT f2 (o := s.oper) ho (by rw [hxd]; exact hx) hte hde hr hb).1 hS hS rfl ?_ (h _ (by rw [hd']; exact f1.put (blt_lt hlt') h2.2))
  rw [hd, hd']
  unfold Act.put
  simp only
  rw [Array.setIfInBounds_comm _ _ hne'.symm]
theorem ste_run (hT : T.Ok P) (fr : FrD Df N a L) {o : Oper} {te : TypeId} {p v : Operand} {c e : Nat} {z : Int} (ho : o.op = .store te p v) (hp : ev L p = some (elP A i)) (hv : ev L v = some (.int k z)) (hs : T.sz.lookup te = some 1) (S : Sat w0 w (ownA k e A c l :: R)) (hb : 0 ≤ i ∧ i < (l.length : Int)) :
    ∃ w', (execOp a.eval o).run P w = .ok .skip w' ∧ Sat w0 w' (ownA k e A c (l.set i.toNat z) :: R) := by
  obtain ⟨j, rfl⟩ : ∃ j : Nat, i = j := ⟨i.toNat, by omega⟩
  rw [Int.toNat_natCast]
  have hj : j < l.length := by omega
  obtain ⟨F, ⟨g1, g2, g3⟩, hF, hk⟩ := S.opened
  obtain ⟨g, c', e1⟩ := g1.ptr (by omega)
  injection e1 with e1 _ e2
  subst e1 e2
  obtain ⟨q1, q2, q3, q4, -, -⟩ := g1.cell hj
  have ea : (⟨g, 0, none⟩ : Addr).add (j * 1) = ⟨g, j, none⟩ := by unfold Addr.add; split <;> simp_all
  have hrun : (storeCells (⟨g, j, none⟩ : Addr) [.int k z]).run P w = .ok () (w.setCell ⟨g, j, none⟩ (.int k z)) := by
    have h2 := run_storeCells_cells (P := P) g j [.int k z] 0 w (fun q hq => by
      have hq : q = 0 := by simpa using hq
      subst hq; simpa using by rw [q1]; rfl) (fun q hq => by
      have hq : q = 0 := by simpa using hq
      subst hq; simpa using q2) (fun u hu => by
      have hu : u = .int k z := by simpa using hu
      subst hu; rfl)
    have h3 : (storeCells (⟨g, j, none⟩ : Addr) [.int k z]).run P w = .ok () (w.setCells g j [.int k z]) := by simpa using h2
    exact h3
  refine ⟨w.setCell ⟨g, j, none⟩ (.int k z), ?_, hk (A' := ownA k e (some ⟨g, 0, none⟩) c (l.set j z)) (F' := F) (G := fun q => q = g) ⟨?_, fun u hu => ?_, fun q => ?_⟩ (Chg.setCell w ⟨g, j, none⟩ _) (fun q _ hq => (g3 q).2 (by subst hq; rfl)) fun q hq => .inl hq⟩
  · have hp' : (elP (some ⟨g, 0, none⟩) (j : Int)) = .pointer (some ⟨g, j, none⟩) := by
      show Value.pointer (some ((⟨g, 0, none⟩ : Addr).add ((j : Int).toNat * 1))) = _
      rw [Int.toNat_natCast, ea]
    rw [hp'] at hp
    unfold execOp
    simp only [ho, (fr.ev hp).1, (fr.ev hv).1, Instr.storeAt, Instr.sureAddr, storeVar, Value.cells]
    simp [size_run hT hs, hrun]
  · have := g1.set hj (x := z)
    rw [List.length_set]; exact this
  · rcases List.mem_or_eq_of_mem_set hu with hu | hu
    · exact g2 u hu
    · subst hu; exact (fr.ev hv).2
  · rw [List.length_set]; exact g3 q
theorem wl_ste (hT : T.Ok P) {o : Oper} {rest : List Oper} {te : TypeId} {p v : Operand} {c e : Nat} {z : Int} (fr : FrD Df N a L) (hw : wantL ops L o = some true) (hd : o.dst = none) (ho : o.op = .store te p v) (hp : ev L p = some (elP A i)) (hv : ev L v = some (.int k z)) (hs : T.sz.lookup te = some 1) (S : Sat w0 w (ownA k e A c l :: R)) (hb : 0 ≤ i ∧ i < (l.length : Int))
    (h : ∀ w', Sat w0 w' (ownA k e A c (l.set i.toNat z) :: R) → wpList P ops Q rest a w') : wpList P ops Q (o :: rest) a w := by
  obtain ⟨w', h1, h2⟩ := ste_run hT fr ho hp hv hs S hb
  exact wl_skip fr hw hd h1 (h w' h2)
theorem sl_ste (hT : T.Ok P) {s : SOp} {rest : List Itm} {te : TypeId} {p v : Operand} {c e : Nat} {z : Int} (fr : FrD Df N a L) (hw : wantS L s = some true) (hq : s.q = false) (hd : s.dst = none) (ho : s.op = .store te p v) (hp : ev L p = some (elP A i)) (hv : ev L v = some (.int k z)) (hs : T.sz.lookup te = some 1) (S : Sat w0 w (ownA k e A c l :: R)) (hb : 0 ≤ i ∧ i < (l.length : Int))
    (h : ∀ w', Sat w0 w' (ownA k e A c (l.set i.toNat z) :: R) → S' w' ∧ SL P Q S' rest a w') : SL P Q S' (.one s :: rest) a w := by
  obtain ⟨w', h1, h2⟩ := ste_run hT fr (o := s.oper) ho hp hv hs S hb
  exact sl_skip fr hw hq hd h1 (h w' h2).1 (h w' h2).2
/-- A call, its arguments spelled another way. -/
theorem wl_callE {o : Oper} {rest : List Oper} {d : Nat} {f : FuncId} {xs ys : List Value} {E : Ending → World → Prop} (fr : FrD Df N a L) (hw : wantL ops L o = some true) (hd : o.dst = some d) (hlt : Nat.blt d N = true) (hc : callL L o = some (f, xs)) (hin : Enters P f) (he : xs = ys) (hcon : Calls P f ys.toArray w E)
    (h : ∀ e w', E e w' → ∃ v, e = .returned v ∧ vok v = true ∧ ∀ a', FrD Df N a' ((d, v) :: L) → wpList P ops Q rest a' w') : wpList P ops Q (o :: rest) a w := wl_call fr hw hd hlt hc hin (he ▸ hcon) h
theorem sl_callE {s : SOp} {rest : List Itm} {d : Nat} {f : FuncId} {xs ys : List Value} {E : Ending → World → Prop} (fr : FrD Df N a L) (hw : wantS L s = some true) (hq : s.q = false) (hd : s.dst = some d) (hlt : Nat.blt d N = true) (hc : callL L s.oper = some (f, xs)) (hin : Enters P f) (he : xs = ys) (hcon : Calls P f ys.toArray w E)
    (h : ∀ e w', E e w' → ∃ v, e = .returned v ∧ vok v = true ∧ S' w' ∧ ∀ a', FrD Df N a' ((d, v) :: L) → SL P Q S' rest a' w') : SL P Q S' (.one s :: rest) a w := sl_call fr hw hq hd hlt hc hin (he ▸ hcon) h
/-- A byte of a string. -/
def strB (s : ByteArray) (i : Nat) : Int := ((s[i]?).map (fun b => (b.toNat : Int))).getD 0
theorem wl_ixs (hT : T.Ok P) {o : Oper} {rest : List Oper} {t : TypeId} {x ix : Operand} {d : Nat} {s : ByteArray} {ki : IntKind} (fr : FrD Df N a L) (hw : wantL ops L o = some true) (hd : o.dst = some d) (hlt : Nat.blt d N = true) (ho : o.op = .index t x ix) (hx : ev L x = some (.string s)) (hi : ev L ix = some (.int ki i)) (ht : T.ty.lookup t = some .string)
    (hb : 0 ≤ i ∧ i < (s.size : Int)) (h : ∀ a', FrD Df N a' ((d, .int .u8 (strB s i.toNat)) :: L) → wpList P ops Q rest a' w) : wpList P ops Q (o :: rest) a w := by
  have hs : i.toNat < s.size := by omega
  have e1 : s[i.toNat]? = some s[i.toNat] := getElem?_pos s i.toNat hs
  have e2 : strB s i.toNat = (s[i.toNat].toNat : Int) := by unfold strB; rw [e1]; rfl
  refine wl_val (v := .int .u8 (strB s i.toNat)) fr hw hd hlt ?_ ?_ h
  · unfold execOp
    simp only [ho, (fr.ev hx).1, (fr.ev hi).1, Instr.index, asIntOf]
    rw [Sem.run_bind, Sem.run_bind, Sem.run_pure, Result.andThen_ok]
    simp only
    rw [Sem.run_bind, run_underlying (hT.und ht), Result.andThen_ok]
    simp only
    rw [if_pos hb.1, e1, e2]; rfl
  · rw [e2]
    have := s[i.toNat].toNat_lt
    show (Lit.int .u8 (s[i.toNat].toNat : Int)).wf = true
    rw [wf_int]
    have h1 : IntKind.u8.min = 0 := by decide
    have h2 : IntKind.u8.max = 255 := by decide
    omega
/-- A variable in a block of its own. -/
theorem Sat.varAt {b e : Nat} {v : Value} {M : List Asn} (S : Sat w0 w M) (j : Nat) (hj : M[j]? = some (stA e b [v])) : w.cell? (⟨b, 0, none⟩ : Addr) = some v ∧ vok v = true := by
  have := S.stAt j hj (j := 0) rfl
  rwa [addr0] at this
theorem wl_allocv {o : Oper} {rest : List Oper} {t : TypeId} {d : Nat} {v : Value} (fr : FrD Df N a L) (hw : wantL ops L o = some true) (hd : o.dst = some d) (hlt : Nat.blt d N = true) (ho : o.op = .alloc t) (hz : ∀ W, (zeroValue t).run P W = .ok v W) (hc : v.cells = #[v]) (hok : vok v = true) (S : Sat w0 w R)
    (h : ∀ w' b, Sat w0 w' (stA t b [v] :: R) → ∀ a', FrD Df N a' ((d, .pointer (some ⟨b, 0, none⟩)) :: L) → wpList P ops Q rest a' w') : wpList P ops Q (o :: rest) a w := by
  refine wl_val (v := .pointer (some ⟨w.heap.size, 0, none⟩)) (w' := w.alloc (.cells #[v] t)) fr hw hd hlt ?_ rfl (h _ _ ?_)
  · unfold execOp
    simp only [ho, Instr.alloc]
    rw [Sem.run_bind, Sem.run_bind, hz, Result.andThen_ok, Sem.run_bind]
    unfold newVar
    rw [hc]
    rfl
  · exact S.add (F := fun g => g = w.heap.size) ((Below.refl _ _).alloc (Nat.le_refl _) _) ⟨heap_alloc_new _ _, by simp [hok], S.below.size, fun g => Iff.rfl⟩ fun g hg => Nat.le_of_eq hg.symm
theorem wl_stv (hT : T.Ok P) {o : Oper} {rest : List Oper} {te : TypeId} {p v : Operand} {b e : Nat} {y z : Value} (fr : FrD Df N a L) (hw : wantL ops L o = some true) (hd : o.dst = none) (ho : o.op = .store te p v) (hp : ev L p = some (.pointer (some ⟨b, 0, none⟩))) (hv : ev L v = some z) (hs : T.sz.lookup te = some 1)
    (hc : z.cells = #[z]) (h1 : z.oneCell' = true) (S : Sat w0 w (stA e b [y] :: R)) (h : ∀ w', Sat w0 w' (stA e b [z] :: R) → wpList P ops Q rest a w') : wpList P ops Q (o :: rest) a w :=
  wl_stf (j := 0) hT fr hw hd ho (by rw [addr0]; exact hp) hv hs hc h1 S rfl h
theorem sl_stv (hT : T.Ok P) {s : SOp} {rest : List Itm} {te : TypeId} {p v : Operand} {b e : Nat} {y z : Value} (fr : FrD Df N a L) (hw : wantS L s = some true) (hq : s.q = false) (hd : s.dst = none) (ho : s.op = .store te p v) (hp : ev L p = some (.pointer (some ⟨b, 0, none⟩))) (hv : ev L v = some z) (hs : T.sz.lookup te = some 1)
    (hc : z.cells = #[z]) (h1 : z.oneCell' = true) (S : Sat w0 w (stA e b [y] :: R)) (h : ∀ w', Sat w0 w' (stA e b [z] :: R) → S' w' ∧ SL P Q S' rest a w') : SL P Q S' (.one s :: rest) a w := by
  obtain ⟨w', h2, h3⟩ := store1_run hT fr (o := s.oper) (j := 0) ho (by rw [addr0]; exact hp) hv hs hc h1 S rfl
  exact sl_skip fr hw hq hd h2 (h w' h3).1 (h w' h3).2
/-- A loud one. -/
theorem sl_ldv (hT : T.Ok P) {s : SOp} {rest : List Itm} {te : TypeId} {x : Operand} {d : Nat} {b : Nat} {v : Value} {de : TypeDesc} (hr : w.cell? (⟨b, 0, none⟩ : Addr) = some v ∧ vok v = true) (fr : FrD Df N a L) (hw : wantS L s = some true) (hq : s.q = false) (ho : s.op = .load te x) (hd : s.dst = some d) (hlt : Nat.blt d N = true)
    (hx : ev L x = some (.pointer (some ⟨b, 0, none⟩))) (hte : T.ty.lookup te = some de) (hde : aggD de = false) (hS : S' w) (h : ∀ a', FrD Df N a' ((d, v) :: L) → SL P Q S' rest a' w) : SL P Q S' (.one s :: rest) a w :=
  sl_val fr hw hq hd hlt (load_run hT fr (o := s.oper) ho hx hte hde hr.1) hS hr.2 h
theorem sl_ldv2 (hT : T.Ok P) {s t : SOp} {rest : List Itm} {te tf : TypeId} {x y : Operand} {d d' b b' : Nat} {v v' : Value} {de df : TypeDesc} (hr : w.cell? (⟨b, 0, none⟩ : Addr) = some v ∧ vok v = true) (hr' : w.cell? (⟨b', 0, none⟩ : Addr) = some v' ∧ vok v' = true) (fr : FrD Df N a L)
    (ho : s.op = .load te x) (hd : s.dst = some d) (hlt : Nat.blt d N = true) (hx : ev L x = some (.pointer (some ⟨b, 0, none⟩))) (hte : T.ty.lookup te = some de) (hde : aggD de = false)
    (ho' : t.op = .load tf y) (hd' : t.dst = some d') (hlt' : Nat.blt d' N = true) (hy : ev L y = some (.pointer (some ⟨b', 0, none⟩))) (htf : T.ty.lookup tf = some df) (hdf : aggD df = false)
    (hxd : ∀ v, ev ((d', v) :: L) x = ev L x) (hyd : ∀ v, ev ((d, v) :: L) y = ev L y) (hne : Nat.beq d d' = false) (hS : S' w)
    (h : ∀ a', FrD Df N a' ((d', v') :: (d, v) :: L) → SL P Q S' rest a' w) : SL P Q S' (.two s t :: rest) a w := by
  have f1 : FrD Df N (a.put s.dst v) ((d, v) :: L) := by rw [hd]; exact fr.put (blt_lt hlt) hr.2
  have f2 : FrD Df N (a.put t.dst v') ((d', v') :: L) := by rw [hd']; exact fr.put (blt_lt hlt') hr'.2
  have hne' : d ≠ d' := fun e => by subst e; simp at hne
  refine s2lv (load_run hT fr (o := s.oper) ho hx hte hde hr.1) (load_run hT f1 (o := t.oper) ho' (by rw [hyd]; exact hy) htf hdf hr'.1) (load_run hT fr (o := t.oper) ho' hy htf hdf hr'.1) (load_run hT f2 (o := s.oper) ho (by rw [hxd]; exact hx) hte hde hr.1) hS hS rfl ?_ (h _ (by rw [hd']; exact f1.put (blt_lt hlt') hr'.2))
  rw [hd, hd']
  unfold Act.put
  simp only
  rw [Array.setIfInBounds_comm _ _ hne'.symm]
/-- A row that is written into: its length stands by itself. -/
def rowA (k : IntKind) (e : TypeId) (A : Option Addr) (c n : Nat) (l : List Int) : Asn where
  holds := fun w B F => (OwnI k w B e (.slice A n c) l ∧ (∀ z ∈ l, (Lit.int k z).wf = true) ∧ ∀ g, F g ↔ (Value.slice A n c).ownBlock = some g) ∧ l.length = n
  keep := fun ⟨⟨h1, h2, h3⟩, h4⟩ hc hF _ => ⟨⟨h1.kept hc fun g hg => hF g ((h3 g).2 hg), h2, h3⟩, h4⟩
  dom := fun ⟨⟨h1, _, h3⟩, _⟩ g hg => h1.lt g ((h3 g).1 hg)
theorem row_own {c e : Nat} : (rowA k e A c l.length l).holds w = fun B F => (ownA k e A c l).holds w B F ∧ l.length = l.length := rfl
theorem Sat.toRow {c e : Nat} (S : Sat w0 w (ownA k e A c l :: R)) : Sat w0 w (rowA k e A c l.length l :: R) := by
  obtain ⟨h1, F, h2, h3, h4⟩ := S
  exact ⟨h1, F, ⟨h2, rfl⟩, h3, h4⟩
theorem Sat.ofRow {c e n : Nat} (S : Sat w0 w (rowA k e A c n l :: R)) : l.length = n ∧ Sat w0 w (ownA k e A c l :: R) := by
  obtain ⟨h1, F, ⟨h2, rfl⟩, h3, h4⟩ := S
  exact ⟨rfl, h1, F, h2, h3, h4⟩
theorem Sat.rowAt {c e n : Nat} {M : List Asn} (S : Sat w0 w M) (j : Nat) (hj : M[j]? = some (rowA k e A c n l)) : Rk k w A l := (S.frontAt j hj).ofRow.2.own.1
theorem Sat.rowLen {c e n : Nat} {M : List Asn} (S : Sat w0 w M) (j : Nat) (hj : M[j]? = some (rowA k e A c n l)) : n = l.length := ((S.frontAt j hj).ofRow.1).symm
theorem Sat.rowHb {c e n : Nat} {M : List Asn} (S : Sat w0 w M) (j : Nat) (hj : M[j]? = some (rowA k e A c n l)) {i : Int} (h : 0 ≤ i ∧ i < (n : Int)) : 0 ≤ i ∧ i < (l.length : Int) := by rw [← S.rowLen j hj]; exact h
theorem wl_str (hT : T.Ok P) {o : Oper} {rest : List Oper} {te : TypeId} {p v : Operand} {c e n : Nat} {z : Int} (fr : FrD Df N a L) (hw : wantL ops L o = some true) (hd : o.dst = none) (ho : o.op = .store te p v) (hp : ev L p = some (elP A i)) (hv : ev L v = some (.int k z)) (hs : T.sz.lookup te = some 1) (S : Sat w0 w (rowA k e A c n l :: R)) (hb : 0 ≤ i ∧ i < (n : Int))
    (h : ∀ w', Sat w0 w' (rowA k e A c n (l.set i.toNat z) :: R) → wpList P ops Q rest a w') : wpList P ops Q (o :: rest) a w := by
  obtain ⟨e1, S1⟩ := S.ofRow
  subst e1
  obtain ⟨w', h1, h2⟩ := ste_run hT fr ho hp hv hs S1 hb
  exact wl_skip fr hw hd h1 (h w' (by have := h2.toRow; rwa [List.length_set] at this))
theorem sl_str (hT : T.Ok P) {s : SOp} {rest : List Itm} {te : TypeId} {p v : Operand} {c e n : Nat} {z : Int} (fr : FrD Df N a L) (hw : wantS L s = some true) (hq : s.q = false) (hd : s.dst = none) (ho : s.op = .store te p v) (hp : ev L p = some (elP A i)) (hv : ev L v = some (.int k z)) (hs : T.sz.lookup te = some 1) (S : Sat w0 w (rowA k e A c n l :: R)) (hb : 0 ≤ i ∧ i < (n : Int))
    (h : ∀ w', Sat w0 w' (rowA k e A c n (l.set i.toNat z) :: R) → S' w' ∧ SL P Q S' rest a w') : SL P Q S' (.one s :: rest) a w := by
  obtain ⟨e1, S1⟩ := S.ofRow
  subst e1
  obtain ⟨w', h1, h2⟩ := ste_run hT fr (o := s.oper) ho hp hv hs S1 hb
  obtain ⟨h3, h4⟩ := h w' (by have := h2.toRow; rwa [List.length_set] at this)
  exact sl_skip fr hw hq hd h1 h3 h4
end
end Go.Proofs.YticnjkdaccacaaaGreatDoor.Sx
end
section
/- Maps of rows: the map, and the rows that it leads to, each on its own. -/
namespace Go.Proofs.YticnjkdaccacaaaGreatDoor.Sx
open Go Go.RowKit Base Own

section
variable {w0 w : World} {B : Nat} {U : Nat → Prop} {L L' R : List Asn}
theorem SatF.perm (h : L.Perm L') : ∀ {U : Nat → Prop}, SatF w B U L → SatF w B U L' := by
  induction h with
  | nil => intro U h; exact h
  | cons A _ ih => rintro U ⟨F, h1, h2, h3⟩; exact ⟨F, h1, h2, ih h3⟩
  | swap A A' L => intro U h; exact h.swap
  | trans _ _ ih1 ih2 => intro U h; exact ih2 (ih1 h)
theorem Sat.perm (S : Sat w0 w L) (h : L.Perm L') : Sat w0 w L' := ⟨S.below, S.parts.perm h⟩
theorem SatF.left : ∀ {X Y : List Asn} {U : Nat → Prop}, SatF w B U (X ++ Y) → SatF w B U X := by
  intro X
  induction X with
  | nil => intro Y U _; trivial
  | cons A X ih => rintro Y U ⟨F, h1, h2, h3⟩; exact ⟨F, h1, h2, ih h3⟩
/-- The first things alone. -/
theorem Sat.firsts (X : List Asn) {Y : List Asn} (S : Sat w0 w (X ++ Y)) : Sat w0 w X := ⟨S.below, S.parts.left⟩
end
/-- A row as a value: where it begins, its room, what stands in it. -/
abbrev Rw := Option Addr × Nat × List Int
def rwV (p : Rw) : Value := .slice p.1 p.2.2.length p.2.1
def rw0 : Rw := (none, 0, [])
theorem rwV_vok (z : Rw) : vokC (rwV z) = vok (rwV z) := rfl
def rowsOf (k : IntKind) (e : TypeId) (m : List (Int × Rw)) : List Asn := m.map fun p => ownA k e p.2.1 p.2.2.1 p.2.2.2
def plM (m : List (Int × Rw)) : List (Int × List Int) := m.map fun p => (p.1, p.2.2.2)
def rowK (m : List (Int × Rw)) (x : Int) : Rw := (lkM m x).getD rw0
theorem lk_pl (m : List (Int × Rw)) (x : Int) : lkM (plM m) x = (lkM m x).map (·.2.2) := by
  induction m with
  | nil => rfl
  | cons p r ih =>
    unfold plM at ih ⊢
    rw [List.map_cons, lkM_cons, lkM_cons, ih]
    split <;> rfl
theorem up_pl (m : List (Int × Rw)) (x : Int) (r : Rw) : plM (upM m x r) = upM (plM m) x r.2.2 := by
  induction m with
  | nil => rfl
  | cons p q ih =>
    unfold plM at ih ⊢
    simp only [List.map_cons, upM]
    by_cases h : p.1 = x
    · rw [if_pos h, if_pos h]; rfl
    · rw [if_neg h, if_neg h, List.map_cons, ih]
theorem keys_pl (m : List (Int × Rw)) : keysM (plM m) = keysM m := by
  unfold keysM plM
  rw [List.map_map]; rfl
theorem up_perm {α : Type} (m : List (Int × α)) (x : Int) (v : α) : (upM m x v).Perm ((x, v) :: delM m x) := by
  induction m with
  | nil => exact List.Perm.refl _
  | cons p r ih =>
    unfold upM delM
    by_cases h : p.1 = x
    · rw [if_pos h, if_pos h, h]
    · rw [if_neg h, if_neg h]
      exact (List.Perm.cons p ih).trans (List.Perm.swap _ _ _)
theorem lk_perm {α : Type} {m : List (Int × α)} {x : Int} {v : α} (h : lkM m x = some v) : m.Perm ((x, v) :: delM m x) := by
  induction m with
  | nil => cases h
  | cons p r ih =>
    rw [lkM_cons] at h
    unfold delM
    by_cases hp : p.1 = x
    · rw [if_pos hp] at h ⊢
      injection h with h
      rw [← h, ← hp]
    · rw [if_neg hp] at h ⊢
      exact (List.Perm.cons p (ih h)).trans (List.Perm.swap _ _ _)
theorem del_none {α : Type} {m : List (Int × α)} {x : Int} (h : lkM m x = none) : delM m x = m := by
  induction m with
  | nil => rfl
  | cons p r ih =>
    rw [lkM_cons] at h
    unfold delM
    by_cases hp : p.1 = x
    · rw [if_pos hp] at h; cases h
    · rw [if_neg hp] at h ⊢; rw [ih h]
section
variable {w0 w : World} {R : List Asn} {k : IntKind} {e : TypeId} {m : List (Int × Rw)}
/-- The row at a key is taken out (nothing there: a nil row). -/
theorem Sat.takeRow (S : Sat w0 w (rowsOf k e m ++ R)) (x : Int) : Sat w0 w (ownA k e (rowK m x).1 (rowK m x).2.1 (rowK m x).2.2 :: (rowsOf k e (delM m x) ++ R)) := by
  unfold rowK
  cases h : lkM m x with
  | none => rw [del_none h]; exact S.nilRow k e
  | some v =>
    refine S.perm ?_
    exact (((lk_perm h).map _).append_right R)
/-- A row is put in at a key. -/
theorem Sat.putRow {r : Rw} (x : Int) (S : Sat w0 w (ownA k e r.1 r.2.1 r.2.2 :: (rowsOf k e (delM m x) ++ R))) : Sat w0 w (rowsOf k e (upM m x r) ++ R) := by
  refine S.perm ?_
  exact (((up_perm m x r).map (fun p => ownA k e p.2.1 p.2.2.1 p.2.2.2)).append_right R).symm
theorem Sat.backRow {r : Rw} {x : Int} (h : lkM m x = some r) (S : Sat w0 w (ownA k e r.1 r.2.1 r.2.2 :: (rowsOf k e (delM m x) ++ R))) : Sat w0 w (rowsOf k e m ++ R) := by
  refine S.perm ?_
  exact (((lk_perm h).map (fun p => ownA k e p.2.1 p.2.2.1 p.2.2.2)).append_right R).symm
theorem rows_mv {H X : List Asn} {Y : List Asn} : (H ++ (X ++ Y)).Perm (X ++ (H ++ Y)) := by
  rw [← List.append_assoc, ← List.append_assoc]
  exact List.perm_append_comm.append_right Y
/-- The same behind other things. -/
theorem Sat.take2 (H : List Asn) (S : Sat w0 w (H ++ (rowsOf k e m ++ R))) (x : Int) : Sat w0 w (ownA k e (rowK m x).1 (rowK m x).2.1 (rowK m x).2.2 :: (H ++ (rowsOf k e (delM m x) ++ R))) :=
  ((S.perm rows_mv).takeRow x).perm (List.Perm.cons _ rows_mv)
theorem Sat.put2 (H : List Asn) {r : Rw} (x : Int) (S : Sat w0 w (ownA k e r.1 r.2.1 r.2.2 :: (H ++ (rowsOf k e (delM m x) ++ R)))) : Sat w0 w (H ++ (rowsOf k e (upM m x r) ++ R)) :=
  (Sat.putRow x (S.perm (List.Perm.cons _ rows_mv))).perm rows_mv
theorem Sat.back2 (H : List Asn) {x : Int} (h : lkM m x ≠ none) (S : Sat w0 w (ownA k e (rowK m x).1 (rowK m x).2.1 (rowK m x).2.2 :: (H ++ (rowsOf k e (delM m x) ++ R)))) : Sat w0 w (H ++ (rowsOf k e m ++ R)) := by
  obtain ⟨r, hr⟩ := Option.ne_none_iff_exists'.1 h
  unfold rowK at S
  rw [hr] at S
  exact (Sat.backRow hr (S.perm (List.Perm.cons _ rows_mv))).perm rows_mv
theorem Sat.readAt (H : List Asn) (S : Sat w0 w (H ++ (rowsOf k e m ++ R))) (x : Int) : Rk k w (rowK m x).1 (rowK m x).2.2 ∧ (rowK m x).2.2.length ≤ (rowK m x).2.1 ∧ (rowK m x).2.1 ≤ maxLen := (S.take2 H x).own
/-- The row at a key reads as what stands there. -/
theorem Sat.readRow (S : Sat w0 w (rowsOf k e m ++ R)) (x : Int) : Rk k w (rowK m x).1 (rowK m x).2.2 ∧ (rowK m x).2.2.length ≤ (rowK m x).2.1 ∧ (rowK m x).2.1 ≤ maxLen := (S.takeRow x).own
end
end Go.Proofs.YticnjkdaccacaaaGreatDoor.Sx
end
section
/- Slices of rows of the call's own: cut, appended to in place, cleared behind their end; calls of functions that have caught something. -/
namespace Go.Proofs.YticnjkdaccacaaaGreatDoor.Sx
open Go Go.RowKit Base Own

section
variable {P : Program} {T : Orc} {ops : Array Oper} {Q : Exit → Act → World → Prop} {S' : World → Prop} {Df : List Deferred} {N : Nat} {a : Act} {w w0 : World} {L : Env} {R : List Asn} {k : IntKind}
theorem sl_mid (t e : TypeId) (kl kh : IntKind) (ht : P.underlying t = some (.slice e)) (hi : (P.info? e).map (·.size) = some 1) (A : Option Addr) (n c l h : Nat) (xl xh : Int) (el : xl = l) (eh : xh = h) (h1 : l ≤ h) (h2 : h ≤ c) :
    ∀ W : World, (Instr.slice t (.slice A n c) (some (.int kl xl)) (some (.int kh xh)) none).run P W = .ok (.slice (dropA A c l) (h - l) (c - l)) W := by
  intro W
  subst el eh
  cases hq : P.info? e with
  | none => simp [hq] at hi
  | some i =>
    have hs : i.size = 1 := by simpa [hq] using hi
    simp only [Instr.slice, Sem.run_bind, run_underlying ht, Result.andThen_ok, Instr.sliceBounds, Instr.sliceBound, asIntOf, Sem.run_pure, Option.isSome]
    rw [if_pos ⟨by omega, by omega⟩]
    simp [sizeOf, typeInfo, hq, hs, dropA, h1]
/-- A slice of a slice, by the run that the operation asks for. -/
theorem slice_run (hT : T.Ok P) (fr : FrD Df N a L) {o : Oper} {t : TypeId} {x : Operand} {lo hi mx : Option Operand} {vlo vhi vmx : Option Value} (ho : o.op = .slice t x lo hi mx) {v : Value} {e : Nat} {A : Option Addr} {n c : Nat} (hx : ev L x = some (.slice A n c))
    (h1 : lo.map a.eval = vlo) (h2 : hi.map a.eval = vhi) (h3 : mx.map a.eval = vmx) (ht : T.ty.lookup t = some (.slice e)) (hr : ∀ w, (Instr.slice t (.slice A n c) vlo vhi vmx).run P w = .ok v w) (w : World) : (execOp a.eval o).run P w = .ok (.value v) w := by
  unfold execOp
  simp only [ho, (fr.ev hx).1, h1, h2, h3, Instr.sliceAt]
  rw [Sem.run_bind, Sem.run_bind, run_underlying (hT.und ht), Result.andThen_ok]
  simp only
  rw [hr]
  rfl
theorem andThen_ok' {α β : Type} {x : Result α} {f : α → World → Result β} {v : β} {w' : World} (h : x.andThen f = .ok v w') : ∃ u w1, x = .ok u w1 ∧ f u w1 = .ok v w' := by
  cases x with
  | ok u w1 => exact ⟨u, w1, rfl, h⟩
  | halt hl w1 => cases h
/-- What is appended where there is room stands behind, in the same row. -/
theorem app_in_exec {t e : TypeId} (RT : RowTy P t e k) (fr : FrD Df N a L) {o : Oper} {x y : Operand} {A Y : Option Addr} {n m c cy : Nat} {l news : List Int} (ho : o.op = .call { callee := .builtin .append, args := #[x, y], argTypes := #[t, t] }) (hx : ev L x = some (.slice A n c)) (hn : n = l.length) (hy : ev L y = some (.slice Y m cy)) (hm : m = news.length)
    (hr : Rk k w Y news) (hb : l.length + news.length ≤ c) (hb2 : (l.length : Int) + (news.length : Int) ≤ 17592186044416) (S : Sat w0 w (ownA k e A c l :: R)) :
    ∃ w', (execOp a.eval o).run P w = .ok (.value (.slice A (l ++ news).length c)) w' ∧ vok (.slice A (l ++ news).length c) = true ∧ Sat w0 w' (ownA k e A c (l ++ news) :: R) := by
  subst hn hm
  obtain ⟨F, ⟨h1, h2, h3⟩, hF, hk⟩ := S.opened
  obtain ⟨bytes, hle, hinfo⟩ := RT.hi
  have hmul : (l.length + news.length) * bytes ≤ (l.length + news.length) * 8 := Nat.mul_le_mul_left _ hle
  obtain ⟨v', w', hrun, h4, h5, h6⟩ := ap_run (P := P) t o.type (.int k 0) bytes RT.ht hinfo rfl h1 Y news.length cy news rfl hr.rd (fun e => by rw [hr.rd.empty e]; rfl) (by unfold maxLen; omega) (by omega) S.below.size
  have hv' : v' = .slice A (l ++ news).length c := by
    obtain ⟨i, hi, hzz⟩ := Option.map_eq_some_iff.1 hinfo
    have hrun' := hrun
    unfold Builtin.append_ at hrun'
    simp only [List.getElem?_toArray, List.getElem?_cons_zero, List.getElem?_cons_succ] at hrun'
    rw [Sem.run_bind, run_underlying RT.ht, Result.andThen_ok] at hrun'
    simp only at hrun'
    rw [Sem.run_bind] at hrun'
    obtain ⟨u, w1, q1, hrun'⟩ := andThen_ok' hrun'
    rw [Sem.run_bind] at hrun'
    obtain ⟨z, w2, q2, hrun'⟩ := andThen_ok' hrun'
    rw [run_underlying RT.ht] at q2
    injection q2 with q2 _
    subst q2
    rw [Sem.run_bind] at hrun'
    obtain ⟨zz, w3, q3, hrun'⟩ := andThen_ok' hrun'
    have hzz : zz = false := by injection q3 with q3; exact q3.symm
    subst hzz
    simp only [Bool.false_eq_true, if_false] at hrun'
    rw [Sem.run_bind] at hrun'
    obtain ⟨nn, w3', q4, hrun'⟩ := andThen_ok' hrun'
    have hnn : nn = news.length := by injection q4 with q4; exact q4.symm
    subst hnn
    rw [if_pos hb, Sem.run_bind] at hrun'
    obtain ⟨cs, w4, q5, hrun'⟩ := andThen_ok' hrun'
    have hl : (l ++ news).length = l.length + news.length := List.length_append
    rw [hl]
    cases A with
    | none => injection hrun' with hrun'; exact hrun'.symm
    | some ad =>
      simp only at hrun'
      rw [Sem.run_bind] at hrun'
      obtain ⟨_, w5, q6, hrun'⟩ := andThen_ok' hrun'
      injection hrun' with hrun'; exact hrun'.symm
  subst hv'
  obtain ⟨A', c', e', h7, h8, _, _⟩ := h4.slice
  injection e' with e1 e2 e3
  subst e3
  refine ⟨w', ?_, vok_sl ⟨h7, h8⟩, ?_⟩
  · unfold execOp
    simp only [ho, resolve]
    rw [Sem.run_bind, Sem.run_pure, Result.andThen_ok]
    simp only [invoke, builtin, List.map_toArray, List.map_cons, List.map_nil, (fr.ev hx).1, (fr.ev hy).1]
    rw [Sem.run_bind, hrun]; rfl
  · refine hk (A' := ownA k e A c (l ++ news)) (F' := F) (G := fun g => F g) ⟨h4, fun z hz => ?_, fun g => ?_⟩ ?_ (fun g _ hg => hg) fun g hg => .inl hg
    · rcases List.mem_append.1 hz with hz | hz
      · exact h2 z hz
      · exact hr.wf z hz
    · rw [h3 g]; cases A <;> rfl
    · refine (Chg.of_grown h5).mono fun g _ hg => (h3 g).2 hg.symm
theorem row_setCells {e : TypeId} (b : Nat) : ∀ (vs : List Value) (o : Nat) (w : World) (cur : Array Value), w.heap[b]? = some (.cells cur e (0, 0)) → ∃ cur', (w.setCells b o vs).heap[b]? = some (.cells cur' e (0, 0)) ∧ cur'.size = cur.size ∧ (∀ m, m ≤ o → cur'.toList.take m = cur.toList.take m) ∧ Chg (fun g => g = b) w (w.setCells b o vs) := by
  intro vs
  induction vs with
  | nil => intro o w cur h; exact ⟨cur, h, rfl, fun _ _ => rfl, Chg.refl _ _⟩
  | cons v vs ih =>
    intro o w cur h
    have h1 := heap_setCell_same w b o cur e v h
    obtain ⟨cur', q1, q2, q3, q4⟩ := ih (o + 1) (w.setCell ⟨b, o, none⟩ v) _ h1
    refine ⟨cur', q1, ?_, fun m hm => ?_, (Chg.setCell w ⟨b, o, none⟩ v).trans q4 fun _ _ h => h⟩
    · rw [q2]; simp
    · rw [q3 m (by omega)]
      simp [List.take_set_of_le, hm]
theorem sl_appin {t e : TypeId} (RT : RowTy P t e k) {s : SOp} {rest : List Itm} {d : Nat} {x y : Operand} {A Y : Option Addr} {n m c cy : Nat} {l news : List Int} (fr : FrD Df N a L) (hw : wantS L s = some true) (hq : s.q = false) (hd : s.dst = some d) (hlt : Nat.blt d N = true) (ho : s.op = .call { callee := .builtin .append, args := #[x, y], argTypes := #[t, t] }) (hx : ev L x = some (.slice A n c)) (hn : n = l.length) (hy : ev L y = some (.slice Y m cy)) (hm : m = news.length)
    (hr : Rk k w Y news) (hb : l.length + news.length ≤ c) (hb2 : (l.length : Int) + (news.length : Int) ≤ 17592186044416) (S : Sat w0 w (ownA k e A c l :: R))
    (h : ∀ w', Sat w0 w' (ownA k e A c (l ++ news) :: R) → S' w' ∧ ∀ a', FrD Df N a' ((d, .slice A (l ++ news).length c) :: L) → SL P Q S' rest a' w') : SL P Q S' (.one s :: rest) a w := by
  obtain ⟨w', h1, h2, h3⟩ := app_in_exec (P := P) RT fr (o := s.oper) ho hx hn hy hm hr hb hb2 S
  exact sl_val fr hw hq hd hlt h1 (h w' h3).1 h2 (h w' h3).2
theorem Sat.takeTo {e : TypeId} {A : Option Addr} {c : Nat} {l : List Int} (S : Sat w0 w (ownA k e A c l :: R)) (n : Nat) : Sat w0 w (ownA k e A c (l.take n) :: R) := by
  by_cases hn : n ≤ l.length
  · obtain ⟨F, ⟨h1, h2, h3⟩, hF, hk⟩ := S.opened
    have hl : (l.take n).length = n := by rw [List.length_take]; omega
    refine hk (A' := ownA k e A c (l.take n)) (F' := F) (G := fun _ => False) ⟨?_, fun z hz => h2 z (List.mem_of_mem_take hz), fun g => ?_⟩ (Chg.refl _ _) (fun _ _ h => h.elim) fun g hg => .inl hg
    · rcases h1.2 with ⟨e1, e2⟩ | ⟨g, cap, cur, e1, hB, hg, h4, h5, h6, h7⟩
      · injection e1 with e3 e4 e5
        subst e3 e5
        have : l = [] := List.eq_nil_of_length_eq_zero e2
        subst this
        simp only [List.take_nil]
        exact OwnI.nil k w _ e
      · injection e1 with e3 e4 e5
        subst e3 e5
        refine ⟨by simp, .inr ⟨g, c, cur, rfl, hB, hg, by omega, h5, h6, ?_⟩⟩
        have h8 := congrArg (List.take n) h7
        rw [List.take_take] at h8
        rw [hl, List.map_take, ← h8]
        congr 1
        omega
    · rw [h3 g]
      cases A <;> simp [Value.ownBlock]
  · rw [List.take_of_length_le (by omega)]; exact S
/-- Numbers behind the end of a row are cleared. -/
theorem clear_exec {t e : TypeId} (RT : RowTy P t e k) (fr : FrD Df N a L) {o : Oper} {x : Operand} {A : Option Addr} {j n c : Nat} {l : List Int} (ho : o.op = .call { callee := .builtin .clear, args := #[x], argTypes := #[t] }) (hx : ev L x = some (.slice (dropA A c j) n (c - j))) (hj : l.length ≤ j) (hn : j + n ≤ c) (h0 : 0 < n)
    (S : Sat w0 w (ownA k e A c l :: R)) : ∃ w', (execOp a.eval o).run P w = .ok (.value (.tuple #[])) w' ∧ Sat w0 w' (ownA k e A c l :: R) := by
  obtain ⟨F, ⟨h1, h2, h3⟩, hF, hk⟩ := S.opened
  obtain ⟨bytes, hle, hinfo⟩ := RT.hi
  obtain ⟨i, hi, hzz⟩ := Option.map_eq_some_iff.1 hinfo
  simp only [Prod.mk.injEq] at hzz
  obtain ⟨hz0, hs, hby⟩ := hzz
  have hzv : ∀ W, (zeroValue e).run P W = .ok (.int k 0) W := fun W => by
    unfold zeroValue typeInfo
    simp [Sem.run_bind, hi, hz0, Result.andThen]
  rcases h1.2 with ⟨e1, e2⟩ | ⟨g, cap, cur, e1, hB, hg, h4, h5, h6, h7⟩
  · injection e1 with e3 e4 e5
    omega
  · injection e1 with e3 e4 e5
    subst e3 e5
    have hd : dropA (some (⟨g, 0, none⟩ : Addr)) c j = some ⟨g, j, none⟩ := by
      unfold dropA
      rw [if_neg (by omega)]
      simp [Addr.add]
      omega
    rw [hd] at hx
    have hcell : ∀ q, q < n → (w.cell? ⟨g, j + 0 + q, none⟩).isSome = true := fun q hq => by
      rw [cell_of_row _ _ _ _ _ _ hg, Array.getElem?_eq_getElem (by omega)]; rfl
    have hfz : ∀ q, q < n → w.frozen? ⟨g, j + 0 + q, none⟩ = false := fun q _ => frozen_of_row w g _ _ _ hg
    have hzc : (Builtin.zeroCells (Value.int k 0).cells n).toList = List.replicate n (.int k 0) := by
      unfold Builtin.zeroCells
      apply List.ext_getElem
      · simp [Value.cells]
      · intro q h1' h2'
        simp [Value.cells, Nat.mod_one]
    have hst := run_storeCells_cells (P := P) g j (List.replicate n (.int k 0)) 0 w (by simpa using hcell) (by simpa using hfz) (fun v hv => by rw [List.eq_of_mem_replicate hv]; rfl)
    refine ⟨w.setCells g (j + 0) (List.replicate n (.int k 0)), ?_, ?_⟩
    · unfold execOp
      simp only [ho, resolve]
      rw [Sem.run_bind, Sem.run_pure, Result.andThen_ok]
      simp only [invoke, builtin, List.map_toArray, List.map_cons, List.map_nil, (fr.ev hx).1]
      rw [Sem.run_bind]
      unfold Builtin.clear_
      simp only [List.getElem?_toArray, List.getElem?_cons_zero, List.getElem?_cons_succ]
      rw [Sem.run_bind, run_underlying RT.ht, Result.andThen_ok]
      cases n with
      | zero => omega
      | succ n =>
        simp only
        rw [Sem.run_bind, hzv, Result.andThen_ok, hzc, Sem.run_bind, hst]
        rfl
    · obtain ⟨cur', q1, q2, q3, q4⟩ := row_setCells (e := e) g (List.replicate n (.int k 0)) (j + 0) w cur hg
      refine hk (A' := ownA k e (some ⟨g, 0, none⟩) c l) (F' := F) (G := fun b => b = g) ⟨⟨by simp, .inr ⟨g, c, cur', rfl, hB, q1, h4, h5, by omega, ?_⟩⟩, h2, h3⟩ q4 (fun b _ hb => (h3 b).2 (by rw [hb]; rfl)) fun b hb => .inl hb
      rw [q3 _ (by omega)]; exact h7
/-- A variable is boxed. -/
theorem wl_boxv {o : Oper} {rest : List Oper} {t : TypeId} {x : Operand} {d : Nat} {v : Value} (fr : FrD Df N a L) (hw : wantL ops L o = some true) (hd : o.dst = some d) (hlt : Nat.blt d N = true) (ho : o.op = .box t x) (hx : ev L x = some v) (hc : v.cells = #[v]) (S : Sat w0 w R)
    (h : ∀ w' b, Sat w0 w' (stA t b [v] :: R) → ∀ a', FrD Df N a' ((d, .pointer (some ⟨b, 0, none⟩)) :: L) → wpList P ops Q rest a' w') : wpList P ops Q (o :: rest) a w := by
  refine wl_val (v := .pointer (some ⟨w.heap.size, 0, none⟩)) (w' := w.alloc (.cells #[v] t)) fr hw hd hlt ?_ rfl (h _ _ ?_)
  · have e := (fr.ev hx).1
    unfold execOp
    simp only [ho, e]
    have hr : (Instr.box t v).run P w = .ok (.pointer (some ⟨w.heap.size, 0, none⟩)) (w.alloc (.cells v.cells t)) := rfl
    rw [Sem.run_bind, hr, hc]
    rfl
  · exact S.add (F := fun g => g = w.heap.size) ((Below.refl _ _).alloc (Nat.le_refl _) _) ⟨heap_alloc_new _ _, by rw [List.all_cons, List.all_nil, Bool.and_true]; exact (fr.ev hx).2, S.below.size, fun g => Iff.rfl⟩ fun g hg => Nat.le_of_eq hg.symm
/-- A function value that has caught something. -/
theorem wl_makef {o : Oper} {rest : List Oper} {d : Nat} {g : FuncId} {cs : Array Operand} {xs : List Value} (fr : FrD Df N a L) (hw : wantL ops L o = some true) (hd : o.dst = some d) (hlt : Nat.blt d N = true) (ho : o.op = .makeFunc (.func g) #[] cs) (hx : evs L cs.toList = some xs)
    (h : ∀ a', FrD Df N a' ((d, .func (.func g) #[] xs.toArray) :: L) → wpList P ops Q rest a' w) : wpList P ops Q (o :: rest) a w := by
  refine wl_val (v := .func (.func g) #[] xs.toArray) fr hw hd hlt ?_ rfl h
  have e : cs.map a.eval = xs.toArray := by
    apply Array.toList_inj.1
    rw [Array.toList_map, (evs_run fr hx).1]
  unfold execOp
  simp only [ho, e]
  rw [Sem.run_bind, Array.map_empty]
  rfl
/-- A call through such a value. -/
theorem wl_callc {o : Oper} {rest : List Oper} {d : Nat} {g : FuncId} {x : Operand} {xs : List Value} {lb : Array Value} {c : Call} {E : Ending → World → Prop} (fr : FrD Df N a L) (hw : wantL ops L o = some true) (hd : o.dst = some d) (hlt : Nat.blt d N = true) (ho : o.op = .call c) (hc : c.callee = .value x) (hx : ev L x = some (.func (.func g) #[] lb)) (hxs : evs L c.args.toList = some xs) (hin : Enters P g) (hcon : Calls P g (xs.toArray ++ lb) w E)
    (h : ∀ e w', E e w' → ∃ v, e = .returned v ∧ vok v = true ∧ ∀ a', FrD Df N a' ((d, v) :: L) → wpList P ops Q rest a' w') : wpList P ops Q (o :: rest) a w := by
  have e : c.args.map a.eval = xs.toArray := by
    apply Array.toList_inj.1
    rw [Array.toList_map, (evs_run fr hxs).1]
  have hrun : (execOp a.eval o).run P w = .ok (.enter g (xs.toArray ++ lb)) w := by
    unfold execOp
    simp only [ho, resolve, hc, (fr.ev hx).1, Deferred.ofValue]
    rw [Sem.run_bind, Sem.run_pure, Result.andThen_ok]
    simp only [invoke]
    have e3 := hin (xs.toArray ++ lb) w
    rw [← e] at e3 ⊢
    simpa using e3
  refine wl_op fr hw fun K hK => wp_call hrun (hcon.mono fun e' w' hR => ?_)
  obtain ⟨v, he, hv, hk⟩ := h e' w' hR
  exact ⟨v, he, hK _ _ (by rw [hd]; exact hk _ (fr.put (blt_lt hlt) hv))⟩
theorem wl_val0 {o : Oper} {rest : List Oper} {v : Value} {w' : World} (fr : FrD Df N a L) (hw : wantL ops L o = some true) (hd : o.dst = none) (hrun : (execOp a.eval o).run P w = .ok (.value v) w') (h : wpList P ops Q rest a w') : wpList P ops Q (o :: rest) a w :=
  wl_op fr hw fun K' hK => wp_value hrun (hK _ _ (by rw [hd]; exact h))
theorem dropq_run (hT : T.Ok P) {o : Oper} {t : TypeId} {x y : Operand} {A : Option Addr} {l : List Int} {n c e : Nat} {ki : IntKind} {i : Int} (fr : FrD Df N a L) (ho : o.op = .slice t x (some y) none none)
    (hx : ev L x = some (.slice A n c)) (hy : ev L y = some (.int ki i)) (ht : T.ty.lookup t = some (.slice e)) (hi : (P.info? e).map (·.size) = some 1) (hn : n = l.length) (hb : 0 ≤ i ∧ i ≤ (l.length : Int)) :
    (∀ w, (execOp a.eval o).run P w = .ok (.value (.slice (dropA A c i.toNat) (l.drop i.toNat).length (c - i.toNat))) w) ∧ vok (.slice (dropA A c i.toNat) (l.drop i.toNat).length (c - i.toNat)) = true := by
  subst hn
  have hv := (fr.ev hx).2
  have hv2 : l.length ≤ c ∧ c ≤ maxLen := by simpa [vok, vokC, vok1] using hv
  have hl : (l.drop i.toNat).length = l.length - i.toNat := List.length_drop
  rw [hl]
  refine ⟨fun w => slice_run hT fr ho hx (vlo := some (.int ki (i.toNat : Int))) (vhi := none) (vmx := none) (by rw [show ((i.toNat : Nat) : Int) = i by omega]; exact congrArg some (fr.ev hy).1) rfl rfl ht (sl_drop _ e ki (hT.und ht) hi A l.length c i.toNat (by omega)) w, vok_sl ⟨by omega, by omega⟩⟩
theorem wl_drop (hT : T.Ok P) {o : Oper} {rest : List Oper} {t : TypeId} {x y : Operand} {d : Nat} {A : Option Addr} {l : List Int} {n c e : Nat} {ki : IntKind} {i : Int} (fr : FrD Df N a L) (hw : wantL ops L o = some true) (ho : o.op = .slice t x (some y) none none) (hd : o.dst = some d) (hlt : Nat.blt d N = true)
    (hx : ev L x = some (.slice A n c)) (hy : ev L y = some (.int ki i)) (ht : T.ty.lookup t = some (.slice e)) (hi : (P.info? e).map (·.size) = some 1) (hn : n = l.length) (hb : 0 ≤ i ∧ i ≤ (l.length : Int))
    (h : ∀ a', FrD Df N a' ((d, .slice (dropA A c i.toNat) (l.drop i.toNat).length (c - i.toNat)) :: L) → wpList P ops Q rest a' w) : wpList P ops Q (o :: rest) a w :=
  wl_val fr hw hd hlt ((dropq_run hT fr ho hx hy ht hi hn hb).1 w) (dropq_run hT fr ho hx hy ht hi hn hb).2 h
theorem sl_dropq (hT : T.Ok P) {s : SOp} {rest : List Itm} {t : TypeId} {x y : Operand} {d : Nat} {A : Option Addr} {l : List Int} {n c e : Nat} {ki : IntKind} {i : Int} (fr : FrD Df N a L) (hw : wantS L s = some true) (hq : s.q = true) (ho : s.op = .slice t x (some y) none none) (hd : s.dst = some d) (hlt : Nat.blt d N = true)
    (hx : ev L x = some (.slice A n c)) (hy : ev L y = some (.int ki i)) (ht : T.ty.lookup t = some (.slice e)) (hi : (P.info? e).map (·.size) = some 1) (hn : n = l.length) (hb : 0 ≤ i ∧ i ≤ (l.length : Int))
    (h : ∀ a', FrD Df N a' ((d, .slice (dropA A c i.toNat) (l.drop i.toNat).length (c - i.toNat)) :: L) → SL P Q S' rest a' w) : SL P Q S' (.one s :: rest) a w :=
  sl_q fr hw hq hd hlt (fun w _ => (dropq_run hT fr (o := s.oper) ho hx hy ht hi hn hb).1 w) (dropq_run hT fr (o := s.oper) ho hx hy ht hi hn hb).2 h
theorem sl_takeq (hT : T.Ok P) {s : SOp} {rest : List Itm} {t : TypeId} {x y : Operand} {d : Nat} {A : Option Addr} {l : List Int} {n c e sz : Nat} {ki : IntKind} {i : Int} (fr : FrD Df N a L) (hw : wantS L s = some true) (hq : s.q = true) (ho : s.op = .slice t x none (some y) none) (hd : s.dst = some d) (hlt : Nat.blt d N = true)
    (hx : ev L x = some (.slice A n c)) (hy : ev L y = some (.int ki i)) (ht : T.ty.lookup t = some (.slice e)) (hs : T.sz.lookup e = some sz) (hn : n = l.length) (hb : 0 ≤ i ∧ i ≤ (l.length : Int))
    (h : ∀ a', FrD Df N a' ((d, .slice A (l.take i.toNat).length c) :: L) → SL P Q S' rest a' w) : SL P Q S' (.one s :: rest) a w := by
  subst hn
  have hv := (fr.ev hx).2
  have hv2 : l.length ≤ c ∧ c ≤ maxLen := by simpa [vok, vokC, vok1] using hv
  have hl : (l.take i.toNat).length = i.toNat := by rw [List.length_take]; omega
  exact sl_q fr hw hq hd hlt (fun w _ => take_run hT fr (o := s.oper) ho hx hy ht hs ⟨hb.1, by omega⟩ w) (vok_sl ⟨by omega, hv2.2⟩) fun a' fr' => h a' (by rw [hl]; exact fr')
end
end Go.Proofs.YticnjkdaccacaaaGreatDoor.Sx
end
section
/- A range over a map whose keys are whole numbers, which stays as it is meanwhile. -/
namespace Go.Proofs.YticnjkdaccacaaaGreatDoor.Sx
open Go Go.RowKit Base Own Go.ChangeMaps

/-- A map and an iterator over it: `left` are still to come, `cur` was the last one. -/
def iterA {α : Type} (k : IntKind) (f : α → Value) (b r : Nat) (m left : List (Int × α)) (cur : Option (Int × α)) : Asn where
  holds := fun w B F => (∃ es clock seen since c0, w.heap[b]? = some (.map es clock) ∧ Tells k f es clock m ∧ w.heap[r]? = some (.mapIter (some b) since seen c0) ∧ (∀ x ∈ es.toList, x.born < since) ∧ since ≤ c0 ∧ since ≤ clock ∧
      (leftOf es seen).toList.map (fun e => (e.key, e.val)) = left.map (fun p => (Value.int k p.1, f p.2)) ∧
      (∀ p, cur = some p → ∃ e ∈ es.toList, ∃ s0 : Array Nat, seen = s0.push e.born ∧ c0 = clock ∧ e.key = .int k p.1 ∧ e.val = f p.2)) ∧ B ≤ b ∧ B ≤ r ∧ r ≠ b ∧ ∀ g, F g ↔ g = b ∨ g = r
  keep := fun ⟨⟨es, cl, seen, si, c0, h1, h2, h3, h4⟩, g1, g2, g3, g4⟩ hc hF _ => ⟨⟨es, cl, seen, si, c0, by rw [hc.block _ (Array.getElem?_eq_some_iff.1 h1).1 (hF _ ((g4 _).2 (.inl rfl)))]; exact h1, h2, by rw [hc.block _ (Array.getElem?_eq_some_iff.1 h3).1 (hF _ ((g4 _).2 (.inr rfl)))]; exact h3, h4⟩, g1, g2, g3, g4⟩
  dom := fun ⟨⟨es, cl, seen, si, c0, h1, h2, h3, h4⟩, g1, g2, g3, g4⟩ g hg => by
    rcases (g4 g).1 hg with rfl | rfl
    · exact ⟨g1, (Array.getElem?_eq_some_iff.1 h1).1⟩
    · exact ⟨g2, (Array.getElem?_eq_some_iff.1 h3).1⟩
section
variable {α : Type} {P : Program} {T : Orc} {ops : Array Oper} {Q : Exit → Act → World → Prop} {Df : List Deferred} {N : Nat} {a : Act} {w w0 : World} {L : Env} {R : List Asn} {k : IntKind} {f : α → Value} {b r : Nat} {m left : List (Int × α)} {cur : Option (Int × α)}
theorem wl_range (hT : T.Ok P) {o : Oper} {rest : List Oper} {t kt et : TypeId} {x : Operand} {d : Nat} (fr : FrD Df N a L) (hw : wantL ops L o = some true) (hd : o.dst = some d) (hlt : Nat.blt d N = true) (ho : o.op = .range t x) (hx : ev L x = some (.map (some b))) (ht : T.ty.lookup t = some (.map kt et)) (S : Sat w0 w (mapA k f b m :: R))
    (h : ∀ w' r, Sat w0 w' (iterA k f b r m m none :: R) → ∀ a', FrD Df N a' ((d, .pointer (some ⟨r, 0, none⟩)) :: L) → wpList P ops Q rest a' w') : wpList P ops Q (o :: rest) a w := by
  obtain ⟨F, ⟨⟨es, cl, h1, h2⟩, h3, h4⟩, hF, hk⟩ := S.opened
  have hlb := (Array.getElem?_eq_some_iff.1 h1).1
  refine wl_val (v := .pointer (some ⟨w.heap.size, 0, none⟩)) (w' := w.alloc (.mapIter (some b) cl #[] cl)) fr hw hd hlt ?_ rfl (h _ _ ?_)
  · unfold execOp
    simp only [ho, (fr.ev hx).1]
    rw [Sem.run_bind, run_range_map w t kt et b es cl (hT.und ht) h1]
    rfl
  · refine hk (A' := iterA k f b w.heap.size m m none) (F' := fun g => g = b ∨ g = w.heap.size) (G := fun _ => False) ⟨⟨es, cl, #[], cl, cl, ?_, h2, heap_alloc_new _ _, h2.born.2, Nat.le_refl _, Nat.le_refl _, ?_, fun p hp => by cases hp⟩, h3, ?_, by omega, fun g => Iff.rfl⟩ (Chg.alloc w _) (fun _ _ h => h.elim) fun g hg => ?_
    · rw [Below.heap_alloc w _ b hlb]; exact h1
    · have : (leftOf es #[]).toList = es.toList := by simp [leftOf]
      rw [this]; exact h2.ents
    · have := (hF b ((h4 b).2 rfl)).1; omega
    · rcases hg with rfl | rfl
      · exact .inl ((h4 _).2 rfl)
      · exact .inr (Nat.le_refl _)
theorem filter_ne : ∀ {l : List MapEntry} {e : MapEntry}, (l.map (·.born)).Nodup → e ∈ l → ∃ l1 l2, l = l1 ++ e :: l2 ∧ l.filter (fun x => !(x.born == e.born)) = l1 ++ l2 := by
  intro l
  induction l with
  | nil => intro e _ he; cases he
  | cons y l ih =>
    intro e hn he
    rw [List.map_cons, List.nodup_cons] at hn
    by_cases hy : y.born = e.born
    · have : e = y := by
        rcases List.mem_cons.1 he with h | h
        · exact h
        · exact absurd (List.mem_map.2 ⟨e, h, hy.symm⟩) hn.1
      subst this
      refine ⟨[], l, rfl, ?_⟩
      rw [List.filter_cons]
      simp only [beq_self_eq_true, Bool.not_true, Bool.false_eq_true, if_false, List.nil_append]
      rw [List.filter_eq_self]
      intro z hz
      have : z.born ≠ e.born := fun q => hn.1 (List.mem_map.2 ⟨z, hz, q⟩)
      simp [this]
    · have hm : e ∈ l := by
        rcases List.mem_cons.1 he with h | h
        · subst h; exact absurd rfl hy
        · exact h
      obtain ⟨l1, l2, h1, h2⟩ := ih hn.2 hm
      refine ⟨y :: l1, l2, by rw [h1]; rfl, ?_⟩
      rw [List.filter_cons]
      simp only [show (y.born == e.born) = false from by simpa using hy, Bool.not_false, if_true, h2]
      rfl
theorem wl_next (hf : ∀ z, vokC (f z) = vok (f z)) {o : Oper} {rest : List Oper} {x : Operand} {d : Nat} (fr : FrD Df N a L) (hw : wantL ops L o = some true) (hd : o.dst = some d) (hlt : Nat.blt d N = true) (ho : o.op = .next x false) (hx : ev L x = some (.pointer (some ⟨r, 0, none⟩))) (S : Sat w0 w (iterA k f b r m left cur :: R))
    (h0 : left = [] → ∀ a', FrD Df N a' ((d, .tuple #[.bool false]) :: L) → wpList P ops Q rest a' w)
    (h1 : ∀ w' p l1 l2, left = l1 ++ p :: l2 → Sat w0 w' (iterA k f b r m (l1 ++ l2) (some p) :: R) → ∀ a', FrD Df N a' ((d, .tuple #[.bool true, .int k p.1, f p.2]) :: L) → wpList P ops Q rest a' w') : wpList P ops Q (o :: rest) a w := by
  obtain ⟨F, ⟨⟨es, cl, seen, si, c0, e1, e2, e3, e4, e5, e6, e7, e8⟩, g1, g2, g3, g4⟩, hF, hk⟩ := S.opened
  rcases run_next_at (P := P) w o.type r b si c0 seen es cl e3 e1 e4 e5 with ⟨h2, h3⟩ | ⟨e, he, w1, hal, h3⟩
  · refine wl_val (v := .tuple #[.bool false]) (w' := w) fr hw hd hlt ?_ rfl (h0 ?_)
    · unfold execOp
      simp only [ho, (fr.ev hx).1]
      rw [Sem.run_bind, h3]; rfl
    · have := congrArg List.length e7
      rw [List.length_map, List.length_map, Array.length_toList, h2] at this
      exact List.eq_nil_of_length_eq_zero this.symm
  · have hem : e ∈ es.toList := by
      have := he
      unfold leftOf at this
      simp at this
      simpa using this.1
    have hn : ((leftOf es seen).toList.map (·.born)).Nodup := by
      unfold leftOf
      rw [Array.toList_filter]
      exact e2.born.1.sublist ((List.filter_sublist).map _)
    obtain ⟨l1, l2, q1, q2⟩ := filter_ne hn he
    rw [q1, List.map_append, List.map_cons] at e7
    obtain ⟨m1, m2, rfl, q3, q4⟩ := List.map_eq_append_iff.1 e7.symm
    obtain ⟨p, m3, rfl, q5, q6⟩ := List.map_eq_cons_iff.1 q4
    injection q5 with q7 q8
    have hv : vok (.tuple #[.bool true, .int k p.1, f p.2]) = true := by
      have : (Value.int k p.1, f p.2) ∈ m.map (fun p => (Value.int k p.1, f p.2)) := by
        rw [← e2.ents, q7, q8]; exact List.mem_map.2 ⟨e, hem, rfl⟩
      obtain ⟨p', hp', q9⟩ := List.mem_map.1 this
      injection q9 with q10 q11
      have hw' := e2.wf p' hp'
      rw [q11] at hw'
      injection q10 with _ q12
      rw [q12] at hw'
      show [Value.bool true, .int k p.1, f p.2].all vokC = true
      simp only [List.all_cons, List.all_nil, hf, hw'.2, Bool.and_true]
      exact hw'.1
    refine wl_val (v := .tuple #[.bool true, .int k p.1, f p.2]) (w' := setBlock w1 r (.mapIter (some b) si (seen.push e.born) cl)) fr hw hd hlt ?_ hv (h1 _ p m1 m3 rfl ?_)
    · unfold execOp
      simp only [ho, (fr.ev hx).1]
      rw [Sem.run_bind, h3, q7, q8]; rfl
    · have hr1 : r < w1.heap.size := by rcases hal with rfl | rfl <;> exact (Array.getElem?_eq_some_iff.1 e3).1
      have hb1 : w1.heap[b]? = some (.map es cl) := by rcases hal with rfl | rfl <;> exact e1
      refine hk (A' := iterA k f b r m (m1 ++ m3) (some p)) (F' := F) (G := fun g => g = r) ⟨⟨es, cl, seen.push e.born, si, cl, ?_, e2, ?_, e4, e6, e6, ?_, fun p' hp' => ?_⟩, g1, g2, g3, g4⟩ ?_ (fun g _ hg => (g4 g).2 (.inr hg)) fun g hg => .inl hg
      · simp only [setBlock]; rw [Array.getElem?_setIfInBounds_ne g3]; exact hb1
      · simp [setBlock, hr1]
      · have : (leftOf es (seen.push e.born)).toList = (leftOf es seen).toList.filter (fun x => !(x.born == e.born)) := by
          unfold leftOf
          rw [Array.toList_filter, Array.toList_filter, List.filter_filter]
          congr 1
          funext x
          rw [contains_push]
          cases seen.contains x.born <;> cases (x.born == e.born) <;> rfl
        rw [this, q2, List.map_append, List.map_append, q3, q6]
      · injection hp' with hp'; subst hp'
        exact ⟨e, hem, seen, rfl, rfl, q7.symm, q8.symm⟩
      · rcases hal with rfl | rfl
        · exact ⟨rfl, rfl, rfl, by simp [setBlock], fun g _ hg => by simp only [setBlock]; rw [Array.getElem?_setIfInBounds_ne (fun q => hg q.symm)]⟩
        · exact ⟨rfl, rfl, rfl, by show _ ≤ (w.heap.setIfInBounds _ _).size; simp, fun g _ hg => by show (w.heap.setIfInBounds _ _)[g]? = _; rw [Array.getElem?_setIfInBounds_ne (fun q => hg q.symm)]⟩
theorem wl_entry (hf : ∀ z, vokC (f z) = vok (f z)) {o : Oper} {rest : List Oper} {x : Operand} {d : Nat} {p : Int × α} (fr : FrD Df N a L) (hw : wantL ops L o = some true) (hd : o.dst = some d) (hlt : Nat.blt d N = true) (ho : o.op = .entry x) (hx : ev L x = some (.pointer (some ⟨r, 0, none⟩))) (S : Sat w0 w (iterA k f b r m left (some p) :: R))
    (h : ∀ a', FrD Df N a' ((d, .tuple #[.int k p.1, f p.2]) :: L) → wpList P ops Q rest a' w) : wpList P ops Q (o :: rest) a w := by
  obtain ⟨F, ⟨⟨es, cl, seen, si, c0, e1, e2, e3, e4, e5, e6, e7, e8⟩, g1, g2, g3, g4⟩, hF, hk⟩ := S.opened
  obtain ⟨e, he, s0, rfl, rfl, q1, q2⟩ := e8 p rfl
  refine wl_val (v := .tuple #[.int k p.1, f p.2]) (w' := w) fr hw hd hlt ?_ ?_ h
  · unfold execOp
    simp only [ho, (fr.ev hx).1]
    rw [Sem.run_bind, run_entry_at w r b si s0 es c0 e e3 e1 he e2.born.1, q1, q2]; rfl
  · have : (Value.int k p.1, f p.2) ∈ m.map (fun p => (Value.int k p.1, f p.2)) := by
      rw [← e2.ents]; exact List.mem_map.2 ⟨e, he, by rw [q1, q2]⟩
    obtain ⟨p', hp', q9⟩ := List.mem_map.1 this
    injection q9 with q10 q11
    have hw' := e2.wf p' hp'
    rw [q11] at hw'
    injection q10 with _ q12
    rw [q12] at hw'
    show [.int k p.1, f p.2].all vokC = true
    simp only [List.all_cons, List.all_nil, hf, hw'.2, Bool.and_true]
    exact hw'.1
/-- A call through a function value that has caught nothing. -/
theorem wl_callv {o : Oper} {rest : List Oper} {d : Nat} {g : FuncId} {x : Operand} {xs : List Value} {c : Call} {E : Ending → World → Prop} (fr : FrD Df N a L) (hw : wantL ops L o = some true) (hd : o.dst = some d) (hlt : Nat.blt d N = true) (ho : o.op = .call c) (hc : c.callee = .value x) (hx : ev L x = some (.func (.func g) #[] #[])) (hxs : evs L c.args.toList = some xs) (hin : Enters P g) (hcon : Calls P g xs.toArray w E)
    (h : ∀ e w', E e w' → ∃ v, e = .returned v ∧ vok v = true ∧ ∀ a', FrD Df N a' ((d, v) :: L) → wpList P ops Q rest a' w') : wpList P ops Q (o :: rest) a w := by
  have e : c.args.map a.eval = xs.toArray := by
    apply Array.toList_inj.1
    rw [Array.toList_map, (evs_run fr hxs).1]
  have hrun : (execOp a.eval o).run P w = .ok (.enter g xs.toArray) w := by
    unfold execOp
    simp only [ho, resolve, hc, (fr.ev hx).1, Deferred.ofValue]
    rw [Sem.run_bind, Sem.run_pure, Result.andThen_ok]
    simp only [invoke]
    have e3 := hin xs.toArray w
    rw [← e] at e3 ⊢
    simpa using e3
  refine wl_op fr hw fun K hK => wp_call hrun (hcon.mono fun e' w' hR => ?_)
  obtain ⟨v, he, hv, hk⟩ := h e' w' hR
  exact ⟨v, he, hK _ _ (by rw [hd]; exact hk _ (fr.put (blt_lt hlt) hv))⟩
/-- The range is over. -/
theorem Sat.iterEnd (S : Sat w0 w (iterA k f b r m left cur :: R)) : Sat w0 w (mapA k f b m :: R) := by
  obtain ⟨F, ⟨⟨es, cl, seen, si, c0, e1, e2, e3, e4⟩, g1, g2, g3, g4⟩, hF, hk⟩ := S.opened
  exact hk (A' := mapA k f b m) (F' := fun g => g = b) (G := fun _ => False) ⟨⟨es, cl, e1, e2⟩, g1, fun g => Iff.rfl⟩ (Chg.refl _ _) (fun _ _ h => h.elim) fun g hg => .inl ((g4 g).2 (.inl hg))
end
end Go.Proofs.YticnjkdaccacaaaGreatDoor.Sx
end
section
/- Ranges over functions: the statement, its rounds, the call of yield, the way out; over the steps of this work. -/
namespace Go.Proofs.YticnjkdaccacaaaGreatDoor.Sx
open Go Go.RowKit Base Own

/-! ### Other things in memory -/
def objA (o : Obj) (b : Nat) : Asn where
  holds := fun w B F => w.heap[b]? = some o ∧ B ≤ b ∧ ∀ g, F g ↔ g = b
  keep := fun ⟨h1, h3, h4⟩ hc hF _ => ⟨by rw [hc.block _ (Array.getElem?_eq_some_iff.1 h1).1 (hF _ ((h4 _).2 rfl))]; exact h1, h3, h4⟩
  dom := fun ⟨h1, h3, h4⟩ g hg => by rw [h4 g] at hg; subst hg; exact ⟨h3, (Array.getElem?_eq_some_iff.1 h1).1⟩
section
variable {w0 w : World} {M R : List Asn} {o o' : Obj} {b : Nat}
theorem Sat.objAt (S : Sat w0 w M) (i : Nat) (hi : M[i]? = some (objA o b)) : w.heap[b]? = some o := by
  obtain ⟨F, h1, _⟩ := (S.frontAt i hi).hd
  exact h1
theorem Sat.putObj (o' : Obj) (S : Sat w0 w (objA o b :: R)) : Sat w0 (w.putObj b o') (objA o' b :: R) := by
  obtain ⟨F, ⟨h1, h3, h4⟩, hF, hk⟩ := S.opened
  exact hk (A' := objA o' b) (F' := F) (G := fun g => g = b) ⟨World.putObj_heap_same (Array.getElem?_eq_some_iff.1 h1).1, h3, h4⟩ (putObj_chg w b o') (fun g _ hg => (h4 g).2 hg) fun g hg => .inl hg
theorem Sat.putLoop {r : Loop} (f : Loop → Loop) (S : Sat w0 w (objA (.loop r) b :: R)) : Sat w0 (w.putObj b (.loop (f r))) (objA (.loop (f r)) b :: R) := S.putObj _
theorem Sat.addObj (o : Obj) (S : Sat w0 w R) : Sat w0 (w.alloc o) (objA o w.heap.size :: R) :=
  S.add (F := fun g => g = w.heap.size) ((Below.refl _ _).alloc (Nat.le_refl _) _) ⟨heap_alloc_new _ _, S.below.size, fun g => Iff.rfl⟩ fun g hg => Nat.le_of_eq hg.symm
end
/-- Two things as one. -/
def sepA (A B : Asn) : Asn where
  holds := fun w b F => ∃ F1 F2 : Nat → Prop, A.holds w b F1 ∧ B.holds w b F2 ∧ (∀ k, F2 k → ¬ F1 k) ∧ ∀ k, F k ↔ F1 k ∨ F2 k
  keep := fun ⟨F1, F2, h1, h2, h3, h4⟩ hc hF hB => ⟨F1, F2, A.keep h1 hc (fun k hk => hF k ((h4 k).2 (.inl hk))) hB, B.keep h2 hc (fun k hk => hF k ((h4 k).2 (.inr hk))) hB, h3, h4⟩
  dom := fun ⟨F1, F2, h1, h2, h3, h4⟩ k hk => ((h4 k).1 hk).elim (A.dom h1 k) (B.dom h2 k)
/-- One of some things. -/
def exA {ι : Type} (f : ι → Asn) : Asn where
  holds := fun w b F => ∃ i, (f i).holds w b F
  keep := fun ⟨i, h⟩ hc hF hB => ⟨i, (f i).keep h hc hF hB⟩
  dom := fun ⟨i, h⟩ k hk => (f i).dom h k hk
section
variable {w0 w : World} {M : List Asn} {A B : Asn}
theorem Sat.ofSep (S : Sat w0 w (sepA A B :: M)) : Sat w0 w (A :: B :: M) := by
  obtain ⟨F, ⟨F1, F2, h1, h2, h3, h4⟩, h5, h6⟩ := S.parts
  exact ⟨S.below, F1, h1, fun _ _ h => h, F2, h2, fun k hk hh => hh.elim id (h3 k hk), h6.weak fun k hk => by
    rcases hk with (h | h) | h
    · exact h.elim
    · exact .inr ((h4 k).2 (.inl h))
    · exact .inr ((h4 k).2 (.inr h))⟩
theorem Sat.toSep (S : Sat w0 w (A :: B :: M)) : Sat w0 w (sepA A B :: M) := by
  obtain ⟨F1, h1, h2, F2, h3, h4, h5⟩ := S.parts
  exact ⟨S.below, fun k => F1 k ∨ F2 k, ⟨F1, F2, h1, h3, fun k hk hh => h4 k hk (.inr hh), fun k => Iff.rfl⟩, fun _ _ h => h, h5.weak fun k hk => by
    rcases hk with h | h | h
    · exact h.elim
    · exact .inl (.inr h)
    · exact .inr h⟩
theorem Sat.ofEx {ι : Type} {f : ι → Asn} (S : Sat w0 w (exA f :: M)) : ∃ i, Sat w0 w (f i :: M) := by
  obtain ⟨F, ⟨i, h1⟩, h2, h3⟩ := S.parts
  exact ⟨i, S.below, F, h1, h2, h3⟩
theorem Sat.toEx {ι : Type} {f : ι → Asn} (i : ι) (S : Sat w0 w (f i :: M)) : Sat w0 w (exA f :: M) := by
  obtain ⟨F, h1, h2, h3⟩ := S.parts
  exact ⟨S.below, F, ⟨i, h1⟩, h2, h3⟩
end
/-! ### From the open steps to those in a round -/
section
variable {P : Program} {n r : Nat}
theorem opIn {o : Oper} {a : Act} {w : World} {K K' : Act → World → Prop} {Q : Exit → Act → World → Prop} (hd : ∀ c, o.op ≠ .defer c) (h : o.wp P a w K Q) (hK : ∀ a w, K a w → K' a w) : o.wpIn (Fence.wide.inRound r) n P a w K' Q := by
  refine ⟨fun _ _ => trivial, ?_⟩
  rw [Oper.semAt_eq _ _ _ hd]
  unfold Oper.wp at h
  generalize hres : (execOp a.eval o).run P w = res at h
  cases res with
  | ok x w' =>
    cases x with
    | value v => exact hK _ _ h
    | skip => exact hK _ _ h
    | defer d => exact hK _ _ h
    | enter f args =>
      refine ⟨(fun hh => by cases hh), CallsIn.inRound r (callsIn_wide.2 (Calls.mono h fun e w'' hh => ?_))⟩
      cases e with
      | returned v => exact hK _ _ hh
      | panicked c => exact hh
      | outgrown => exact hh
    | row row args => exact ⟨(fun hh => by cases hh), fun c cs _ => let ⟨v, w'', q, s⟩ := h c cs; ⟨v, w'', hK _ _ q, stepsIn_wide.2 s⟩⟩
    | round l f t x y => exact h.elim
    | _ => exact h.elim
  | halt hl w' =>
    cases hl with
    | panic v => exact h
    | _ => exact h.elim
theorem wlIn {ops : Array Oper} {Q : Exit → Act → World → Prop} (hQ : ∀ a w, ¬ Q .outgrown a w) : ∀ {lst : List Oper} {a : Act} {w : World}, (∀ o ∈ lst, ∀ c, o.op ≠ .defer c) → wpList P ops Q lst a w → wpListIn (Fence.wide.inRound r) n P ops Q lst a w := by
  intro lst
  induction lst with
  | nil => intro a w _ h; exact h
  | cons o rest ih =>
    intro a w hd h
    have hd' : ∀ o ∈ rest, ∀ c, o.op ≠ .defer c := fun o ho => hd o (List.mem_cons_of_mem _ ho)
    unfold wpList at h
    unfold wpListIn
    split at h
    · rename_i hw
      rw [if_pos hw]
      rcases h with h | ⟨-, a0, w0, h⟩
      · exact opIn (hd o List.mem_cons_self) h fun a w hh => ih hd' hh
      · exact absurd h (hQ a0 w0)
    · rename_i hw
      rw [if_neg hw]
      exact ⟨fun _ _ => trivial, ih hd' h⟩
theorem regIn {id : Nat} {lst : List Oper} {Q : Exit → Act → World → Prop} {a : Act} {w : World} (hQ : ∀ a w, ¬ Q .outgrown a w) (hd : ∀ o ∈ lst, ∀ c, o.op ≠ .defer c) (h : wpList P lst.toArray Q lst a w) : (Code.region id lst.toArray false).wpIn (Fence.wide.inRound r) n P Q a w := wpIn_region_lit (wlIn hQ hd h)
end
/-! ### A list of operations that calls yield -/
section
variable {P : Program} {T : Orc} {ops : Array Oper} {Q : Exit → Act → World → Prop} {N n : Nat} {a : Act} {w w0 : World} {L : Env} {R : List Asn}
theorem reg_out {id : Nat} {lst : List Oper} (h : wpListIn Fence.wide n P lst.toArray Q lst a w) : (Code.region id lst.toArray false).wp P Q a w := wpIn_wide.1 (wpIn_region_lit h)
theorem wli_run (hT : T.Ok P) : ∀ (q : Nat) {l rest : List Oper} {L L' : Env} {a : Act}, runL T N ops q l L = some (rest, L') → Fr N a L → (∀ a', Fr N a' L' → wpListIn Fence.wide n P ops Q rest a' w) → wpListIn Fence.wide n P ops Q l a w := by
  intro q
  induction q with
  | zero => intro l rest L L' a hr fr h; simp only [runL, Option.some.injEq, Prod.mk.injEq] at hr; obtain ⟨rfl, rfl⟩ := hr; exact h a fr
  | succ q ih =>
    intro l rest L L' a hr fr h
    cases l with
    | nil => simp [runL] at hr
    | cons o r =>
      simp only [runL] at hr
      split at hr
      · rename_i L1 h1
        unfold stepL at h1
        split at h1
        · cases h1
        · rename_i d hd
          split at h1
          · rename_i hlt
            split at h1
            · rename_i hw
              split at h1
              · rename_i v hv
                injection h1 with h1; subst h1
                obtain ⟨e1, e2⟩ := pure_run hT fr hv w
                unfold wpListIn
                rw [wantL_run fr hw, if_pos rfl]
                refine ⟨fun _ _ => trivial, ?_⟩
                show o.uponIn Fence.wide n P a _ Q ((execOp a.eval o).run P w)
                rw [e1]
                show wpListIn Fence.wide n P ops Q r (a.put o.dst v) w
                rw [hd]
                exact ih hr (fr.put hlt e2) h
              · cases h1
            · rename_i hw
              injection h1 with h1; subst h1
              unfold wpListIn
              rw [wantL_run fr hw, if_neg (by decide)]
              refine ⟨fun _ _ => trivial, ?_⟩
              rw [hd]
              exact ih hr (fr.put hlt rfl) h
            · cases h1
          · cases h1
      · cases hr
/-- yield is called: a round. -/
theorem wli_yield {o : Oper} {rest : List Oper} {d lp : Nat} {x : Operand} {v : Value} {c : Call} {fn : FuncId} {tmps : Array Value} {assign body : Code} {I : World → Prop} (fr : Fr N a L) (hw : wantL ops L o = some true) (hd : o.dst = some d) (hlt : Nat.blt d N = true) (ho : o.op = .call c) (hc : c.callee = .value x)
    (hx : ev L x = some (.func (.yield lp) #[] #[])) (hxs : evs L c.args.toList = some [v]) (hy : (Instr.yield lp #[v]).run P w = .ok (.round lp fn tmps assign body) w)
    (hR : RoundIn Fence.wide (n - 1) P lp fn tmps assign body w fun e w' => e = .returned (.bool true) ∧ I w') (h : ∀ w', I w' → ∀ a', Fr N a' ((d, .bool true) :: L) → wpListIn Fence.wide n P ops Q rest a' w') : wpListIn Fence.wide n P ops Q (o :: rest) a w := by
  have e : c.args.map a.eval = #[v] := by
    apply Array.toList_inj.1
    rw [Array.toList_map, (evs_run fr hxs).1]
  have hrun : (execOp a.eval o).run P w = .ok (.round lp fn tmps assign body) w := by
    unfold execOp
    simp only [ho, resolve, hc, (fr.ev hx).1, Deferred.ofValue]
    rw [Sem.run_bind, Sem.run_pure, Result.andThen_ok]
    simp only [invoke, e]
    simpa using hy
  unfold wpListIn
  rw [wantL_run fr hw, if_pos rfl]
  refine ⟨fun _ _ => trivial, ?_⟩
  show o.uponIn Fence.wide n P a _ Q ((execOp a.eval o).run P w)
  rw [hrun]
  refine ⟨(fun hh => by cases hh), hR.mono ?_⟩
  rintro e' w' ⟨rfl, hI⟩
  show wpListIn Fence.wide n P ops Q rest (a.put o.dst (.bool true)) w'
  rw [hd]
  exact h w' hI _ (fr.put (blt_lt hlt) rfl)
/-- The statement, where no round leaves it. -/
theorem cw_rangeF {g : Operand} {gf : FuncId} {lb : Array Value} {ps : Array Tmp} {assign body : Code} (fr : Fr N a L) (hg : ev L g = some (.func (.func gf) #[] lb)) (hin : Enters P gf) (S : Sat w0 w R)
    (hcall : ∀ (fn : FuncId) (lp D : Nat) (w1 : World), Sat w0 w1 (objA (.loop { state := .ready, pending := none, fn, tmps := a.tmps, params := ps, assign, body, defers := D }) lp :: objA (.deferred (some [])) D :: R) →
      Calls P gf (#[.func (.yield lp) #[] #[]] ++ lb) w1 fun e w' => (∃ v, e = .returned v) ∧ w'.heap[lp]? = some (.loop { state := .ready, pending := none, fn, tmps := a.tmps, params := ps, assign, body, defers := D }) ∧
        Q .normal { a with defers := { target := .collected D, args := #[] } :: a.defers } (w'.putObj lp (.loop { state := .exhausted, pending := none, fn, tmps := a.tmps, params := ps, assign, body, defers := D }))) :
    (Code.rangeFunc g ps assign body).wp P Q a w := by
  refine (wpIn_wide (n := 1)).1 (wpIn_rangeFunc fun fn _ => ?_)
  have S1 := (S.addObj (.deferred (some []))).addObj (.loop { state := .ready, pending := none, fn, tmps := a.tmps, params := ps, assign, body, defers := w.heap.size })
  have hs : (w.alloc (.deferred (some []))).heap.size = w.heap.size + 1 := by simp
  rw [hs] at S1
  obtain ⟨W1, hW1⟩ : ∃ W1, W1 = (w.alloc (.deferred (some []))).alloc (.loop { state := .ready, pending := none, fn, tmps := a.tmps, params := ps, assign, body, defers := w.heap.size }) := ⟨_, rfl⟩
  rw [← hW1] at S1
  refine ⟨w.heap.size + 1, [{ target := .collected w.heap.size, args := #[] }], W1, { target := .fn (.func gf) lb, args := #[.func (.yield (w.heap.size + 1)) #[] #[]] }, W1, gf, #[.func (.yield (w.heap.size + 1)) #[] #[]] ++ lb, W1, by rw [hW1]; exact run_enterLoop_outer _ _ _ _ _, ?_, fun _ _ => trivial, ?_, (fun hh => by cases hh), ?_⟩
  · simp only [resolve, (fr.ev hg).1]
    simp [go_sem]
  · simp only [invoke]
    have := hin (#[.func (.yield (w.heap.size + 1)) #[] #[]] ++ lb) W1
    simpa using this
  · refine callsIn_wide.2 ((hcall fn (w.heap.size + 1) w.heap.size _ S1).mono ?_)
    rintro e w' ⟨⟨v, rfl⟩, hl, hq⟩
    exact ⟨none, _, run_endLoop hl (by simp), hq⟩
/-- A function whose body ranges over a function returns. -/
theorem calls_marks {f : FuncId} {fn : Func} {c : Code} {E : Ending → World → Prop} (xs : List Value) (hf : P.funcs[f]? = some fn) (hb : fn.body = some c) (hN : fn.ntmps = N) (hl : Nat.ble xs.length N = true) (hv : xs.all vok = true)
    (h : ∀ a, Fr N a (EnvOf 0 xs) → c.wp P (bodyPostM Fence.wide 1 P fn E) a w) : Calls P f xs.toArray w E := by
  refine (callsIn_wide (n := 1)).1 (callsIn_of_wp_marks hf hb trivial (wpIn_wide.2 (h _ ?_)))
  subst hN
  have := Fr.start fn.ntmps xs (Nat.le_of_ble_eq_true hl) hv
  simpa using this
theorem wl_raw {o : Oper} {rest : List Oper} {v : Value} {w' : World} (hg : o.guard = none) (hrun : (execOp a.eval o).run P w = .ok (.value v) w') (h : wpList P ops Q rest (a.put o.dst v) w') : wpList P ops Q (o :: rest) a w :=
  wpList_step fun K hK => by
    have : Region.wanted o (yielded ops a.tmps) = true := by simp [Region.wanted, hg]
    rw [if_pos this]
    exact wp_value hrun (hK _ _ h)
end
end Go.Proofs.YticnjkdaccacaaaGreatDoor.Sx
end
section
/- Rows of rows: slices of slices of numbers, read in place; and those of the call's own, that grow. -/
namespace Go.Proofs.YticnjkdaccacaaaGreatDoor.Sx
open Go Go.RowKit Base Own OwnV

/-! ### What is read -/
theorem row_of_rk {k : IntKind} {w : World} {A : Option Addr} {l : List Int} (h : Rk k w A l) : Rdr.Row (Rdr.int k) w A l := fun hne => by
  obtain ⟨ad, e, h1, h2⟩ := h.rd hne
  refine ⟨ad, e, fun _ => h1, fun i y hy => ⟨[.int k y], ⟨rfl, h.wf y (List.mem_of_getElem? hy)⟩, fun j u hu => ?_⟩⟩
  cases j with
  | zero =>
    injection hu with hu
    obtain ⟨hi, hy⟩ := List.getElem?_eq_some_iff.1 hy
    have := h2 i hi
    rw [show i * (Rdr.int k).sz + 0 = i from by show i * 1 + 0 = i; omega, this, ← hu, List.getD_eq_getElem?_getD, List.getElem?_eq_getElem hi, ← hy]; rfl
  | succ j => cases hu
theorem rk_of_row {k : IntKind} {w : World} {A : Option Addr} {l : List Int} (h : Rdr.Row (Rdr.int k) w A l) : Rk k w A l := ⟨(Rdr.Row.rd h).1, (Rdr.Row.rd h).2⟩
/-- Rows of rows of numbers of a kind. -/
abbrev RR (k : IntKind) (w : World) (A : Option Addr) (ls : List (List Int)) : Prop := Rdr.Row (Rdr.sl (Rdr.int k)) w A ls
theorem RR.take {k : IntKind} {w : World} {A : Option Addr} {ls : List (List Int)} (h : RR k w A ls) (n : Nat) : RR k w A (ls.take n) := fun hne => by
  have hn : ls ≠ [] := fun e => hne (by rw [e, List.take_nil])
  obtain ⟨ad, e, h1, h2⟩ := h hn
  refine ⟨ad, e, h1, fun i y hy => ?_⟩
  rw [List.getElem?_take] at hy
  split at hy
  · exact h2 i y hy
  · cases hy
theorem RR.nil {k : IntKind} {w : World} {A : Option Addr} : RR k w A [] := fun h => absurd rfl h
/-- An element. -/
theorem RR.get {k : IntKind} {w : World} {A : Option Addr} {ls : List (List Int)} (h : RR k w A ls) {i : Int} (hi : 0 ≤ i ∧ i < (ls.length : Int)) :
    ∃ A' c', Rk k w A' (ls.getD i.toNat []) ∧ ((ls.getD i.toNat []).length ≤ c' ∧ c' ≤ maxLen) ∧ ∃ ad, A = some ad ∧ w.cell? (ad.add (i.toNat * 1)) = some (.slice A' (ls.getD i.toNat []).length c') := by
  obtain ⟨j, rfl⟩ : ∃ j : Nat, i = j := ⟨i.toNat, by omega⟩
  have hj : j < ls.length := by omega
  obtain ⟨ad, e, _, h2⟩ := h (by intro e; rw [e] at hj; exact absurd hj (Nat.not_lt_zero _))
  obtain ⟨c, ⟨A', c', rfl, h3, h4, h5⟩, h6⟩ := h2 j _ (List.getElem?_eq_getElem hj)
  have hg : ls.getD j [] = ls[j] := by rw [List.getD_eq_getElem?_getD, List.getElem?_eq_getElem hj]; rfl
  have h7 := h6 0 _ rfl
  have h8 : (Rdr.sl (Rdr.int k)).sz = 1 := rfl
  rw [h8, Nat.add_zero] at h7
  rw [Int.toNat_natCast, hg]
  exact ⟨A', c', rk_of_row h5, ⟨h3, h4⟩, ad, e, h7⟩
theorem RR.cellAt {w0 w : World} (hb : Below w0.heap.size w0 w) {ad : Addr} {v : Value} (h : w0.cell? ad = some v) : w.cell? ad = some v := by
  rw [hb.cell (World.block_lt_of_cell? w0 _ h)]; exact h
/-- All that is in it, and how long it may be. -/
theorem RR.facts {k : IntKind} {w : World} {A : Option Addr} {ls : List (List Int)} (h : RR k w A ls) : ∀ x ∈ ls, x.length ≤ maxLen ∧ ∀ z ∈ x, (Lit.int k z).wf = true := fun x hx => by
  obtain ⟨i, hi, rfl⟩ := List.getElem_of_mem hx
  obtain ⟨ad, e, _, h2⟩ := h (by intro e; rw [e] at hi; exact absurd hi (Nat.not_lt_zero _))
  obtain ⟨c, ⟨A', c', rfl, h3, h4, h5⟩, h6⟩ := h2 i _ (List.getElem?_eq_getElem hi)
  exact ⟨Nat.le_trans h3 h4, (rk_of_row h5).wf⟩
section
variable {P : Program} {T : Orc} {ops : Array Oper} {Q : Exit → Act → World → Prop} {S' : World → Prop} {Df : List Deferred} {N : Nat} {a : Act} {w w0 : World} {L : Env} {R : List Asn}
theorem FrD.skip2 {d1 d2 : Nat} {v1 v2 : Value} (fr : FrD Df N a ((d2, v2) :: (d1, v1) :: L)) (h1 : L.lookup d1 = none) : FrD Df N a ((d2, v2) :: L) :=
  ⟨fr.size, fr.defers, fun e u he => fr.get e u (by
    rw [lookup_cons] at he ⊢
    by_cases h3 : e = d2
    · rw [if_pos h3] at he ⊢; exact he
    · rw [if_neg h3] at he ⊢
      rw [lookup_cons]
      by_cases h4 : e = d1
      · subst h4; rw [h1] at he; cases he
      · rw [if_neg h4]; exact he)⟩
theorem want_skip {o : Oper} {d : Nat} {v : Value} {b : Bool} (h : wantL ops L o = some b) (hf : L.lookup d = none) : wantL ops ((d, v) :: L) o = some b := by
  unfold wantL at h ⊢
  split at h
  · exact h
  · rename_i j' want hg'
    split at h
    · rename_i t' ht'
      split at h
      · rename_i b hb'
        have hne : t' ≠ d := fun e => by subst e; rw [hf] at hb'; cases hb'
        rw [lookup_cons, if_neg hne, hb']; exact h
      · rename_i vs hb'
        have hne : t' ≠ d := fun e => by subst e; rw [hf] at hb'; cases hb'
        rw [lookup_cons, if_neg hne, hb']; exact h
      · cases h
    · cases h
/-- An element whose cell is known is loaded. -/
theorem wl_ldc (hT : T.Ok P) {o1 o2 : Oper} {rest : List Oper} {t te : TypeId} {x ix : Operand} {d1 d2 : Nat} {A : Option Addr} {v : Value} {n c e : Nat} {ki : IntKind} {i : Int} {de : TypeDesc}
    (hr : ∃ ad, A = some ad ∧ w.cell? (ad.add (i.toNat * 1)) = some v) (hv : vok v = true) (fr : FrD Df N a L) (hw : wantL ops L o1 = some true) (ho1 : o1.op = .indexAddr t x ix) (hd1 : o1.dst = some d1) (hw2 : wantL ops L o2 = some true) (ho2 : o2.op = .load te (.tmp d1)) (hd2 : o2.dst = some d2) (hl1 : Nat.blt d1 N = true) (hl2 : Nat.blt d2 N = true)
    (hx : ev L x = some (.slice A n c)) (hi : ev L ix = some (.int ki i)) (ht : T.ty.lookup t = some (.slice e)) (hs : T.sz.lookup e = some 1) (hte : T.ty.lookup te = some de) (hde : aggD de = false) (hf : L.lookup d1 = none) (hb : 0 ≤ i ∧ i < (n : Int))
    (h : ∀ a', FrD Df N a' ((d2, v) :: L) → wpList P ops Q rest a' w) : wpList P ops Q (o1 :: o2 :: rest) a w := by
  obtain ⟨ad, rfl, hc⟩ := hr
  refine wl_val fr hw hd1 hl1 (indexAddr_run hT fr ho1 hx hi ht hs hb.1 hb.2 w) rfl fun a1 fr1 => ?_
  exact wl_val fr1 (want_skip hw2 hf) hd2 hl2 (load_run hT fr1 ho2 (by show ((d1, _) :: L).lookup d1 = _; rw [lookup_cons, if_pos rfl]) hte hde hc) hv fun a2 fr2 => h a2 (fr2.skip2 hf)
/-! ### Rows of one's own -/
def rwsA (e : TypeId) (A : Option Addr) (c : Nat) (rs : List Rw) : Asn where
  holds := fun w B F => RowV w B e 1 (.slice A rs.length c) rs.length (rs.map rwV) ∧ (∀ r ∈ rs, vok (rwV r) = true) ∧ ∀ g, F g ↔ (Value.slice A rs.length c).ownBlock = some g
  keep := fun ⟨h1, h2, h3⟩ hc hF _ => ⟨h1.kept hc fun g hg => hF g ((h3 g).2 hg), h2, h3⟩
  dom := fun ⟨h1, _, h3⟩ g hg => h1.lt g ((h3 g).1 hg)
def empA : Asn where
  holds := fun _ _ F => ∀ g, ¬ F g
  keep := fun h _ _ _ => h
  dom := fun h g hg => absurd hg (h g)
def allA : List Asn → Asn
  | [] => empA
  | A :: L => sepA A (allA L)
theorem allA_mem {w : World} {B : Nat} : ∀ {L : List Asn} {F : Nat → Prop}, (allA L).holds w B F → ∀ A ∈ L, ∃ F', A.holds w B F' := by
  intro L
  induction L with
  | nil => intro F _ A hA; cases hA
  | cons C L ih =>
    rintro F ⟨F1, F2, h1, h2, _, _⟩ A hA
    rcases List.mem_cons.1 hA with rfl | hA
    · exact ⟨F1, h1⟩
    · exact ih h2 A hA
theorem Sat.empA (S : Sat w0 w R) : Sat w0 w (empA :: R) := S.add (F := fun _ => False) (Below.refl _ _) (fun _ h => h) fun _ h => h.elim
/-- Rows of one's own: the outer row, and each inner one. -/
def recsA (k : IntKind) (eo ei : TypeId) (A : Option Addr) (c : Nat) (ls : List (List Int)) : Asn :=
  exA fun rs : { rs : List Rw // rs.map (·.2.2) = ls } => sepA (rwsA eo A c rs.1) (allA (rs.1.reverse.map fun r => ownA k ei r.1 r.2.1 r.2.2))
theorem Sat.noRecs (k : IntKind) (eo ei : TypeId) (S : Sat w0 w R) : Sat w0 w (recsA k eo ei none 0 [] :: R) := by
  refine Sat.toEx (f := fun rs : { rs : List Rw // rs.map (·.2.2) = [] } => sepA (rwsA eo none 0 rs.1) (allA (rs.1.reverse.map fun r => ownA k ei r.1 r.2.1 r.2.2))) ⟨[], rfl⟩ (Sat.toSep ?_)
  exact S.empA.add (F := fun _ => False) (Below.refl _ _) ⟨RowV.nil w _ eo 1, fun r hr => (by cases hr), fun g => by simp [Value.ownBlock]⟩ fun _ h => h.elim
theorem rec_read {k : IntKind} {eo ei : TypeId} {A : Option Addr} {c : Nat} {ls : List (List Int)} {B : Nat} {F : Nat → Prop} (h : (recsA k eo ei A c ls).holds w B F) : RR k w A ls ∧ (ls.length ≤ c ∧ c ≤ maxLen) := by
  obtain ⟨⟨rs, rfl⟩, F1, F2, ⟨h1, h2, h3⟩, h4, _, _⟩ := h
  obtain ⟨A', c', e, h5, h6, h7, h8⟩ := h1.slice
  injection e with e1 e2 e3
  subst e1 e3
  rw [List.length_map]
  refine ⟨fun hne => ?_, h5, h6⟩
  have hpos : 0 < rs.length := by
    rcases Nat.eq_zero_or_pos rs.length with h0 | h0
    · rw [List.eq_nil_of_length_eq_zero h0] at hne; exact absurd rfl hne
    · exact h0
  cases A with
  | none =>
    have h0 : rs.length = 0 := h7 rfl
    omega
  | some ad =>
    obtain ⟨g, rfl, h9, h10, h11, _⟩ := h8 ad rfl
    refine ⟨⟨g, 0, none⟩, rfl, fun _ => h10, fun i y hy => ?_⟩
    rw [List.getElem?_map] at hy
    obtain ⟨r, hr, rfl⟩ := Option.map_eq_some_iff.1 hy
    have hm := List.mem_of_getElem? hr
    obtain ⟨F', g1, g2, _⟩ := allA_mem h4 (ownA k ei r.1 r.2.1 r.2.2) (List.mem_map.2 ⟨r, List.mem_reverse.2 hm, rfl⟩)
    obtain ⟨A2, c2, e', g3, g4, g5, _⟩ := g1.slice
    injection e' with e1 e2 e3
    refine ⟨[rwV r], ⟨r.1, r.2.1, rfl, by rw [e3]; exact g3, by rw [e3]; exact g4, row_of_rk ⟨by rw [e1]; exact g5, g2⟩⟩, fun j u hu => ?_⟩
    cases j with
    | zero =>
      injection hu with hu
      subst hu
      have := h11 i (rwV r) (by rw [List.getElem?_map, hr]; rfl)
      rw [show i * (Rdr.sl (Rdr.int k)).sz + 0 = i from by show i * 1 + 0 = i; omega, addr0]
      rw [Nat.zero_add] at this
      exact this
    | succ j => cases hu
theorem Sat.recAt {M : List Asn} {k : IntKind} {eo ei : TypeId} {A : Option Addr} {c : Nat} {ls : List (List Int)} (S : Sat w0 w M) (i : Nat) (hi : M[i]? = some (recsA k eo ei A c ls)) : RR k w A ls ∧ (ls.length ≤ c ∧ c ≤ maxLen) := by
  obtain ⟨F, h1⟩ := (S.frontAt i hi).hd
  exact rec_read h1
/-- A literal of one cell. -/
theorem one_cell_exec {t e : TypeId} (fr : FrD Df N a L) {o : Oper} {x : Operand} {v : Value} (ho : o.op = .buildSlice t 1 #[(0, x)]) (hx : ev L x = some v) (hv : v.cells = #[v]) (hu : P.underlying t = some (.slice e)) (hi : (P.info? e).map (fun i => (i.zero.isSome, i.size)) = some (true, 1)) :
    (execOp a.eval o).run P w = .ok (.value (.slice (some ⟨w.heap.size, 0, none⟩) 1 1)) (w.alloc (.cells #[v] e)) := by
  obtain ⟨ie, hie, hzz⟩ := Option.map_eq_some_iff.1 hi
  simp only [Prod.mk.injEq] at hzz
  obtain ⟨z, hz⟩ := Option.isSome_iff_exists.1 hzz.1
  have hf : Instr.fill (fun i => some (i * ie.size, ie.size)) ((Array.range (1 * ie.size)).map (z.cells[· % z.cells.size]!)) (#[(0, x)].map fun (i, x) => (i, a.eval x)).toList = some #[v] := by
    rw [hzz.2]
    simp only [List.map_toArray, List.map_cons, List.map_nil, (fr.ev hx).1]
    rw [fill_step _ _ 0 0 1 v [] (by simp) (by rw [hv]; rfl) (by simp), Instr.fill]
    congr 1
    rw [hv]
    apply Array.toList_inj.1
    unfold splice
    simp
  unfold execOp
  simp only [ho]
  rw [Sem.run_bind, run_buildSlice w t e 1 _ #[v] ie z hu hie hz (by rw [hzz.2]; omega) (by rw [hzz.2]; omega) hf, Result.andThen_ok]
  rfl
theorem rws_app_exec {t e : TypeId} {bytes : Nat} (ht : P.underlying t = some (.slice e)) (hinfo : (P.info? e).map (fun i => (i.zero.map (·.cells.size), i.size, i.bytes)) = some (some 1, 1, bytes)) (hby : bytes ≤ 64) (fr : FrD Df N a L) {o : Oper} {x y : Operand} {A : Option Addr} {ad : Addr} {n c cy : Nat} {rs : List Rw} {r : Rw}
    (ho : o.op = .call { callee := .builtin .append, args := #[x, y], argTypes := #[t, t] }) (hx : ev L x = some (.slice A n c)) (hn : n = rs.length) (hy : ev L y = some (.slice (some ad) 1 cy)) (hc : w.cell? ad = some (rwV r)) (hv : vok (rwV r) = true) (hb : rs.length ≤ 1000000000) (S : Sat w0 w (rwsA e A c rs :: R)) :
    ∃ A' c' w', (execOp a.eval o).run P w = .ok (.value (.slice A' (rs ++ [r]).length c')) w' ∧ vok (.slice A' (rs ++ [r]).length c') = true ∧ Sat w0 w' (rwsA e A' c' (rs ++ [r]) :: R) := by
  subst hn
  obtain ⟨F, ⟨h1, h2, h3⟩, hF, hk⟩ := S.opened
  obtain ⟨i, hi, hzz⟩ := Option.map_eq_some_iff.1 hinfo
  simp only [Prod.mk.injEq] at hzz
  obtain ⟨hz1, hsz, hbi⟩ := hzz
  obtain ⟨z0, hz, hzc⟩ := Option.map_eq_some_iff.1 hz1
  have hmul : (rs.length + 1) * bytes ≤ (rs.length + 1) * 64 := Nat.mul_le_mul_left _ hby
  obtain ⟨v', w', hr, g2, g3, _, g5⟩ := run_append_own_at (P := P) w w0.heap.size t o.type e i z0 1 bytes ht hi hz hsz hbi hzc Nat.one_pos (.slice A rs.length c) rs.length (rs.map rwV) h1 ad 1 cy [rwV r] rfl (fun j u hu => by
    cases j with
    | zero => injection hu with hu; subst hu; rw [show ad.add 0 = ad from by cases ad; rename_i b o s; unfold Addr.add; cases s <;> rfl]; exact hc
    | succ j => cases hu) (fun u hu => by rw [List.mem_singleton] at hu; subst hu; rfl) (by unfold maxLen; omega) (by omega) S.below.size
  have g2' : RowV w' w0.heap.size e 1 v' (rs.length + 1) (rs.map rwV ++ [rwV r]) := g2
  obtain ⟨A', c', rfl, h7, h8, _, _⟩ := g2'.slice
  have hl : (rs ++ [r]).length = rs.length + 1 := by simp
  rw [hl]
  refine ⟨A', c', w', ?_, vok_sl ⟨h7, h8⟩, ?_⟩
  · unfold execOp
    simp only [ho, resolve]
    rw [Sem.run_bind, Sem.run_pure, Result.andThen_ok]
    simp only [invoke, builtin, List.map_toArray, List.map_cons, List.map_nil, (fr.ev hx).1, (fr.ev hy).1]
    rw [Sem.run_bind, hr]; rfl
  · refine hk (A' := rwsA e A' c' (rs ++ [r])) (F' := fun g => (Value.slice A' (rs ++ [r]).length c').ownBlock = some g) ⟨by rw [hl, List.map_append]; exact g2', fun q hq => ?_, fun g => Iff.rfl⟩ (Chg.of_grown g3) (fun g _ hg => (h3 g).2 hg.symm) fun g hg => ?_
    · rcases List.mem_append.1 hq with hq | hq
      · exact h2 q hq
      · rw [List.mem_singleton] at hq; subst hq; exact hv
    · rw [hl] at hg
      rcases g5 with h | h
      · rw [h] at hg; exact .inl ((h3 g).2 hg)
      · rw [h] at hg; injection hg with hg; subst hg; exact .inr (Nat.le_refl _)
end
end Go.Proofs.YticnjkdaccacaaaGreatDoor.Sx
end
section
/- Rows of one's own of elements of any size, cell by cell; a row and the same with more behind it; rows that are held. -/
namespace Go.Proofs.YticnjkdaccacaaaGreatDoor.Sx
open Go Go.RowKit Base Own OwnV

/-! ### append: in the same row, or in a new one -/
theorem append_two {P : Program} (w : World) (base : Nat) (t ty e : TypeId) (i : TypeInfo) (z : Value) (size bytes : Nat) (ht : P.underlying t = some (.slice e)) (hi : P.info? e = some i) (hz : i.zero = some z)
    (hsize : i.size = size) (hby : i.bytes = bytes) (hzs : z.cells.size = size) (hsz : 0 < size) (v : Value) (n : Nat) (xs : List Value) (hown : w.ownsRow base e size v n xs)
    (a : Addr) (m c : Nat) (news : List Value) (hl : news.length = m * size) (hnews : ∀ j u, news[j]? = some u → w.cell? (a.add j) = some u) (h1 : ∀ u ∈ news, u.oneCell' = true)
    (h63 : n + m ≤ maxLen) (hbytes : (n + m) * bytes ≤ 140737488355328) (hbase : base ≤ w.heap.size) :
    ∃ v' w', (Builtin.append_ #[t, t] ty #[v, .slice (some a) m c]).run P w = .ok v' w' ∧ w'.ownsRow base e size v' (n + m) (xs ++ news) ∧
      ((w.grownBy w' v.ownBlock ∧ v'.ownBlock = v.ownBlock) ∨ (w.grownBy w' none ∧ v'.ownBlock = some w.heap.size)) := by
  obtain ⟨v', w', hr, h2, h3, _, h5⟩ := run_append_own_at (P := P) w base t ty e i z size bytes ht hi hz hsize hby hzs hsz v n xs hown a m c news hl hnews h1 h63 hbytes hbase
  refine ⟨v', w', hr, h2, ?_⟩
  have hsmall : n + m ≤ 9223372036854775807 := by simp only [maxLen] at h63; omega
  rcases hown.2 with ⟨rfl, rfl⟩ | ⟨g, cap, cur, rfl, hbg, hg, hnc, hcm, hcs, htake⟩
  · rcases h5 with h5 | h5
    · exact .inl ⟨h3, h5⟩
    · exact .inr ⟨h3, h5⟩
  · by_cases hroom : n + m ≤ cap
    · subst hsize
      have hfit : n * i.size + news.length ≤ cur.size := by rw [hl, hcs, ← Nat.add_mul]; exact Nat.mul_le_mul_right _ hroom
      have hr2 := run_append_room (P := P) w t ty e i ht hi g n cap cur hg a m c news hl hnews h1 hroom hfit
      rw [hr] at hr2
      injection hr2 with q1 q2
      exact .inl ⟨h3, by rw [q1]; rfl⟩
    · subst hsize
      have holds : ∀ j u, xs[j]? = some u → w.cell? ((⟨g, 0, none⟩ : Addr).add j) = some u := hown.cells (g := g) rfl
      have hr2 := run_append_grow (P := P) w t ty e i z ht hi hz ⟨g, 0, none⟩ n cap xs hown.1 holds a m c news hl hnews (by omega) (by omega) (growslice_fits (by omega) (by rw [hby]; exact hbytes))
      rw [hr] at hr2
      injection hr2 with q1 q2
      refine .inr ⟨?_, by rw [q1]; rfl⟩
      rw [q2]
      exact ⟨rfl, rfl, rfl, by simp, fun k hk _ => Below.heap_alloc w.drew _ k hk⟩
/-! ### Rows of elements of any size -/
def rvA (e z : Nat) (A : Option Addr) (c n : Nat) (xs : List Value) : Asn where
  holds := fun w B F => RowV w B e z (.slice A n c) n xs ∧ (∀ v ∈ xs, vok1 v = true) ∧ ∀ g, F g ↔ (Value.slice A n c).ownBlock = some g
  keep := fun ⟨h1, h2, h3⟩ hc hF _ => ⟨h1.kept hc fun g hg => hF g ((h3 g).2 hg), h2, h3⟩
  dom := fun ⟨h1, h2, h3⟩ g hg => h1.lt g ((h3 g).1 hg)
/-- A row, and a longer one that begins with it: in one block, or in two. -/
def gwA (e z : Nat) (A : Option Addr) (xs : List Value) (A' : Option Addr) (c' n' : Nat) (ys : List Value) : Asn where
  holds := fun w B F => (A = none → xs = []) ∧ (∀ ad, A = some ad → ad = ⟨ad.block, 0, none⟩ ∧ B ≤ ad.block ∧ ad.block < w.heap.size ∧ w.rangeAt ad.block 0 xs) ∧ RowV w B e z (.slice A' n' c') n' ys ∧ (∀ v ∈ ys, vok1 v = true) ∧ (∃ t, ys = xs ++ t) ∧
    ∀ g, F g ↔ (∃ ad, A = some ad ∧ ad.block = g) ∨ (Value.slice A' n' c').ownBlock = some g
  keep := fun ⟨h0, h1, h2, h3, h4, h5⟩ hc hF _ => ⟨h0, fun ad he => by
    obtain ⟨q1, q2, q3, q4⟩ := h1 ad he
    refine ⟨q1, q2, Nat.lt_of_lt_of_le q3 hc.size, fun j u hu => ?_⟩
    rw [World.cell?_of_block (a := ⟨ad.block, 0 + j, none⟩) (hc.block ad.block q3 (hF _ ((h5 _).2 (.inl ⟨ad, he, rfl⟩))))]
    exact q4 j u hu, h2.kept hc fun g hg => hF g ((h5 g).2 (.inr hg)), h3, h4, h5⟩
  dom := fun ⟨h0, h1, h2, h3, h4, h5⟩ g hg => by
    rcases (h5 g).1 hg with ⟨ad, he, rfl⟩ | hg
    · exact ⟨(h1 ad he).2.1, (h1 ad he).2.2.1⟩
    · exact h2.lt g hg
section
variable {P : Program} {T : Orc} {ops : Array Oper} {Q : Exit → Act → World → Prop} {S' : World → Prop} {Df : List Deferred} {N : Nat} {a : Act} {w w0 : World} {L : Env} {R : List Asn} {e z : Nat} {A A' : Option Addr} {c c' n n' : Nat} {xs ys : List Value}
/-- A thing, said otherwise. -/
theorem Sat.imp {X Y : Asn} (S : Sat w0 w (X :: R)) (h : ∀ F, X.holds w w0.heap.size F → Y.holds w w0.heap.size F) : Sat w0 w (Y :: R) := by
  obtain ⟨F, h1, h2, h3⟩ := S.parts
  exact ⟨S.below, F, h F h1, h2, h3⟩
theorem rv_of_own {k : IntKind} {l : List Int} (S : Sat w0 w (ownA k e A c l :: R)) : Sat w0 w (rvA e 1 A c l.length (l.map (Value.int k)) :: R) :=
  S.imp fun F ⟨h1, h2, h3⟩ => ⟨h1, fun v hv => by obtain ⟨x, hx, rfl⟩ := List.mem_map.1 hv; exact h2 x hx, h3⟩
theorem own_of_rv {k : IntKind} {l : List Int} (S : Sat w0 w (rvA e 1 A c l.length (l.map (Value.int k)) :: R)) : Sat w0 w (ownA k e A c l :: R) :=
  S.imp fun F ⟨h1, h2, h3⟩ => ⟨h1, fun x hx => h2 _ (List.mem_map.2 ⟨x, hx, rfl⟩), h3⟩
theorem rv_nil (e z : Nat) (S : Sat w0 w R) : Sat w0 w (rvA e z none 0 0 [] :: R) :=
  S.add (F := fun _ => False) (Below.refl _ _) ⟨RowV.nil w _ e z, fun v hv => (by cases hv), fun g => by simp [Value.ownBlock]⟩ fun _ h => h.elim
theorem rv_facts (S : Sat w0 w (rvA e z A c n xs :: R)) : xs.length = n * z ∧ (n ≤ c ∧ c ≤ maxLen) ∧ (A = none → n = 0) ∧ (∀ v ∈ xs, vok1 v = true) ∧ ∀ ad, A = some ad → ∃ g, ad = ⟨g, 0, none⟩ ∧ w.rangeAt g 0 xs := by
  obtain ⟨F, ⟨h1, h2, h3⟩, _⟩ := S.hd.imp fun _ h => And.intro h trivial
  obtain ⟨A2, c2, he, q1, q2, q3, q4⟩ := h1.slice
  injection he with e1 e2 e3
  subst e1 e3
  exact ⟨h1.len, ⟨q1, q2⟩, q3, h2, fun ad he => by
    obtain ⟨g, r1, r2, r3, r4, r5⟩ := q4 ad he
    exact ⟨g, r1, r4⟩⟩
theorem Sat.rvAt {M : List Asn} (S : Sat w0 w M) (i : Nat) (hi : M[i]? = some (rvA e z A c n xs)) : xs.length = n * z ∧ (n ≤ c ∧ c ≤ maxLen) ∧ (A = none → n = 0) ∧ (∀ v ∈ xs, vok1 v = true) ∧ ∀ ad, A = some ad → ∃ g, ad = ⟨g, 0, none⟩ ∧ w.rangeAt g 0 xs := rv_facts (S.frontAt i hi)
theorem gw_start (S : Sat w0 w (rvA e z A c n xs :: R)) : Sat w0 w (gwA e z A xs A c n xs :: R) := by
  refine S.imp fun F ⟨h1, h2, h3⟩ => ?_
  obtain ⟨A2, c2, he, q1, q2, q3, q4⟩ := h1.slice
  injection he with e1 e2 e3
  subst e1 e3
  refine ⟨fun h => ?_, fun ad he => ?_, h1, h2, ⟨[], (List.append_nil _).symm⟩, fun g => ?_⟩
  · have := h1.len
    rw [q3 h] at this
    exact List.eq_nil_of_length_eq_zero (by omega)
  · obtain ⟨g, r1, r2, r3, r4, r5⟩ := q4 ad he
    subst r1
    exact ⟨rfl, r2, r3, r4⟩
  · rw [h3 g]
    constructor
    · exact .inr
    · rintro (⟨ad, he, rfl⟩ | h)
      · obtain ⟨g, r1, _⟩ := q4 ad he
        subst r1
        rw [he]; rfl
      · exact h
/-- Some cells of a row are written over. -/
theorem rv_set (S : Sat w0 w (rvA e z A c n xs :: R)) {g : Nat} (hA : A = some ⟨g, 0, none⟩) (o : Nat) (vs : List Value) (ho : o + vs.length ≤ n * z) (hv : ∀ v ∈ vs, vok1 v = true) : Sat w0 (w.setCells g o vs) (rvA e z A c n (splice xs o vs) :: R) := by
  subst hA
  obtain ⟨F, ⟨h1, h2, h3⟩, hF, hk⟩ := S.opened
  refine hk (A' := rvA e z _ c n (splice xs o vs)) (F' := F) (G := fun k => k = g) ⟨h1.set o vs ho, fun v hm => ?_, h3⟩ (chg_setCells g vs o w) (fun k _ hk => (h3 k).2 (by subst hk; rfl)) fun k hk => .inl hk
  unfold splice at hm
  rw [List.mem_append, List.mem_append] at hm
  rcases hm with hm | hm | hm
  · exact h2 v (List.mem_of_mem_take hm)
  · exact hv v hm
  · exact h2 v (List.mem_of_mem_drop hm)
/-- What an append does, for elements of any size. -/
theorem gw_app {t ty bytes : Nat} (ht : P.underlying t = some (.slice e)) (hinfo : (P.info? e).map (fun i => (i.zero.map (·.cells.size), i.size, i.bytes)) = some (some z, z, bytes)) (hz0 : 0 < z) (hby : bytes ≤ 128) (S : Sat w0 w (gwA e z A xs A' c' n' ys :: R))
    {ad : Addr} {cy : Nat} {news : List Value} (hl : news.length = z) (hc : ∀ j u, news[j]? = some u → w.cell? (ad.add j) = some u) (h1 : ∀ u ∈ news, u.oneCell' = true ∧ vok1 u = true) (hb : n' ≤ 1000000000000) :
    ∃ A2 c2 w', (Builtin.append_ #[t, t] ty #[.slice A' n' c', .slice (some ad) 1 cy]).run P w = .ok (.slice A2 (n' + 1) c2) w' ∧ (n' + 1 ≤ c2 ∧ c2 ≤ maxLen) ∧ Sat w0 w' (gwA e z A xs A2 c2 (n' + 1) (ys ++ news) :: R) := by
  obtain ⟨F, ⟨g0, g1, g2, g3, ⟨tt, g4⟩, g5⟩, hF, hk⟩ := S.opened
  obtain ⟨i, hi, hzz⟩ := Option.map_eq_some_iff.1 hinfo
  simp only [Prod.mk.injEq] at hzz
  obtain ⟨hz1, hsz, hbi⟩ := hzz
  obtain ⟨z0, hz, hzc⟩ := Option.map_eq_some_iff.1 hz1
  have hmul : (n' + 1) * bytes ≤ (n' + 1) * 128 := Nat.mul_le_mul_left _ hby
  obtain ⟨v', w', hr, k1, k2⟩ := append_two (P := P) w w0.heap.size t ty e i z0 z bytes ht hi hz hsz hbi hzc hz0 (.slice A' n' c') n' ys g2 ad 1 cy news (by omega) hc (fun u hu => (h1 u hu).1) (by unfold maxLen; omega) (by omega) S.below.size
  have k1' : RowV w' w0.heap.size e z v' (n' + 1) (ys ++ news) := k1
  obtain ⟨A2, c2, rfl, q1, q2, q3, q4⟩ := k1'.slice
  refine ⟨A2, c2, w', hr, ⟨q1, q2⟩, ?_⟩
  have hv : ∀ v ∈ ys ++ news, vok1 v = true := fun v hv => by
    rcases List.mem_append.1 hv with hv | hv
    · exact g3 v hv
    · exact (h1 v hv).2
  have hpre : ∃ t, ys ++ news = xs ++ t := ⟨tt ++ news, by rw [g4, List.append_assoc]⟩
  rcases k2 with ⟨k2, k3⟩ | ⟨k2, k3⟩
  · have hc2 := Chg.of_grown k2
    refine hk (A' := gwA e z A xs A2 c2 (n' + 1) (ys ++ news)) (F' := F) ⟨g0, fun ad' he => ?_, k1', hv, hpre, fun g => ?_⟩ hc2 (fun g _ hg => (g5 g).2 (.inr hg.symm)) fun g hg => .inl hg
    · obtain ⟨r1, r2, r3, r4⟩ := g1 ad' he
      refine ⟨r1, r2, Nat.lt_of_lt_of_le r3 hc2.size, fun j u hu => ?_⟩
      by_cases hs : (Value.slice A' n' c').ownBlock = some ad'.block
      · rw [← k3] at hs
        cases A2 with
        | none => simp [Value.ownBlock] at hs
        | some a2 =>
          obtain ⟨g, s1, s2, s3, s4, s5⟩ := q4 a2 rfl
          have : g = ad'.block := by subst s1; simpa [Value.ownBlock] using hs
          subst this
          refine s4 j u ?_
          rw [g4, List.append_assoc, List.getElem?_append_left (List.getElem?_eq_some_iff.1 hu).1]
          exact hu
      · rw [World.cell?_of_block (a := ⟨ad'.block, 0 + j, none⟩) (hc2.block ad'.block r3 fun h => hs h.symm)]
        exact r4 j u hu
    · rw [g5 g, k3]
  · have hc2 : Chg (fun _ => False) w w' := (Chg.of_grown k2).mono fun g _ h => by cases h
    refine hk (A' := gwA e z A xs A2 c2 (n' + 1) (ys ++ news)) (F' := fun g => (∃ ad, A = some ad ∧ ad.block = g) ∨ (Value.slice A2 (n' + 1) c2).ownBlock = some g) ⟨g0, fun ad' he => ?_, k1', hv, hpre, fun g => Iff.rfl⟩ hc2 (fun g _ hg => hg.elim) fun g hg => ?_
    · obtain ⟨r1, r2, r3, r4⟩ := g1 ad' he
      refine ⟨r1, r2, Nat.lt_of_lt_of_le r3 hc2.size, fun j u hu => ?_⟩
      rw [World.cell?_of_block (a := ⟨ad'.block, 0 + j, none⟩) (hc2.block ad'.block r3 fun h => h)]
      exact r4 j u hu
    · rcases hg with hg | hg
      · exact .inl ((g5 g).2 (.inl hg))
      · rw [k3] at hg
        injection hg with hg
        exact .inr (Nat.le_of_eq hg)
/-- .. to a row of one's own. -/
theorem rv_app {t ty bytes : Nat} (ht : P.underlying t = some (.slice e)) (hinfo : (P.info? e).map (fun i => (i.zero.map (·.cells.size), i.size, i.bytes)) = some (some z, z, bytes)) (hz0 : 0 < z) (hby : bytes ≤ 128) (S : Sat w0 w (rvA e z A c n xs :: R))
    {ad : Addr} {cy : Nat} {news : List Value} (hl : news.length = z) (hc : ∀ j u, news[j]? = some u → w.cell? (ad.add j) = some u) (h1 : ∀ u ∈ news, u.oneCell' = true ∧ vok1 u = true) (hb : n ≤ 1000000000000) :
    ∃ A2 c2 w', (Builtin.append_ #[t, t] ty #[.slice A n c, .slice (some ad) 1 cy]).run P w = .ok (.slice A2 (n + 1) c2) w' ∧ (n + 1 ≤ c2 ∧ c2 ≤ maxLen) ∧ Sat w0 w' (rvA e z A2 c2 (n + 1) (xs ++ news) :: R) := by
  obtain ⟨F, ⟨g2, g3, g5⟩, hF, hk⟩ := S.opened
  obtain ⟨i, hi, hzz⟩ := Option.map_eq_some_iff.1 hinfo
  simp only [Prod.mk.injEq] at hzz
  obtain ⟨hz1, hsz, hbi⟩ := hzz
  obtain ⟨z0, hz, hzc⟩ := Option.map_eq_some_iff.1 hz1
  have hmul : (n + 1) * bytes ≤ (n + 1) * 128 := Nat.mul_le_mul_left _ hby
  obtain ⟨v', w', hr, k1, k2⟩ := append_two (P := P) w w0.heap.size t ty e i z0 z bytes ht hi hz hsz hbi hzc hz0 (.slice A n c) n xs g2 ad 1 cy news (by omega) hc (fun u hu => (h1 u hu).1) (by unfold maxLen; omega) (by omega) S.below.size
  have k1' : RowV w' w0.heap.size e z v' (n + 1) (xs ++ news) := k1
  obtain ⟨A2, c2, rfl, q1, q2, q3, q4⟩ := k1'.slice
  refine ⟨A2, c2, w', hr, ⟨q1, q2⟩, ?_⟩
  have hv : ∀ v ∈ xs ++ news, vok1 v = true := fun v hv => by
    rcases List.mem_append.1 hv with hv | hv
    · exact g3 v hv
    · exact (h1 v hv).2
  rcases k2 with ⟨k2, k3⟩ | ⟨k2, k3⟩
  · exact hk (A' := rvA e z A2 c2 (n + 1) (xs ++ news)) (F' := F) ⟨k1', hv, fun g => by rw [g5 g, k3]⟩ (Chg.of_grown k2) (fun g _ hg => (g5 g).2 hg.symm) fun g hg => .inl hg
  · refine hk (A' := rvA e z A2 c2 (n + 1) (xs ++ news)) (F' := fun g => (Value.slice A2 (n + 1) c2).ownBlock = some g) ⟨k1', hv, fun g => Iff.rfl⟩ (G := fun _ => False) ((Chg.of_grown k2).mono fun g _ h => by cases h) (fun g _ hg => hg.elim) fun g hg => ?_
    rw [k3] at hg
    injection hg with hg
    exact .inr (Nat.le_of_eq hg)
/-- append as an operation. -/
theorem app_op {t : TypeId} (fr : FrD Df N a L) {o : Oper} {x y : Operand} {v u v' : Value} {w' : World} (ho : o.op = .call { callee := .builtin .append, args := #[x, y], argTypes := #[t, t] }) (hx : ev L x = some v) (hy : ev L y = some u)
    (hr : (Builtin.append_ #[t, t] o.type #[v, u]).run P w = .ok v' w') : (execOp a.eval o).run P w = .ok (.value v') w' := by
  unfold execOp
  simp only [ho, resolve]
  rw [Sem.run_bind, Sem.run_pure, Result.andThen_ok]
  simp only [invoke, builtin, List.map_toArray, List.map_cons, List.map_nil, (fr.ev hx).1, (fr.ev hy).1]
  rw [Sem.run_bind, hr]; rfl
/-- An element of several cells, loaded whole. -/
theorem ldagg_run (hT : T.Ok P) (fr : FrD Df N a L) {o : Oper} {t : TypeId} {x : Operand} (ho : o.op = .load t x) {g j : Nat} {cs : List Value} {d : TypeDesc} (hx : ev L x = some (.pointer (some ⟨g, j, none⟩))) (ht : T.ty.lookup t = some d) (hd : d.isRow = true) (hs : T.sz.lookup t = some cs.length)
    (hc : w.rangeAt g j cs) : (execOp a.eval o).run P w = .ok (.value (.agg cs.toArray)) w := by
  have h := exec_load_mid (P := P) (a := a) (w := w) (N := o.dst) (tt := o.type) t x g j (fr.ev hx).1 cs d hc (hT.und ht) hd (hT.size hs)
  unfold execOp at h ⊢
  simp only [ho] at h ⊢
  exact h
theorem vok_agg {cs : List Value} (h : ∀ v ∈ cs, vok1 v = true) : vok (.agg cs.toArray) = true := by
  simp only [vok, vokC, List.all_eq_true]
  exact h
/-- An element of a row of elements of several cells. -/
theorem wl_ldv (hT : T.Ok P) {o1 o2 : Oper} {rest : List Oper} {t te : TypeId} {x ix : Operand} {d1 d2 : Nat} {n c : Nat} {ki : IntKind} {i : Int} {de : TypeDesc} {cs : List Value}
    (hr : ∀ ad, A = some ad → ∃ g, ad = ⟨g, 0, none⟩ ∧ w.rangeAt g (i.toNat * z) cs) (hA : A ≠ none) (hv : ∀ v ∈ cs, vok1 v = true) (fr : FrD Df N a L) (hw : wantL ops L o1 = some true) (ho1 : o1.op = .indexAddr t x ix) (hd1 : o1.dst = some d1) (hw2 : wantL ops L o2 = some true) (ho2 : o2.op = .load te (.tmp d1)) (hd2 : o2.dst = some d2) (hl1 : Nat.blt d1 N = true) (hl2 : Nat.blt d2 N = true)
    (hx : ev L x = some (.slice A n c)) (hi : ev L ix = some (.int ki i)) (ht : T.ty.lookup t = some (.slice e)) (hs : T.sz.lookup e = some z) (hte : T.ty.lookup te = some de) (hde : de.isRow = true) (hse : T.sz.lookup te = some cs.length) (hf : L.lookup d1 = none) (hb : 0 ≤ i ∧ i < (n : Int))
    (h : ∀ a', FrD Df N a' ((d2, .agg cs.toArray) :: L) → wpList P ops Q rest a' w) : wpList P ops Q (o1 :: o2 :: rest) a w := by
  cases A with
  | none => exact absurd rfl hA
  | some ad =>
    obtain ⟨g, rfl, hc⟩ := hr ad rfl
    refine wl_val fr hw hd1 hl1 (indexAddr_run hT fr ho1 hx hi ht hs hb.1 hb.2 w) rfl fun a1 fr1 => ?_
    have e1 : (⟨g, 0, none⟩ : Addr).add (i.toNat * z) = ⟨g, i.toNat * z, none⟩ := addr0 g _
    rw [e1] at fr1
    exact wl_val fr1 (want_skip hw2 hf) hd2 hl2 (ldagg_run hT fr1 ho2 (by show ((d1, _) :: L).lookup d1 = _; rw [lookup_cons, if_pos rfl]) hte hde hse hc) (vok_agg hv) fun a2 fr2 => h a2 (fr2.skip2 hf)
end
end Go.Proofs.YticnjkdaccacaaaGreatDoor.Sx
end
