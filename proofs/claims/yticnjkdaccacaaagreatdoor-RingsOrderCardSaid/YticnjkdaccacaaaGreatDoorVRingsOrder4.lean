/- Texts of this work, one behind the other. -/
import Derived.Test.YticnjkdaccacaaaGreatDoorVRingsOrder3
import Derived.IntWalk
import Derived.Test.YticnjkdaccacaaaGreatDoorProg
import Derived.Laws.IdiomCopy
import Derived.Maps.RangeWalk
section
/- Steps of a walk that write into rows of the call's own. -/
namespace Go.Proofs.YticnjkdaccacaaaGreatDoor.Sx
open Go Go.RowKit Base Own

/-- The pointer to an element of a row. -/
def elP (A : Option Addr) (i : Int) : Value := .pointer (A.map fun ad => ad.add (i.toNat * 1))
section
variable {P : Program} {T : Orc} {ops : Array Oper} {Q : Exit → Act → World → Prop} {S' : World → Prop} {Df : List Deferred} {N : Nat} {a : Act} {w w0 : World} {L : Env} {R : List Asn} {k : IntKind} {A : Option Addr} {l : List Int} {i : Int}
theorem el_run (hT : T.Ok P) (fr : FrD Df N a L) {o : Oper} {t : TypeId} {x ix : Operand} {n c e : Nat} {ki : IntKind} (ho : o.op = .indexAddr t x ix) (hr : Rk k w A l) (hx : ev L x = some (.slice A n c)) (hi : ev L ix = some (.int ki i)) (ht : T.ty.lookup t = some (.slice e)) (hs : T.sz.lookup e = some 1) (hn : n = l.length) (hb : 0 ≤ i ∧ i < (l.length : Int)) (w' : World) :
    (execOp a.eval o).run P w' = .ok (.value (elP A i)) w' := by
  subst hn
  obtain ⟨ad, rfl, -, -⟩ := hr.rd.cell (j := i.toNat) (by omega)
  exact indexAddr_run hT fr ho hx hi ht hs hb.1 hb.2 w'
theorem wl_pe (hT : T.Ok P) {o : Oper} {rest : List Oper} {t : TypeId} {x ix : Operand} {d n c e : Nat} {ki : IntKind} (hr : Rk k w A l) (fr : FrD Df N a L) (hw : wantL ops L o = some true) (ho : o.op = .indexAddr t x ix) (hd : o.dst = some d) (hlt : Nat.blt d N = true) (hx : ev L x = some (.slice A n c)) (hi : ev L ix = some (.int ki i))
    (ht : T.ty.lookup t = some (.slice e)) (hs : T.sz.lookup e = some 1) (hn : n = l.length) (hb : 0 ≤ i ∧ i < (l.length : Int)) (h : ∀ a', FrD Df N a' ((d, elP A i) :: L) → wpList P ops Q rest a' w) : wpList P ops Q (o :: rest) a w :=
  wl_val fr hw hd hlt (el_run hT fr ho hr hx hi ht hs hn hb w) rfl h
theorem sl_pe (hT : T.Ok P) {s : SOp} {rest : List Itm} {t : TypeId} {x ix : Operand} {d n c e : Nat} {ki : IntKind} (hr : Rk k w A l) (fr : FrD Df N a L) (hw : wantS L s = some true) (hq : s.q = true) (ho : s.op = .indexAddr t x ix) (hd : s.dst = some d) (hlt : Nat.blt d N = true) (hx : ev L x = some (.slice A n c)) (hi : ev L ix = some (.int ki i))
    (ht : T.ty.lookup t = some (.slice e)) (hs : T.sz.lookup e = some 1) (hn : n = l.length) (hb : 0 ≤ i ∧ i < (l.length : Int)) (h : ∀ a', FrD Df N a' ((d, elP A i) :: L) → SL P Q S' rest a' w) : SL P Q S' (.one s :: rest) a w :=
  sl_q fr hw hq hd hlt (fun w' _ => el_run hT fr (o := s.oper) ho hr hx hi ht hs hn hb w') rfl h
theorem lde_run (hT : T.Ok P) (fr : FrD Df N a L) {o : Oper} {te : TypeId} {x : Operand} {de : TypeDesc} (ho : o.op = .load te x) (hx : ev L x = some (elP A i)) (hte : T.ty.lookup te = some de) (hde : aggD de = false) (hr : Rk k w A l) (hb : 0 ≤ i ∧ i < (l.length : Int)) :
    (execOp a.eval o).run P w = .ok (.value (.int k (l.getD i.toNat 0))) w ∧ vok (.int k (l.getD i.toNat 0)) = true := by
  have hj : i.toNat < l.length := by omega
  obtain ⟨ad, rfl, -, hc⟩ := hr.rd.cell hj
  have hm : l.getD i.toNat 0 ∈ l := by rw [List.getD_eq_getElem?_getD, List.getElem?_eq_getElem hj]; exact List.getElem_mem hj
  exact ⟨load_run hT fr ho hx hte hde (by rw [Nat.mul_one]; exact hc), hr.wf _ hm⟩
theorem wl_lde (hT : T.Ok P) {o : Oper} {rest : List Oper} {te : TypeId} {x : Operand} {d : Nat} {de : TypeDesc} (hr : Rk k w A l) (fr : FrD Df N a L) (hw : wantL ops L o = some true) (ho : o.op = .load te x) (hd : o.dst = some d) (hlt : Nat.blt d N = true) (hx : ev L x = some (elP A i)) (hte : T.ty.lookup te = some de) (hde : aggD de = false) (hb : 0 ≤ i ∧ i < (l.length : Int))
    (h : ∀ a', FrD Df N a' ((d, .int k (l.getD i.toNat 0)) :: L) → wpList P ops Q rest a' w) : wpList P ops Q (o :: rest) a w :=
  wl_val fr hw hd hlt (lde_run hT fr ho hx hte hde hr hb).1 (lde_run hT fr ho hx hte hde hr hb).2 h
/-- A loud one, in a region. -/
theorem sl_lde (hT : T.Ok P) {s : SOp} {rest : List Itm} {te : TypeId} {x : Operand} {d : Nat} {de : TypeDesc} (hr : Rk k w A l) (fr : FrD Df N a L) (hw : wantS L s = some true) (hq : s.q = false) (ho : s.op = .load te x) (hd : s.dst = some d) (hlt : Nat.blt d N = true) (hx : ev L x = some (elP A i)) (hte : T.ty.lookup te = some de) (hde : aggD de = false) (hb : 0 ≤ i ∧ i < (l.length : Int)) (hS : S' w)
    (h : ∀ a', FrD Df N a' ((d, .int k (l.getD i.toNat 0)) :: L) → SL P Q S' rest a' w) : SL P Q S' (.one s :: rest) a w :=
  sl_val fr hw hq hd hlt (lde_run hT fr (o := s.oper) ho hx hte hde hr hb).1 hS (lde_run hT fr (o := s.oper) ho hx hte hde hr hb).2 h
/-- Two of them, either way about. -/
theorem sl_lde2 (hT : T.Ok P) {s t : SOp} {rest : List Itm} {te tf : TypeId} {x y : Operand} {d d' : Nat} {de df : TypeDesc} {k' : IntKind} {A' : Option Addr} {l' : List Int} {i' : Int} (hr : Rk k w A l) (hr' : Rk k' w A' l') (fr : FrD Df N a L)
    (ho : s.op = .load te x) (hd : s.dst = some d) (hlt : Nat.blt d N = true) (hx : ev L x = some (elP A i)) (hte : T.ty.lookup te = some de) (hde : aggD de = false) (hb : 0 ≤ i ∧ i < (l.length : Int))
    (ho' : t.op = .load tf y) (hd' : t.dst = some d') (hlt' : Nat.blt d' N = true) (hy : ev L y = some (elP A' i')) (htf : T.ty.lookup tf = some df) (hdf : aggD df = false) (hb' : 0 ≤ i' ∧ i' < (l'.length : Int))
    (hxd : ∀ v, ev ((d', v) :: L) x = ev L x) (hyd : ∀ v, ev ((d, v) :: L) y = ev L y) (hne : Nat.beq d d' = false) (hS : S' w)
    (h : ∀ a', FrD Df N a' ((d', .int k' (l'.getD i'.toNat 0)) :: (d, .int k (l.getD i.toNat 0)) :: L) → SL P Q S' rest a' w) : SL P Q S' (.two s t :: rest) a w := by
  have h1 := lde_run hT fr (o := s.oper) ho hx hte hde hr hb
  have h2 := lde_run hT fr (o := t.oper) ho' hy htf hdf hr' hb'
  have f1 : FrD Df N (a.put s.dst (.int k (l.getD i.toNat 0))) ((d, .int k (l.getD i.toNat 0)) :: L) := by rw [hd]; exact fr.put (blt_lt hlt) h1.2
  have f2 : FrD Df N (a.put t.dst (.int k' (l'.getD i'.toNat 0))) ((d', .int k' (l'.getD i'.toNat 0)) :: L) := by rw [hd']; exact fr.put (blt_lt hlt') h2.2
  have hne' : d ≠ d' := fun e => by subst e; simp at hne
  refine s2lv h1.1 (lde_run hT f1 (o := t.oper) ho' (by rw [hyd]; exact hy) htf hdf hr' hb').1 h2.1 (lde_run hT f2 (o := s.oper) ho (by rw [hxd]; exact hx) hte hde hr hb).1 hS hS rfl ?_ (h _ (by rw [hd']; exact f1.put (blt_lt hlt') h2.2))
  rw [hd, hd']
  unfold Act.put
  simp only
  rw [Array.setIfInBounds_comm _ _ hne'.symm]
theorem ste_run (hT : T.Ok P) (fr : FrD Df N a L) {o : Oper} {te : TypeId} {p v : Operand} {c e : Nat} {z : Int} (ho : o.op = .store te p v) (hp : ev L p = some (elP A i)) (hv : ev L v = some (.int k z)) (hs : T.sz.lookup te = some 1) (S : Sat w0 w (ownA k e A c l :: R)) (hb : 0 ≤ i ∧ i < (l.length : Int)) :
    ∃ w', (execOp a.eval o).run P w = .ok .skip w' ∧ Sat w0 w' (ownA k e A c (l.set i.toNat z) :: R) := by
  obtain ⟨j, rfl⟩ : ∃ j : Nat, i = j := ⟨i.toNat, by omega⟩
  rw [Int.toNat_natCast]
  have hj : j < l.length := by omega
  obtain ⟨F, ⟨g1, g2, g3⟩, hF, hk⟩ := S.opened
  obtain ⟨g, c', e1⟩ := g1.ptr (by omega)
  injection e1 with e1 _ e2
  subst e1 e2
  obtain ⟨q1, q2, q3, q4, -, -⟩ := g1.cell hj
  have ea : (⟨g, 0, none⟩ : Addr).add (j * 1) = ⟨g, j, none⟩ := by unfold Addr.add; split <;> simp_all
  have hrun : (storeCells (⟨g, j, none⟩ : Addr) [.int k z]).run P w = .ok () (w.setCell ⟨g, j, none⟩ (.int k z)) := by
    have h2 := run_storeCells_cells (P := P) g j [.int k z] 0 w (fun q hq => by
      have hq : q = 0 := by simpa using hq
      subst hq; simpa using by rw [q1]; rfl) (fun q hq => by
      have hq : q = 0 := by simpa using hq
      subst hq; simpa using q2) (fun u hu => by
      have hu : u = .int k z := by simpa using hu
      subst hu; rfl)
    have h3 : (storeCells (⟨g, j, none⟩ : Addr) [.int k z]).run P w = .ok () (w.setCells g j [.int k z]) := by simpa using h2
    exact h3
  refine ⟨w.setCell ⟨g, j, none⟩ (.int k z), ?_, hk (A' := ownA k e (some ⟨g, 0, none⟩) c (l.set j z)) (F' := F) (G := fun q => q = g) ⟨?_, fun u hu => ?_, fun q => ?_⟩ (Chg.setCell w ⟨g, j, none⟩ _) (fun q _ hq => (g3 q).2 (by subst hq; rfl)) fun q hq => .inl hq⟩
  · have hp' : (elP (some ⟨g, 0, none⟩) (j : Int)) = .pointer (some ⟨g, j, none⟩) := by
      show Value.pointer (some ((⟨g, 0, none⟩ : Addr).add ((j : Int).toNat * 1))) = _
      rw [Int.toNat_natCast, ea]
    rw [hp'] at hp
    unfold execOp
    simp only [ho, (fr.ev hp).1, (fr.ev hv).1, Instr.storeAt, Instr.sureAddr, storeVar, Value.cells]
    simp [size_run hT hs, hrun]
  · have := g1.set hj (x := z)
    rw [List.length_set]; exact this
  · rcases List.mem_or_eq_of_mem_set hu with hu | hu
    · exact g2 u hu
    · subst hu; exact (fr.ev hv).2
  · rw [List.length_set]; exact g3 q
theorem wl_ste (hT : T.Ok P) {o : Oper} {rest : List Oper} {te : TypeId} {p v : Operand} {c e : Nat} {z : Int} (fr : FrD Df N a L) (hw : wantL ops L o = some true) (hd : o.dst = none) (ho : o.op = .store te p v) (hp : ev L p = some (elP A i)) (hv : ev L v = some (.int k z)) (hs : T.sz.lookup te = some 1) (S : Sat w0 w (ownA k e A c l :: R)) (hb : 0 ≤ i ∧ i < (l.length : Int))
    (h : ∀ w', Sat w0 w' (ownA k e A c (l.set i.toNat z) :: R) → wpList P ops Q rest a w') : wpList P ops Q (o :: rest) a w := by
  obtain ⟨w', h1, h2⟩ := ste_run hT fr ho hp hv hs S hb
  exact wl_skip fr hw hd h1 (h w' h2)
theorem sl_ste (hT : T.Ok P) {s : SOp} {rest : List Itm} {te : TypeId} {p v : Operand} {c e : Nat} {z : Int} (fr : FrD Df N a L) (hw : wantS L s = some true) (hq : s.q = false) (hd : s.dst = none) (ho : s.op = .store te p v) (hp : ev L p = some (elP A i)) (hv : ev L v = some (.int k z)) (hs : T.sz.lookup te = some 1) (S : Sat w0 w (ownA k e A c l :: R)) (hb : 0 ≤ i ∧ i < (l.length : Int))
    (h : ∀ w', Sat w0 w' (ownA k e A c (l.set i.toNat z) :: R) → S' w' ∧ SL P Q S' rest a w') : SL P Q S' (.one s :: rest) a w := by
  obtain ⟨w', h1, h2⟩ := ste_run hT fr (o := s.oper) ho hp hv hs S hb
  exact sl_skip fr hw hq hd h1 (h w' h2).1 (h w' h2).2
/-- A call, its arguments spelled another way. -/
theorem wl_callE {o : Oper} {rest : List Oper} {d : Nat} {f : FuncId} {xs ys : List Value} {E : Ending → World → Prop} (fr : FrD Df N a L) (hw : wantL ops L o = some true) (hd : o.dst = some d) (hlt : Nat.blt d N = true) (hc : callL L o = some (f, xs)) (hin : Enters P f) (he : xs = ys) (hcon : Calls P f ys.toArray w E)
    (h : ∀ e w', E e w' → ∃ v, e = .returned v ∧ vok v = true ∧ ∀ a', FrD Df N a' ((d, v) :: L) → wpList P ops Q rest a' w') : wpList P ops Q (o :: rest) a w := wl_call fr hw hd hlt hc hin (he ▸ hcon) h
theorem sl_callE {s : SOp} {rest : List Itm} {d : Nat} {f : FuncId} {xs ys : List Value} {E : Ending → World → Prop} (fr : FrD Df N a L) (hw : wantS L s = some true) (hq : s.q = false) (hd : s.dst = some d) (hlt : Nat.blt d N = true) (hc : callL L s.oper = some (f, xs)) (hin : Enters P f) (he : xs = ys) (hcon : Calls P f ys.toArray w E)
    (h : ∀ e w', E e w' → ∃ v, e = .returned v ∧ vok v = true ∧ S' w' ∧ ∀ a', FrD Df N a' ((d, v) :: L) → SL P Q S' rest a' w') : SL P Q S' (.one s :: rest) a w := sl_call fr hw hq hd hlt hc hin (he ▸ hcon) h
/-- A byte of a string. -/
def strB (s : ByteArray) (i : Nat) : Int := ((s[i]?).map (fun b => (b.toNat : Int))).getD 0
theorem wl_ixs (hT : T.Ok P) {o : Oper} {rest : List Oper} {t : TypeId} {x ix : Operand} {d : Nat} {s : ByteArray} {ki : IntKind} (fr : FrD Df N a L) (hw : wantL ops L o = some true) (hd : o.dst = some d) (hlt : Nat.blt d N = true) (ho : o.op = .index t x ix) (hx : ev L x = some (.string s)) (hi : ev L ix = some (.int ki i)) (ht : T.ty.lookup t = some .string)
    (hb : 0 ≤ i ∧ i < (s.size : Int)) (h : ∀ a', FrD Df N a' ((d, .int .u8 (strB s i.toNat)) :: L) → wpList P ops Q rest a' w) : wpList P ops Q (o :: rest) a w := by
  have hs : i.toNat < s.size := by omega
  have e1 : s[i.toNat]? = some s[i.toNat] := getElem?_pos s i.toNat hs
  have e2 : strB s i.toNat = (s[i.toNat].toNat : Int) := by unfold strB; rw [e1]; rfl
  refine wl_val (v := .int .u8 (strB s i.toNat)) fr hw hd hlt ?_ ?_ h
  · unfold execOp
    simp only [ho, (fr.ev hx).1, (fr.ev hi).1, Instr.index, asIntOf]
    rw [Sem.run_bind, Sem.run_bind, Sem.run_pure, Result.andThen_ok]
    simp only
    rw [Sem.run_bind, run_underlying (hT.und ht), Result.andThen_ok]
    simp only
    rw [if_pos hb.1, e1, e2]; rfl
  · rw [e2]
    have := s[i.toNat].toNat_lt
    show (Lit.int .u8 (s[i.toNat].toNat : Int)).wf = true
    rw [wf_int]
    have h1 : IntKind.u8.min = 0 := by decide
    have h2 : IntKind.u8.max = 255 := by decide
    omega
/-- A variable in a block of its own. -/
theorem Sat.varAt {b e : Nat} {v : Value} {M : List Asn} (S : Sat w0 w M) (j : Nat) (hj : M[j]? = some (stA e b [v])) : w.cell? (⟨b, 0, none⟩ : Addr) = some v ∧ vok v = true := by
  have := S.stAt j hj (j := 0) rfl
  rwa [addr0] at this
theorem wl_allocv {o : Oper} {rest : List Oper} {t : TypeId} {d : Nat} {v : Value} (fr : FrD Df N a L) (hw : wantL ops L o = some true) (hd : o.dst = some d) (hlt : Nat.blt d N = true) (ho : o.op = .alloc t) (hz : ∀ W, (zeroValue t).run P W = .ok v W) (hc : v.cells = #[v]) (hok : vok v = true) (S : Sat w0 w R)
    (h : ∀ w' b, Sat w0 w' (stA t b [v] :: R) → ∀ a', FrD Df N a' ((d, .pointer (some ⟨b, 0, none⟩)) :: L) → wpList P ops Q rest a' w') : wpList P ops Q (o :: rest) a w := by
  refine wl_val (v := .pointer (some ⟨w.heap.size, 0, none⟩)) (w' := w.alloc (.cells #[v] t)) fr hw hd hlt ?_ rfl (h _ _ ?_)
  · unfold execOp
    simp only [ho, Instr.alloc]
    rw [Sem.run_bind, Sem.run_bind, hz, Result.andThen_ok, Sem.run_bind]
    unfold newVar
    rw [hc]
    rfl
  · exact S.add (F := fun g => g = w.heap.size) ((Below.refl _ _).alloc (Nat.le_refl _) _) ⟨heap_alloc_new _ _, by simp [hok], S.below.size, fun g => Iff.rfl⟩ fun g hg => Nat.le_of_eq hg.symm
theorem wl_stv (hT : T.Ok P) {o : Oper} {rest : List Oper} {te : TypeId} {p v : Operand} {b e : Nat} {y z : Value} (fr : FrD Df N a L) (hw : wantL ops L o = some true) (hd : o.dst = none) (ho : o.op = .store te p v) (hp : ev L p = some (.pointer (some ⟨b, 0, none⟩))) (hv : ev L v = some z) (hs : T.sz.lookup te = some 1)
    (hc : z.cells = #[z]) (h1 : z.oneCell' = true) (S : Sat w0 w (stA e b [y] :: R)) (h : ∀ w', Sat w0 w' (stA e b [z] :: R) → wpList P ops Q rest a w') : wpList P ops Q (o :: rest) a w :=
  wl_stf (j := 0) hT fr hw hd ho (by rw [addr0]; exact hp) hv hs hc h1 S rfl h
theorem sl_stv (hT : T.Ok P) {s : SOp} {rest : List Itm} {te : TypeId} {p v : Operand} {b e : Nat} {y z : Value} (fr : FrD Df N a L) (hw : wantS L s = some true) (hq : s.q = false) (hd : s.dst = none) (ho : s.op = .store te p v) (hp : ev L p = some (.pointer (some ⟨b, 0, none⟩))) (hv : ev L v = some z) (hs : T.sz.lookup te = some 1)
    (hc : z.cells = #[z]) (h1 : z.oneCell' = true) (S : Sat w0 w (stA e b [y] :: R)) (h : ∀ w', Sat w0 w' (stA e b [z] :: R) → S' w' ∧ SL P Q S' rest a w') : SL P Q S' (.one s :: rest) a w := by
  obtain ⟨w', h2, h3⟩ := store1_run hT fr (o := s.oper) (j := 0) ho (by rw [addr0]; exact hp) hv hs hc h1 S rfl
  exact sl_skip fr hw hq hd h2 (h w' h3).1 (h w' h3).2
/-- A loud one. -/
theorem sl_ldv (hT : T.Ok P) {s : SOp} {rest : List Itm} {te : TypeId} {x : Operand} {d : Nat} {b : Nat} {v : Value} {de : TypeDesc} (hr : w.cell? (⟨b, 0, none⟩ : Addr) = some v ∧ vok v = true) (fr : FrD Df N a L) (hw : wantS L s = some true) (hq : s.q = false) (ho : s.op = .load te x) (hd : s.dst = some d) (hlt : Nat.blt d N = true)
    (hx : ev L x = some (.pointer (some ⟨b, 0, none⟩))) (hte : T.ty.lookup te = some de) (hde : aggD de = false) (hS : S' w) (h : ∀ a', FrD Df N a' ((d, v) :: L) → SL P Q S' rest a' w) : SL P Q S' (.one s :: rest) a w :=
  sl_val fr hw hq hd hlt (load_run hT fr (o := s.oper) ho hx hte hde hr.1) hS hr.2 h
theorem sl_ldv2 (hT : T.Ok P) {s t : SOp} {rest : List Itm} {te tf : TypeId} {x y : Operand} {d d' b b' : Nat} {v v' : Value} {de df : TypeDesc} (hr : w.cell? (⟨b, 0, none⟩ : Addr) = some v ∧ vok v = true) (hr' : w.cell? (⟨b', 0, none⟩ : Addr) = some v' ∧ vok v' = true) (fr : FrD Df N a L)
    (ho : s.op = .load te x) (hd : s.dst = some d) (hlt : Nat.blt d N = true) (hx : ev L x = some (.pointer (some ⟨b, 0, none⟩))) (hte : T.ty.lookup te = some de) (hde : aggD de = false)
    (ho' : t.op = .load tf y) (hd' : t.dst = some d') (hlt' : Nat.blt d' N = true) (hy : ev L y = some (.pointer (some ⟨b', 0, none⟩))) (htf : T.ty.lookup tf = some df) (hdf : aggD df = false)
    (hxd : ∀ v, ev ((d', v) :: L) x = ev L x) (hyd : ∀ v, ev ((d, v) :: L) y = ev L y) (hne : Nat.beq d d' = false) (hS : S' w)
    (h : ∀ a', FrD Df N a' ((d', v') :: (d, v) :: L) → SL P Q S' rest a' w) : SL P Q S' (.two s t :: rest) a w := by
  have f1 : FrD Df N (a.put s.dst v) ((d, v) :: L) := by rw [hd]; exact fr.put (blt_lt hlt) hr.2
  have f2 : FrD Df N (a.put t.dst v') ((d', v') :: L) := by rw [hd']; exact fr.put (blt_lt hlt') hr'.2
  have hne' : d ≠ d' := fun e => by subst e; simp at hne
  refine s2lv (load_run hT fr (o := s.oper) ho hx hte hde hr.1) (load_run hT f1 (o := t.oper) ho' (by rw [hyd]; exact hy) htf hdf hr'.1) (load_run hT fr (o := t.oper) ho' hy htf hdf hr'.1) (load_run hT f2 (o := s.oper) ho (by rw [hxd]; exact hx) hte hde hr.1) hS hS rfl ?_ (h _ (by rw [hd']; exact f1.put (blt_lt hlt') hr'.2))
  rw [hd, hd']
  unfold Act.put
  simp only
  rw [Array.setIfInBounds_comm _ _ hne'.symm]
/-- A row that is written into: its length stands by itself. -/
def rowA (k : IntKind) (e : TypeId) (A : Option Addr) (c n : Nat) (l : List Int) : Asn where
  holds := fun w B F => (OwnI k w B e (.slice A n c) l ∧ (∀ z ∈ l, (Lit.int k z).wf = true) ∧ ∀ g, F g ↔ (Value.slice A n c).ownBlock = some g) ∧ l.length = n
  keep := fun ⟨⟨h1, h2, h3⟩, h4⟩ hc hF _ => ⟨⟨h1.kept hc fun g hg => hF g ((h3 g).2 hg), h2, h3⟩, h4⟩
  dom := fun ⟨⟨h1, _, h3⟩, _⟩ g hg => h1.lt g ((h3 g).1 hg)
theorem row_own {c e : Nat} : (rowA k e A c l.length l).holds w = fun B F => (ownA k e A c l).holds w B F ∧ l.length = l.length := rfl
theorem Sat.toRow {c e : Nat} (S : Sat w0 w (ownA k e A c l :: R)) : Sat w0 w (rowA k e A c l.length l :: R) := by
  obtain ⟨h1, F, h2, h3, h4⟩ := S
  exact ⟨h1, F, ⟨h2, rfl⟩, h3, h4⟩
theorem Sat.ofRow {c e n : Nat} (S : Sat w0 w (rowA k e A c n l :: R)) : l.length = n ∧ Sat w0 w (ownA k e A c l :: R) := by
  obtain ⟨h1, F, ⟨h2, rfl⟩, h3, h4⟩ := S
  exact ⟨rfl, h1, F, h2, h3, h4⟩
theorem Sat.rowAt {c e n : Nat} {M : List Asn} (S : Sat w0 w M) (j : Nat) (hj : M[j]? = some (rowA k e A c n l)) : Rk k w A l := (S.frontAt j hj).ofRow.2.own.1
theorem Sat.rowLen {c e n : Nat} {M : List Asn} (S : Sat w0 w M) (j : Nat) (hj : M[j]? = some (rowA k e A c n l)) : n = l.length := ((S.frontAt j hj).ofRow.1).symm
theorem Sat.rowHb {c e n : Nat} {M : List Asn} (S : Sat w0 w M) (j : Nat) (hj : M[j]? = some (rowA k e A c n l)) {i : Int} (h : 0 ≤ i ∧ i < (n : Int)) : 0 ≤ i ∧ i < (l.length : Int) := by rw [← S.rowLen j hj]; exact h
theorem wl_str (hT : T.Ok P) {o : Oper} {rest : List Oper} {te : TypeId} {p v : Operand} {c e n : Nat} {z : Int} (fr : FrD Df N a L) (hw : wantL ops L o = some true) (hd : o.dst = none) (ho : o.op = .store te p v) (hp : ev L p = some (elP A i)) (hv : ev L v = some (.int k z)) (hs : T.sz.lookup te = some 1) (S : Sat w0 w (rowA k e A c n l :: R)) (hb : 0 ≤ i ∧ i < (n : Int))
    (h : ∀ w', Sat w0 w' (rowA k e A c n (l.set i.toNat z) :: R) → wpList P ops Q rest a w') : wpList P ops Q (o :: rest) a w := by
  obtain ⟨e1, S1⟩ := S.ofRow
  subst e1
  obtain ⟨w', h1, h2⟩ := ste_run hT fr ho hp hv hs S1 hb
  exact wl_skip fr hw hd h1 (h w' (by have := h2.toRow; rwa [List.length_set] at this))
theorem sl_str (hT : T.Ok P) {s : SOp} {rest : List Itm} {te : TypeId} {p v : Operand} {c e n : Nat} {z : Int} (fr : FrD Df N a L) (hw : wantS L s = some true) (hq : s.q = false) (hd : s.dst = none) (ho : s.op = .store te p v) (hp : ev L p = some (elP A i)) (hv : ev L v = some (.int k z)) (hs : T.sz.lookup te = some 1) (S : Sat w0 w (rowA k e A c n l :: R)) (hb : 0 ≤ i ∧ i < (n : Int))
    (h : ∀ w', Sat w0 w' (rowA k e A c n (l.set i.toNat z) :: R) → S' w' ∧ SL P Q S' rest a w') : SL P Q S' (.one s :: rest) a w := by
  obtain ⟨e1, S1⟩ := S.ofRow
  subst e1
  obtain ⟨w', h1, h2⟩ := ste_run hT fr (o := s.oper) ho hp hv hs S1 hb
  obtain ⟨h3, h4⟩ := h w' (by have := h2.toRow; rwa [List.length_set] at this)
  exact sl_skip fr hw hq hd h1 h3 h4
end
end Go.Proofs.YticnjkdaccacaaaGreatDoor.Sx
end
section
/- Maps of rows: the map, and the rows that it leads to, each on its own. -/
namespace Go.Proofs.YticnjkdaccacaaaGreatDoor.Sx
open Go Go.RowKit Base Own

section
variable {w0 w : World} {B : Nat} {U : Nat → Prop} {L L' R : List Asn}
theorem SatF.perm (h : L.Perm L') : ∀ {U : Nat → Prop}, SatF w B U L → SatF w B U L' := by
  induction h with
  | nil => intro U h; exact h
  | cons A _ ih => rintro U ⟨F, h1, h2, h3⟩; exact ⟨F, h1, h2, ih h3⟩
  | swap A A' L => intro U h; exact h.swap
  | trans _ _ ih1 ih2 => intro U h; exact ih2 (ih1 h)
theorem Sat.perm (S : Sat w0 w L) (h : L.Perm L') : Sat w0 w L' := ⟨S.below, S.parts.perm h⟩
theorem SatF.left : ∀ {X Y : List Asn} {U : Nat → Prop}, SatF w B U (X ++ Y) → SatF w B U X := by
  intro X
  induction X with
  | nil => intro Y U _; trivial
  | cons A X ih => rintro Y U ⟨F, h1, h2, h3⟩; exact ⟨F, h1, h2, ih h3⟩
/-- The first things alone. -/
theorem Sat.firsts (X : List Asn) {Y : List Asn} (S : Sat w0 w (X ++ Y)) : Sat w0 w X := ⟨S.below, S.parts.left⟩
end
/-- A row as a value: where it begins, its room, what stands in it. -/
abbrev Rw := Option Addr × Nat × List Int
def rwV (p : Rw) : Value := .slice p.1 p.2.2.length p.2.1
def rw0 : Rw := (none, 0, [])
theorem rwV_vok (z : Rw) : vokC (rwV z) = vok (rwV z) := rfl
def rowsOf (k : IntKind) (e : TypeId) (m : List (Int × Rw)) : List Asn := m.map fun p => ownA k e p.2.1 p.2.2.1 p.2.2.2
def plM (m : List (Int × Rw)) : List (Int × List Int) := m.map fun p => (p.1, p.2.2.2)
def rowK (m : List (Int × Rw)) (x : Int) : Rw := (lkM m x).getD rw0
theorem lk_pl (m : List (Int × Rw)) (x : Int) : lkM (plM m) x = (lkM m x).map (·.2.2) := by
  induction m with
  | nil => rfl
  | cons p r ih =>
    unfold plM at ih ⊢
    rw [List.map_cons, lkM_cons, lkM_cons, ih]
    split <;> rfl
theorem up_pl (m : List (Int × Rw)) (x : Int) (r : Rw) : plM (upM m x r) = upM (plM m) x r.2.2 := by
  induction m with
  | nil => rfl
  | cons p q ih =>
    unfold plM at ih ⊢
    simp only [List.map_cons, upM]
    by_cases h : p.1 = x
    · rw [if_pos h, if_pos h]; rfl
    · rw [if_neg h, if_neg h, List.map_cons, ih]
theorem keys_pl (m : List (Int × Rw)) : keysM (plM m) = keysM m := by
  unfold keysM plM
  rw [List.map_map]; rfl
theorem up_perm {α : Type} (m : List (Int × α)) (x : Int) (v : α) : (upM m x v).Perm ((x, v) :: delM m x) := by
  induction m with
  | nil => exact List.Perm.refl _
  | cons p r ih =>
    unfold upM delM
    by_cases h : p.1 = x
    · rw [if_pos h, if_pos h, h]
    · rw [if_neg h, if_neg h]
      exact (List.Perm.cons p ih).trans (List.Perm.swap _ _ _)
theorem lk_perm {α : Type} {m : List (Int × α)} {x : Int} {v : α} (h : lkM m x = some v) : m.Perm ((x, v) :: delM m x) := by
  induction m with
  | nil => cases h
  | cons p r ih =>
    rw [lkM_cons] at h
    unfold delM
    by_cases hp : p.1 = x
    · rw [if_pos hp] at h ⊢
      injection h with h
      rw [← h, ← hp]
    · rw [if_neg hp] at h ⊢
      exact (List.Perm.cons p (ih h)).trans (List.Perm.swap _ _ _)
theorem del_none {α : Type} {m : List (Int × α)} {x : Int} (h : lkM m x = none) : delM m x = m := by
  induction m with
  | nil => rfl
  | cons p r ih =>
    rw [lkM_cons] at h
    unfold delM
    by_cases hp : p.1 = x
    · rw [if_pos hp] at h; cases h
    · rw [if_neg hp] at h ⊢; rw [ih h]
section
variable {w0 w : World} {R : List Asn} {k : IntKind} {e : TypeId} {m : List (Int × Rw)}
/-- The row at a key is taken out (nothing there: a nil row). -/
theorem Sat.takeRow (S : Sat w0 w (rowsOf k e m ++ R)) (x : Int) : Sat w0 w (ownA k e (rowK m x).1 (rowK m x).2.1 (rowK m x).2.2 :: (rowsOf k e (delM m x) ++ R)) := by
  unfold rowK
  cases h : lkM m x with
  | none => rw [del_none h]; exact S.nilRow k e
  | some v =>
    refine S.perm ?_
    exact (((lk_perm h).map _).append_right R)
/-- A row is put in at a key. -/
theorem Sat.putRow {r : Rw} (x : Int) (S : Sat w0 w (ownA k e r.1 r.2.1 r.2.2 :: (rowsOf k e (delM m x) ++ R))) : Sat w0 w (rowsOf k e (upM m x r) ++ R) := by
  refine S.perm ?_
  exact (((up_perm m x r).map (fun p => ownA k e p.2.1 p.2.2.1 p.2.2.2)).append_right R).symm
theorem Sat.backRow {r : Rw} {x : Int} (h : lkM m x = some r) (S : Sat w0 w (ownA k e r.1 r.2.1 r.2.2 :: (rowsOf k e (delM m x) ++ R))) : Sat w0 w (rowsOf k e m ++ R) := by
  refine S.perm ?_
  exact (((lk_perm h).map (fun p => ownA k e p.2.1 p.2.2.1 p.2.2.2)).append_right R).symm
theorem rows_mv {H X : List Asn} {Y : List Asn} : (H ++ (X ++ Y)).Perm (X ++ (H ++ Y)) := by
  rw [← List.append_assoc, ← List.append_assoc]
  exact List.perm_append_comm.append_right Y
/-- The same behind other things. -/
theorem Sat.take2 (H : List Asn) (S : Sat w0 w (H ++ (rowsOf k e m ++ R))) (x : Int) : Sat w0 w (ownA k e (rowK m x).1 (rowK m x).2.1 (rowK m x).2.2 :: (H ++ (rowsOf k e (delM m x) ++ R))) :=
  ((S.perm rows_mv).takeRow x).perm (List.Perm.cons _ rows_mv)
theorem Sat.put2 (H : List Asn) {r : Rw} (x : Int) (S : Sat w0 w (ownA k e r.1 r.2.1 r.2.2 :: (H ++ (rowsOf k e (delM m x) ++ R)))) : Sat w0 w (H ++ (rowsOf k e (upM m x r) ++ R)) :=
  (Sat.putRow x (S.perm (List.Perm.cons _ rows_mv))).perm rows_mv
theorem Sat.back2 (H : List Asn) {x : Int} (h : lkM m x ≠ none) (S : Sat w0 w (ownA k e (rowK m x).1 (rowK m x).2.1 (rowK m x).2.2 :: (H ++ (rowsOf k e (delM m x) ++ R)))) : Sat w0 w (H ++ (rowsOf k e m ++ R)) := by
  obtain ⟨r, hr⟩ := Option.ne_none_iff_exists'.1 h
  unfold rowK at S
  rw [hr] at S
  exact (Sat.backRow hr (S.perm (List.Perm.cons _ rows_mv))).perm rows_mv
theorem Sat.readAt (H : List Asn) (S : Sat w0 w (H ++ (rowsOf k e m ++ R))) (x : Int) : Rk k w (rowK m x).1 (rowK m x).2.2 ∧ (rowK m x).2.2.length ≤ (rowK m x).2.1 ∧ (rowK m x).2.1 ≤ maxLen := (S.take2 H x).own
/-- The row at a key reads as what stands there. -/
theorem Sat.readRow (S : Sat w0 w (rowsOf k e m ++ R)) (x : Int) : Rk k w (rowK m x).1 (rowK m x).2.2 ∧ (rowK m x).2.2.length ≤ (rowK m x).2.1 ∧ (rowK m x).2.1 ≤ maxLen := (S.takeRow x).own
end
end Go.Proofs.YticnjkdaccacaaaGreatDoor.Sx
end
section
/- Small plain facts. -/
namespace Go.Proofs.YticnjkdaccacaaaGreatDoor.Pl
open Go Go.RowKit Sx Base Own

theorem w64 {x : Int} (h0 : -9223372036854775808 ≤ x) (h1 : x ≤ 9223372036854775807) : IntKind.wrap .i64 x = x := IntWalk.i64_in x ⟨h0, h1⟩
theorem w64s {n : Nat} (h : n ≤ 1000000000000000) : IntKind.wrap .i64 ((n : Int) + (1 : Int)) = ((n + 1 : Nat) : Int) := by rw [w64 (by omega) (by omega)]; omega
theorem wu8 (x : Int) : IntKind.wrap .u8 x = x % 256 := by rw [IntKind.wrap_u8]
theorem tm {x m : Int} (h0 : 0 ≤ x) : Int.tmod x m = x % m := Int.tmod_eq_emod_of_nonneg h0
theorem wf8 {l : List Int} (v : ∀ n ∈ l, (Lit.int .u8 n).wf = true) {i : Nat} (hi : i < l.length) : 0 ≤ l.getD i 0 ∧ l.getD i 0 ≤ 255 := by
  have hm : l.getD i 0 ∈ l := by rw [List.getD_eq_getElem?_getD, List.getElem?_eq_getElem hi]; exact List.getElem_mem hi
  have := v _ hm
  rw [wf_int] at this
  have h1 : IntKind.u8.min = 0 := by decide
  have h2 : IntKind.u8.max = 255 := by decide
  omega
theorem wf16 {l : List Int} (v : ∀ n ∈ l, (Lit.int .u16 n).wf = true) {i : Nat} (hi : i < l.length) : 0 ≤ l.getD i 0 ∧ l.getD i 0 ≤ 65535 := by
  have hm : l.getD i 0 ∈ l := by rw [List.getD_eq_getElem?_getD, List.getElem?_eq_getElem hi]; exact List.getElem_mem hi
  have := v _ hm
  rw [wf_int] at this
  have h1 : IntKind.u16.min = 0 := by decide
  have h2 : IntKind.u16.max = 65535 := by decide
  omega
theorem wfu8 {x : Int} (v : (Lit.int .u8 x).wf = true) : 0 ≤ x ∧ x ≤ 255 := by
  rw [wf_int] at v
  have h1 : IntKind.u8.min = 0 := by decide
  have h2 : IntKind.u8.max = 255 := by decide
  omega
theorem wfu32 {x : Int} (v : (Lit.int .u32 x).wf = true) : 0 ≤ x ∧ x ≤ 4294967295 := by
  rw [wf_int] at v
  have h1 : IntKind.u32.min = 0 := by decide
  have h2 : IntKind.u32.max = 4294967295 := by decide
  omega
theorem wfu64 {x : Int} (v : (Lit.int .u64 x).wf = true) : 0 ≤ x ∧ x ≤ 18446744073709551615 := by
  rw [wf_int] at v
  have h1 : IntKind.u64.min = 0 := by decide
  have h2 : IntKind.u64.max = 18446744073709551615 := by decide
  omega
theorem dt {p : Prop} [Decidable p] (h : p) : decide p = true := by simp [h]
theorem df {p : Prop} [Decidable p] (h : ¬ p) : decide p = false := by simp [h]
theorem ift {ρ : Type} {b : Bool} {x y : ρ} (h : b = true) : (if b = true then x else y) = x := by rw [if_pos h]
theorem iff_ {ρ : Type} {b : Bool} {x y : ρ} (h : b = false) : (if b = true then x else y) = y := by rw [h]; rfl
theorem bne_no {x y : Int} (h : x = y) : (x != y) = false := by subst h; simp
theorem beq_yes {x y : Int} (h : x = y) : (x == y) = true := by subst h; simp
theorem beq_no {x y : Int} (h : x ≠ y) : (x == y) = false := by simpa using h
end Go.Proofs.YticnjkdaccacaaaGreatDoor.Pl
end
section
/- Rings: who waits for whom, as the program gathers it. -/
namespace Go.Proofs.YticnjkdaccacaaaGreatDoor.Sx
open Go Go.RowKit Base Own

/-- For whom each one waits. -/
def wtStep (m : List (Int × List Int)) (p : Int × Int) : List (Int × List Int) :=
  if (lkM (upM m p.1 ((lkM m p.1).getD [] ++ [p.2])) p.2).isSome = true then upM m p.1 ((lkM m p.1).getD [] ++ [p.2]) else upM (upM m p.1 ((lkM m p.1).getD [] ++ [p.2])) p.2 []
def wtL (es : List (Int × Int)) : List (Int × List Int) := es.foldl wtStep []
def tgt (es : List (Int × Int)) (x : Int) : List Int := (es.filter fun p => p.1 == x).map (·.2)
def nodeOf (es : List (Int × Int)) (x : Int) : Prop := ∃ p ∈ es, p.1 = x ∨ p.2 = x
instance (es : List (Int × Int)) (x : Int) : Decidable (nodeOf es x) := by unfold nodeOf; exact List.decidableBEx _ es
theorem wtL_snoc (es : List (Int × Int)) (p : Int × Int) : wtL (es ++ [p]) = wtStep (wtL es) p := by unfold wtL; rw [List.foldl_append]; rfl
theorem tgt_snoc (es : List (Int × Int)) (p : Int × Int) (x : Int) : tgt (es ++ [p]) x = if p.1 = x then tgt es x ++ [p.2] else tgt es x := by
  unfold tgt
  rw [List.filter_append, List.map_append]
  by_cases h : p.1 = x
  · rw [if_pos h, List.filter_cons, if_pos (by simpa using h)]; rfl
  · rw [if_neg h, List.filter_cons, if_neg (by simpa using h)]; simp
theorem node_snoc (es : List (Int × Int)) (p : Int × Int) (x : Int) : nodeOf (es ++ [p]) x ↔ nodeOf es x ∨ p.1 = x ∨ p.2 = x := by
  unfold nodeOf
  constructor
  · rintro ⟨q, hq, h⟩
    rcases List.mem_append.1 hq with hq | hq
    · exact .inl ⟨q, hq, h⟩
    · rw [List.mem_singleton] at hq; subst hq; exact .inr h
  · rintro (⟨q, hq, h⟩ | h)
    · exact ⟨q, List.mem_append_left _ hq, h⟩
    · exact ⟨p, List.mem_append_right _ (List.mem_singleton_self p), h⟩
theorem tgt_none {es : List (Int × Int)} {x : Int} (h : ¬ nodeOf es x) : tgt es x = [] := by
  unfold tgt
  rw [List.filter_eq_nil_iff.2 (fun p hp => by
    have : p.1 ≠ x := fun e => h ⟨p, hp, .inl e⟩
    simpa using this)]
  rfl
theorem snoc_ind {P : List (Int × Int) → Prop} (h0 : P []) (hs : ∀ es p, P es → P (es ++ [p])) (es : List (Int × Int)) : P es := by
  have : ∀ l : List (Int × Int), P l.reverse := by
    intro l
    induction l with
    | nil => exact h0
    | cons x l ih => rw [List.reverse_cons]; exact hs _ _ ih
  have := this es.reverse
  rwa [List.reverse_reverse] at this
theorem lk_wtL (es : List (Int × Int)) : (∀ x, lkM (wtL es) x = if nodeOf es x then some (tgt es x) else none) ∧ (keysM (wtL es)).Nodup := by
  refine snoc_ind (P := fun es => (∀ x, lkM (wtL es) x = if nodeOf es x then some (tgt es x) else none) ∧ (keysM (wtL es)).Nodup) ⟨fun x => ?_, List.nodup_nil⟩ (fun es p ih => ?_) es
  · rw [if_neg (by rintro ⟨p, hp, _⟩; cases hp)]; rfl
  · obtain ⟨h1, h2⟩ := ih
    rw [wtL_snoc]
    have e0 : (lkM (wtL es) p.1).getD [] = tgt es p.1 := by
      rw [h1]
      by_cases h : nodeOf es p.1
      · rw [if_pos h]; rfl
      · rw [if_neg h, tgt_none h]; rfl
    have h3 : ∀ x, lkM (upM (wtL es) p.1 ((lkM (wtL es) p.1).getD [] ++ [p.2])) x = if nodeOf es x ∨ p.1 = x then some (tgt (es ++ [p]) x) else none := by
      intro x
      rw [lk_up, e0, tgt_snoc]
      by_cases h : p.1 = x
      · rw [if_pos h, if_pos (.inr h), if_pos h, h]
      · rw [if_neg h, if_neg h, h1]
        by_cases h4 : nodeOf es x
        · rw [if_pos h4, if_pos (.inl h4)]
        · rw [if_neg h4, if_neg (by rintro (h' | h'); exact h4 h'; exact h h')]
    unfold wtStep
    by_cases hs : (lkM (upM (wtL es) p.1 ((lkM (wtL es) p.1).getD [] ++ [p.2])) p.2).isSome = true
    · rw [if_pos hs]
      refine ⟨fun x => ?_, nodup_up h2 _ _⟩
      rw [h3]
      rw [h3] at hs
      have h5 : nodeOf es p.2 ∨ p.1 = p.2 := by
        by_cases h : nodeOf es p.2 ∨ p.1 = p.2
        · exact h
        · rw [if_neg h] at hs; cases hs
      have : (nodeOf es x ∨ p.1 = x) ↔ nodeOf (es ++ [p]) x := by
        rw [node_snoc]
        constructor
        · rintro (h | h)
          · exact .inl h
          · exact .inr (.inl h)
        · rintro (h | h | h)
          · exact .inl h
          · exact .inr h
          · rw [← h]; exact h5
      by_cases h : nodeOf es x ∨ p.1 = x
      · rw [if_pos h, if_pos (this.1 h)]
      · rw [if_neg h, if_neg (fun q => h (this.2 q))]
    · rw [if_neg hs]
      refine ⟨fun x => ?_, nodup_up (nodup_up h2 _ _) _ _⟩
      rw [lk_up, h3]
      rw [h3] at hs
      have h5 : ¬ (nodeOf es p.2 ∨ p.1 = p.2) := fun h => hs (by rw [if_pos h]; rfl)
      by_cases hx : p.2 = x
      · rw [if_pos hx, if_pos ((node_snoc _ _ _).2 (.inr (.inr hx)))]
        subst hx
        rw [tgt_snoc, if_neg (fun e => h5 (.inr e)), tgt_none (fun e => h5 (.inl e))]
      · rw [if_neg hx]
        have : (nodeOf es x ∨ p.1 = x) ↔ nodeOf (es ++ [p]) x := by
          rw [node_snoc]
          constructor
          · rintro (h | h)
            · exact .inl h
            · exact .inr (.inl h)
          · rintro (h | h | h)
            · exact .inl h
            · exact .inr h
            · exact absurd h hx
        by_cases h : nodeOf es x ∨ p.1 = x
        · rw [if_pos h, if_pos (this.1 h)]
        · rw [if_neg h, if_neg (fun q => h (this.2 q))]
theorem tgt_len (es : List (Int × Int)) (x : Int) : (tgt es x).length ≤ es.length := by unfold tgt; rw [List.length_map]; exact List.length_filter_le _ _

/-! ### The walk -/
def orcW : Orc := ⟨[(3, .int .i64), (4, .bool), (86, .int .u32), (91, .slice 86), (174, .map 86 91), (167, .map 86 3)],
  [(3, 1), (86, 1)]⟩
theorem orcW_ok : orcW.Ok Tryz.prog := ⟨⟨Tryz.underlying3, Tryz.underlying4, Tryz.underlying86, Tryz.underlying91, Tryz.underlying174, Tryz.underlying167, trivial⟩, ⟨by kernel_rfl, by kernel_rfl, trivial⟩⟩
theorem litW : RowTy Tryz.prog 91 86 .u32 := ⟨Tryz.underlying91, 4, by decide, by kernel_rfl⟩
theorem zeroW : ∀ W, (zeroValue 91).run Tryz.prog W = .ok (rwV rw0) W := fun _ => by kernel_rfl
theorem zeroI : ∀ W, (zeroValue 3).run Tryz.prog W = .ok (.int .i64 0) W := fun _ => by kernel_rfl
theorem rowK_pl {m : List (Int × Rw)} {es : List (Int × Int)} (h : plM m = wtL es) (x : Int) : (rowK m x).2.2 = tgt es x := by
  have h1 := lk_pl m x
  rw [h, (lk_wtL es).1] at h1
  unfold rowK
  cases hl : lkM m x with
  | none =>
    rw [hl] at h1
    split at h1
    · cases h1
    · rename_i hn; rw [tgt_none hn]; rfl
  | some v =>
    rw [hl] at h1
    split at h1
    · injection h1 with h1; rw [h1]; rfl
    · cases h1
set_option maxRecDepth 100000 in
set_option maxHeartbeats 4000000 in
theorem waits_key {w : World} (A0 A1 : Option Addr) (c0 c1 : Nat) (l0 l1 : List Int) (rk0 : Rk .u32 w A0 l0) (rk1 : Rk .u32 w A1 l1) (m0 : l0.length ≤ c0 ∧ c0 ≤ maxLen) (m1 : l1.length ≤ c1 ∧ c1 ≤ maxLen) (hl : l1.length = l0.length) (hb : l0.length ≤ 1000) :
    Calls Tryz.prog 133 #[.slice A0 l0.length c0, .slice A1 l1.length c1] w fun e w' => ∃ b m, e = .returned (.map (some b)) ∧ plM m = wtL (l0.zip l1) ∧ Sat w w' (mapA .u32 rwV b m :: (rowsOf .u32 86 m ++ [])) := by
  have S := Sat.start w
  refine calls_start (N := 47) [.slice A0 l0.length c0, .slice A1 l1.length c1] Tryz.func133 rfl rfl rfl (vok_c (vok_sl m0) (vok_c (vok_sl m1) rfl)) fun a fr => ?_
  skip; (repeat (with_reducible refine wp_seq ?_)); refine wp_region_lit ?_
  refine wl_run orcW_ok 1 rfl fr fun a fr => ?_
  refine wpList_nil ?_; (repeat (with_reducible refine then_n ?_))
  skip; (repeat (with_reducible refine wp_seq ?_)); refine wp_region_lit ?_
  refine wl_mkmap .u32 rwV fr rfl rfl rfl rfl S ?_
  intro w1 b S a fr
  refine wl_run orcW_ok 1 rfl fr fun a fr => ?_
  refine wpList_nil ?_; (repeat (with_reducible refine then_n ?_))
  skip; (repeat (with_reducible refine wp_seq ?_)); refine wp_region_lit ?_
  refine wl_run orcW_ok 3 rfl fr fun a fr => ?_
  refine wpList_nil ?_; (repeat (with_reducible refine then_n ?_))
  refine wp_block ?_
  have hz : (l0.zip l1).length = l0.length := by rw [List.length_zip, hl, Nat.min_self]
  refine cw_loop (fun q a w2 => ∃ (i : Nat) (m : List (Int × Rw)), i + q = l0.length + 1 ∧ i ≤ l0.length ∧ plM m = wtL ((l0.zip l1).take i) ∧ Fr 47 a [(0, .slice A0 l0.length c0), (1, .slice A1 l1.length c1), (5, .map (some b)), (11, .slice A0 l0.length c0), (12, .int .i64 (l0.length : Int)), (13, .int .i64 (i : Int))] ∧
      Sat w w2 (mapA .u32 rwV b m :: (rowsOf .u32 86 m ++ []))) (l0.length + 1) ⟨0, [], by omega, by omega, rfl, fr.sub ⟨rfl, rfl, rfl, rfl, rfl, rfl, trivial⟩, S⟩ ?_ ?_
  · rintro a w2 ⟨i, m, h, h', -⟩
    omega
  · rintro q a w2 ⟨i, m, hi, hi', hm, fr, S⟩
    skip; (repeat (with_reducible refine wp_seq ?_)); refine wp_region_lit ?_
    refine wl_run orcW_ok 1 rfl fr fun a fr => ?_
    refine wpList_nil ?_; (repeat (with_reducible refine then_n ?_))
    by_cases hlt : i < l0.length
    · have fr := fr.bool (d := 14) rfl (decide_eq_true (show (i : Int) < (l0.length : Int) by omega))
      skip; (repeat (with_reducible refine wp_seq ?_))
      refine cw_t fr rfl ?_
      refine wp_skip ?_
      (with_reducible refine then_n ?_)
      refine cw_cut (fun a w5 => ∃ m3, plM m3 = wtL ((l0.zip l1).take (i + 1)) ∧ Fr 47 a [(0, .slice A0 l0.length c0), (1, .slice A1 l1.length c1), (5, .map (some b)), (11, .slice A0 l0.length c0), (12, .int .i64 (l0.length : Int)), (13, .int .i64 (i : Int))] ∧ Sat w w5 (mapA .u32 rwV b m3 :: (rowsOf .u32 86 m3 ++ []))) ?_ ?_
      rotate_left
      · rintro a w5 ⟨m3, hm3, fr, S⟩
        skip; (repeat (with_reducible refine wp_seq ?_)); refine wp_region_lit ?_
        refine wl_run orcW_ok 2 rfl fr fun a fr => ?_
        refine wpList_nil ?_; (repeat (with_reducible refine then_n ?_))
        refine ⟨i + 1, m3, by omega, by omega, hm3, ?_, S⟩
        have fr := fr.spell (d := 13) rfl (congrArg (Value.int .i64) (Pl.w64s (n := i) (by omega)))
        exact fr.sub ⟨rfl, rfl, rfl, rfl, rfl, rfl, trivial⟩
      refine wp_block ?_
      skip; (repeat (with_reducible refine wp_seq ?_)); refine wp_region_lit ?_
      refine wl_run orcW_ok 1 rfl fr fun a fr => ?_
      refine wl_ld orcW_ok (Rk.at rk0 S) fr rfl rfl rfl rfl rfl rfl rfl rfl rfl rfl rfl rfl rfl rfl rfl rfl ⟨by omega, by omega⟩ fun a fr => ?_
      refine wl_run orcW_ok 2 rfl fr fun a fr => ?_
      refine wpList_nil ?_; (repeat (with_reducible refine then_n ?_))
      obtain ⟨x, hx⟩ : ∃ x, l0.getD i 0 = x := ⟨_, rfl⟩
      obtain ⟨y, hy⟩ : ∃ y, l1.getD i 0 = y := ⟨_, rfl⟩
      skip; (repeat (with_reducible refine wp_seq ?_))
      refine wp_region_ph [] [11] [] [] [.one (0, true, some 18), .one (1, true, some 19), .one (2, true, some 20), .one (3, true, some 21), .one (4, true, some 22), .one (5, true, some 23), .one (6, true, some 24), .one (7, true, some 25), .one (8, true, some 26), .one (9, false, some 27), .one (10, false, some 28)] [.one ⟨true, some 18, (Go.Op.move (Go.Operand.tmp 5)), 174, none⟩,
    .one ⟨true, some 19, (Go.Op.move (Go.Operand.tmp 7)), 86, none⟩,
    .one ⟨true, some 20, (Go.Op.move (Go.Operand.tmp 5)), 174, none⟩,
    .one ⟨true, some 21, (Go.Op.move (Go.Operand.tmp 7)), 86, none⟩,
    .one ⟨true, some 22, (Go.Op.lookup 174 (Go.Operand.tmp 20) (Go.Operand.tmp 21) false), 91, none⟩,
    .one ⟨true, some 23, (Go.Op.move (Go.Operand.tmp 1)), 91, none⟩,
    .one ⟨true, some 24, (Go.Op.move (Go.Operand.tmp 6)), 3, none⟩,
    .one ⟨true, some 25, (Go.Op.indexAddr 91 (Go.Operand.tmp 23) (Go.Operand.tmp 24)), 0, none⟩,
    .one ⟨true, some 26, (Go.Op.load 86 (Go.Operand.tmp 25)), 86, none⟩,
    .one ⟨false, some 27, (Go.Op.buildSlice 91 1 #[(0, (Go.Operand.tmp 26))]), 91, none⟩,
    .one ⟨false, some 28, (Go.Op.call { callee := (Go.Callee.builtin Go.Builtin.append), args := #[(Go.Operand.tmp 22), (Go.Operand.tmp 27)], argTypes := #[91, 91] }), 91, none⟩] [.one (11, false, none)] [.one ⟨false, none, (Go.Op.mapUpdate 174 (Go.Operand.tmp 18) (Go.Operand.tmp 19) (Go.Operand.tmp 28)), 0, none⟩] (fun v => Sat w v [mapA .u32 rwV b m]) (fun v => Sat w v []) rfl (by kernel_rfl) (by kernel_rfl) (by kernel_rfl) (by kernel_rfl) (S.drew.firsts [_]) (fun _ S => S.firsts []) ?_
      have S := S.drew
      refine sl_next ?_
      refine sl_run orcW_ok 4 rfl fr fun a fr => ?_
      refine sl_lk (f := rwV) orcW_ok rw0 zeroW rfl (fun _ S => Sat.mapAt S 0 rfl) fr rfl rfl rfl rfl rfl rfl rfl rfl rfl (S.firsts [_]) fun a fr => ?_
      refine sl_run orcW_ok 2 rfl fr fun a fr => ?_
      refine sl_ld orcW_ok (fun _ S => Rk.at rk1 S) fr rfl rfl rfl rfl rfl rfl rfl rfl rfl rfl rfl rfl rfl rfl rfl rfl rfl rfl ⟨by omega, by omega⟩ (S.firsts [_]) fun a fr => ?_
      rw [Int.toNat_natCast] at fr
      rw [hx, hy] at fr
      have fr := fr.spell (d := 22) rfl (show rwV ((lkM m x).getD rw0) = .slice (rowK m x).1 (rowK m x).2.2.length (rowK m x).2.1 from rfl)
      have S : Sat w _ (ownA .u32 86 (rowK m x).1 (rowK m x).2.1 (rowK m x).2.2 :: mapA .u32 rwV b m :: (rowsOf .u32 86 (delM m x) ++ [])) := S.take2 [mapA .u32 rwV b m] x
      refine sl_lit (xs := [y]) orcW_ok litW fr rfl rfl rfl rfl rfl ⟨rfl, rfl, trivial⟩ rfl rfl S ?_
      intro w3 A3 c3 S
      refine ⟨(S.mask [false, false]).firsts [_], fun a fr => ?_⟩
      have hk := Sat.ownAt S 0 rfl
      have S : Sat w _ (ownA .u32 86 (rowK m x).1 (rowK m x).2.1 (rowK m x).2.2 :: ownA .u32 86 A3 c3 [y] :: mapA .u32 rwV b m :: (rowsOf .u32 86 (delM m x) ++ [])) := S.frontAt 1 rfl
      have hlen : (rowK m x).2.2.length ≤ i := by
        rw [rowK_pl hm]
        refine Nat.le_trans (tgt_len _ _) ?_
        rw [List.length_take]; omega
      refine sl_app litW fr rfl rfl rfl rfl rfl rfl rfl rfl rfl hk (by simp only [List.length_cons, List.length_nil]; omega) S ?_
      intro w4 A4 c4 S
      have S := S.mask [true, false]
      refine ⟨(S.mask [false]).firsts [_], fun a fr => ?_⟩
      refine sl_next ?_
      have S : Sat w _ (mapA .u32 rwV b m :: ownA .u32 86 A4 c4 ((rowK m x).2.2 ++ [y]) :: (rowsOf .u32 86 (delM m x) ++ [])) := S.frontAt 1 rfl
      refine sl_up orcW_ok ((A4, c4, (rowK m x).2.2 ++ [y]) : Rw) fr rfl rfl rfl (.inl rfl) rfl rfl rfl rfl rfl S ?_
      intro w5 S
      refine ⟨S.firsts [], ?_⟩
      refine sl_end ?_
      (with_reducible refine then_n ?_)
      have S : Sat w _ (ownA .u32 86 A4 c4 ((rowK m x).2.2 ++ [y]) :: mapA .u32 rwV b (upM m x (A4, c4, (rowK m x).2.2 ++ [y])) :: (rowsOf .u32 86 (delM m x) ++ [])) := S.frontAt 1 rfl
      have S : Sat w _ (mapA .u32 rwV b (upM m x (A4, c4, (rowK m x).2.2 ++ [y])) :: (rowsOf .u32 86 (upM m x (A4, c4, (rowK m x).2.2 ++ [y])) ++ [])) := Sat.put2 [mapA .u32 rwV b (upM m x (A4, c4, (rowK m x).2.2 ++ [y]))] (r := (A4, c4, (rowK m x).2.2 ++ [y])) x S
      have hm2 : plM (upM m x (A4, c4, (rowK m x).2.2 ++ [y])) = upM (wtL ((l0.zip l1).take i)) x ((lkM (wtL ((l0.zip l1).take i)) x).getD [] ++ [y]) := by
        rw [up_pl, hm, rowK_pl hm]
        have : (lkM (wtL ((l0.zip l1).take i)) x).getD [] = tgt ((l0.zip l1).take i) x := by
          rw [(lk_wtL _).1]
          split
          · rfl
          · rename_i hn; rw [tgt_none hn]; rfl
        rw [this]
      generalize upM m x (A4, c4, (rowK m x).2.2 ++ [y]) = m2 at S hm2
      skip; (repeat (with_reducible refine wp_seq ?_)); refine wp_region_lit ?_
      refine wl_run orcW_ok 3 rfl fr fun a fr => ?_
      refine wl_ld orcW_ok (Rk.at rk1 S) fr rfl rfl rfl rfl rfl rfl rfl rfl rfl rfl rfl rfl rfl rfl rfl rfl ⟨by omega, by omega⟩ fun a fr => ?_
      rw [Int.toNat_natCast, hy] at fr
      refine wl_lk2 (f := rwV) orcW_ok rw0 zeroW rfl (fun _ => rfl) (Sat.mapAt S 0 rfl) fr rfl rfl rfl rfl rfl rfl rfl rfl fun a fr => ?_
      refine wl_run orcW_ok 5 rfl fr fun a fr => ?_
      refine wpList_nil ?_; (repeat (with_reducible refine then_n ?_))
      skip; (repeat (with_reducible refine wp_seq ?_)); refine wp_region_lit ?_
      refine wl_run orcW_ok 2 rfl fr fun a fr => ?_
      refine wpList_nil ?_; (repeat (with_reducible refine then_n ?_))
      have hzi : (l0.zip l1).take (i + 1) = (l0.zip l1).take i ++ [(x, y)] := by
        rw [List.take_succ_eq_append_getElem (by omega), List.getElem_zip]
        rw [List.getD_eq_getElem?_getD, List.getElem?_eq_getElem hlt] at hx
        rw [List.getD_eq_getElem?_getD, List.getElem?_eq_getElem (by omega)] at hy
        simp only [Option.getD_some] at hx hy
        rw [hx, hy]
      have hw : wtL ((l0.zip l1).take (i + 1)) = if (lkM m2 y).isSome = true then plM m2 else upM (plM m2) y [] := by
        rw [hzi, wtL_snoc]
        unfold wtStep
        simp only
        rw [← hm2, lk_pl]
        cases lkM m2 y <;> rfl
      cases hs : (lkM m2 y).isSome with
      | true =>
        rw [hs, if_pos rfl] at hw
        have fr := fr.bool (d := 39) rfl (by rw [hs])
        refine cw_f fr rfl ?_
        refine wp_skip ?_
        refine blk_n ?_
        refine then_n ?_
        exact ⟨m2, hw.symm, fr.sub ⟨rfl, rfl, rfl, rfl, rfl, rfl, trivial⟩, S⟩
      | false =>
        rw [hs, if_neg (by decide)] at hw
        have fr := fr.bool (d := 39) rfl (by rw [hs])
        refine cw_t fr rfl ?_
        skip; (repeat (with_reducible refine wp_seq ?_)); refine wp_region_lit ?_
        refine wl_run orcW_ok 3 rfl fr fun a fr => ?_
        refine wl_ld orcW_ok (Rk.at rk1 S) fr rfl rfl rfl rfl rfl rfl rfl rfl rfl rfl rfl rfl rfl rfl rfl rfl ⟨by omega, by omega⟩ fun a fr => ?_
        rw [Int.toNat_natCast, hy] at fr
        refine wl_up orcW_ok rw0 fr rfl rfl (.inl rfl) rfl rfl rfl rfl rfl S ?_
        intro w6 S
        refine wpList_nil ?_
        refine blk_n ?_
        refine then_n ?_
        have hn : lkM m2 y = none := by cases h : lkM m2 y with
          | none => rfl
          | some v => rw [h] at hs; cases hs
        refine ⟨upM m2 y rw0, by rw [up_pl, hw]; rfl, fr.sub ⟨rfl, rfl, rfl, rfl, rfl, rfl, trivial⟩, ?_⟩
        have S : Sat w w6 (ownA .u32 86 none 0 [] :: mapA .u32 rwV b (upM m2 y rw0) :: (rowsOf .u32 86 (delM m2 y) ++ [])) := by
          rw [del_none hn]; exact S.nilRow .u32 86
        exact Sat.put2 [mapA .u32 rwV b (upM m2 y rw0)] (r := rw0) y S
    · obtain rfl : i = l0.length := by omega
      have fr := fr.bool (d := 14) rfl (decide_eq_false (by omega))
      skip; (repeat (with_reducible refine wp_seq ?_))
      refine cw_f fr rfl ?_
      refine wp_exit ?_
      refine then_e ?_
      refine then_e ?_
      refine blk_y ?_
      (repeat (with_reducible refine then_n ?_))
      skip; (repeat (with_reducible refine wp_seq ?_)); refine wp_region_lit ?_
      refine wl_run orcW_ok 2 rfl fr fun a fr => ?_
      refine wpList_nil ?_; (repeat (with_reducible refine then_n ?_))
      refine wp_ret ?_
      refine ret1 fr rfl rfl ?_
      rw [List.take_of_length_le (by omega)] at hm
      exact ⟨b, m, rfl, hm, S⟩
theorem waits_walk {w0 w : World} {R : List Asn} (A0 A1 : Option Addr) (c0 c1 : Nat) (l0 l1 : List Int) (rk0 : Rk .u32 w A0 l0) (rk1 : Rk .u32 w A1 l1) (m0 : l0.length ≤ c0 ∧ c0 ≤ maxLen) (m1 : l1.length ≤ c1 ∧ c1 ≤ maxLen) (hl : l1.length = l0.length) (hb : l0.length ≤ 1000) (S : Sat w0 w R) :
    Calls Tryz.prog 133 #[.slice A0 l0.length c0, .slice A1 l1.length c1] w fun e w' => ∃ b m, e = .returned (.map (some b)) ∧ plM m = wtL (l0.zip l1) ∧ Sat w0 w' (mapA .u32 rwV b m :: (rowsOf .u32 86 m ++ R)) :=
  (waits_key A0 A1 c0 c1 l0 l1 rk0 rk1 m0 m1 hl hb).mono fun e w' ⟨b, m, h1, h2, h3⟩ => ⟨b, m, h1, h2, by
    rw [List.append_nil] at h3
    exact S.join h3 fun A hA F => by
      rcases List.mem_cons.1 hA with rfl | hA
      · exact mapA_lower S.below.size F
      · obtain ⟨p, -, rfl⟩ := List.mem_map.1 hA
        exact own_lower S.below.size F⟩
end Go.Proofs.YticnjkdaccacaaaGreatDoor.Sx
end
section
/- Who comes to whom: plainly. -/
namespace Go.Proofs.YticnjkdaccacaaaGreatDoor.Sx
open Go Go.RowKit Base Own

/-- One comes to another one, along who waits for whom. -/
inductive Cms (es : List (Int × Int)) (a : Int) : Int → Prop
  | here : Cms es a a
  | step {b c : Int} : Cms es a b → (b, c) ∈ es → Cms es a c
theorem Cms.trans {es : List (Int × Int)} {a b c : Int} (h : Cms es a b) (h2 : Cms es b c) : Cms es a c := by
  induction h2 with
  | here => exact h
  | step _ hm ih => exact .step ih hm
theorem Cms.mono {es fs : List (Int × Int)} {a b : Int} (h : Cms es a b) (hs : ∀ p ∈ es, p ∈ fs) : Cms fs a b := by
  induction h with
  | here => exact .here
  | step _ hm ih => exact .step ih (hs _ hm)
theorem Cms.first {es : List (Int × Int)} {a b c : Int} (hm : (a, b) ∈ es) (h : Cms es b c) : Cms es a c := (Cms.step .here hm).trans h
def grow (es : List (Int × Int)) (l : List Int) : List Int := l ++ (es.filter fun p => l.contains p.1 && !l.contains p.2).map (·.2)
def clo (es : List (Int × Int)) : Nat → List Int → List Int
  | 0, l => l
  | n + 1, l => clo es n (grow es l)
def comesB (es : List (Int × Int)) (a b : Int) : Bool := (clo es es.length [a]).contains b
def closed (es : List (Int × Int)) (l : List Int) : Prop := ∀ p ∈ es, p.1 ∈ l → p.2 ∈ l
theorem grow_sub (es : List (Int × Int)) (l : List Int) : ∀ x ∈ l, x ∈ grow es l := fun x hx => List.mem_append_left _ hx
theorem grow_closed {es : List (Int × Int)} {l : List Int} (h : closed es l) : grow es l = l := by
  unfold grow
  rw [List.filter_eq_nil_iff.2 (fun p hp => by
    simp only [Bool.and_eq_true, List.contains_iff_mem, Bool.not_eq_true', not_and, Bool.not_eq_false]
    intro hp1
    simpa using h p hp hp1)]
  simp
theorem clo_closed {es : List (Int × Int)} : ∀ {n : Nat} {l : List Int}, closed es l → clo es n l = l := by
  intro n
  induction n with
  | zero => intro l _; rfl
  | succ n ih => intro l h; unfold clo; rw [grow_closed h, ih h]
def away (es : List (Int × Int)) (l : List Int) : Nat := (es.filter fun p => !l.contains p.2).length
theorem away_le {es : List (Int × Int)} {l l' : List Int} (h : ∀ x ∈ l, x ∈ l') : away es l' ≤ away es l := by
  unfold away
  induction es with
  | nil => exact Nat.le_refl _
  | cons p r ih =>
    rw [List.filter_cons, List.filter_cons]
    by_cases hp : p.2 ∈ l
    · rw [if_neg (by simpa using h _ hp), if_neg (by simpa using hp)]; exact ih
    · rw [if_pos (show (!l.contains p.2) = true by simpa using hp)]
      split
      · simp only [List.length_cons]; omega
      · simp only [List.length_cons]; omega
theorem away_lt {es : List (Int × Int)} {l l' : List Int} (h : ∀ x ∈ l, x ∈ l') {p : Int × Int} (hp : p ∈ es) (h1 : p.2 ∉ l) (h2 : p.2 ∈ l') : away es l' < away es l := by
  induction es with
  | nil => cases hp
  | cons q r ih =>
    unfold away at ih ⊢
    rw [List.filter_cons, List.filter_cons]
    rcases List.mem_cons.1 hp with rfl | hp
    · rw [if_neg (by simpa using h2), if_pos (by simpa using h1)]
      have := away_le (es := r) h
      unfold away at this
      simp only [List.length_cons]; omega
    · have := ih hp
      by_cases hq : q.2 ∈ l
      · rw [if_neg (by simpa using h _ hq), if_neg (by simpa using hq)]; exact this
      · rw [if_pos (show (!l.contains q.2) = true by simpa using hq)]
        split
        · simp only [List.length_cons]; omega
        · simp only [List.length_cons]; omega
theorem clo_end {es : List (Int × Int)} : ∀ {n : Nat} {l : List Int}, away es l ≤ n → closed es (clo es n l) := by
  intro n
  induction n with
  | zero =>
    intro l h p hp _
    unfold clo
    refine Classical.byContradiction fun hn => ?_
    have : (es.filter fun p => !l.contains p.2) = [] := List.eq_nil_of_length_eq_zero (by unfold away at h; omega)
    have hm : p ∈ es.filter (fun p => !l.contains p.2) := List.mem_filter.2 ⟨hp, by simpa using hn⟩
    rw [this] at hm; cases hm
  | succ n ih =>
    intro l h
    unfold clo
    by_cases hc : closed es l
    · rw [grow_closed hc, clo_closed hc]; exact hc
    · refine ih ?_
      obtain ⟨p, hp⟩ := Classical.not_forall.1 hc
      simp only [Classical.not_imp] at hp
      obtain ⟨h1, h2, h3⟩ := hp
      have := away_lt (grow_sub es l) h1 h3 (show p.2 ∈ grow es l from List.mem_append_right _ (List.mem_map.2 ⟨p, List.mem_filter.2 ⟨h1, by simp [h2, h3]⟩, rfl⟩))
      omega
theorem clo_mem {es : List (Int × Int)} : ∀ {n : Nat} {l : List Int} {x : Int}, x ∈ l → x ∈ clo es n l := by
  intro n
  induction n with
  | zero => intro l x h; exact h
  | succ n ih => intro l x h; exact ih (grow_sub es l x h)
theorem clo_sound {es : List (Int × Int)} {a : Int} : ∀ {n : Nat} {l : List Int}, (∀ x ∈ l, Cms es a x) → ∀ x ∈ clo es n l, Cms es a x := by
  intro n
  induction n with
  | zero => intro l h; exact h
  | succ n ih =>
    intro l h
    refine ih fun x hx => ?_
    rcases List.mem_append.1 hx with hx | hx
    · exact h x hx
    · obtain ⟨p, hp, rfl⟩ := List.mem_map.1 hx
      obtain ⟨h1, h2⟩ := List.mem_filter.1 hp
      have h2 : p.1 ∈ l := by
        simp only [Bool.and_eq_true, List.contains_iff_mem] at h2
        exact h2.1
      exact .step (h _ h2) h1
theorem comes_closed {es : List (Int × Int)} {l : List Int} (h : closed es l) {a b : Int} (ha : a ∈ l) (hc : Cms es a b) : b ∈ l := by
  induction hc with
  | here => exact ha
  | step _ hm ih => exact h _ hm ih
theorem comes_iff (es : List (Int × Int)) (a b : Int) : comesB es a b = true ↔ Cms es a b := by
  unfold comesB
  rw [List.contains_iff_mem]
  constructor
  · exact clo_sound (fun x hx => by rw [List.mem_singleton] at hx; subst hx; exact .here) b
  · intro h
    refine comes_closed (clo_end (es := es) (n := es.length) (l := [a]) (List.length_filter_le _ _)) (clo_mem (List.mem_singleton_self a)) h
theorem mem_tgt {es : List (Int × Int)} {x y : Int} : y ∈ tgt es x ↔ (x, y) ∈ es := by
  unfold tgt
  rw [List.mem_map]
  constructor
  · rintro ⟨⟨a, b⟩, hp, rfl⟩
    obtain ⟨h1, h2⟩ := List.mem_filter.1 hp
    have : a = x := by simpa using h2
    subst this; exact h1
  · intro h
    exact ⟨(x, y), List.mem_filter.2 ⟨h, by simp⟩, rfl⟩
end Go.Proofs.YticnjkdaccacaaaGreatDoor.Sx
end
section
/- rings.Closes walked: it tells who comes to whom. -/
namespace Go.Proofs.YticnjkdaccacaaaGreatDoor.Sx
open Go Go.RowKit Base Own

theorem enWaits : Enters Tryz.prog 133 := fun _ _ => by kernel_rfl
/-- So many of those that are waited for have not been seen. -/
def unseen (es : List (Int × Int)) (sm : List (Int × Int)) : Nat := (es.filter fun p => (lkM sm p.2).isNone).length
theorem unseen_le {es sm sm' : List (Int × Int)} (h : ∀ x, lkM sm x ≠ none → lkM sm' x ≠ none) : unseen es sm' ≤ unseen es sm := by
  unfold unseen
  induction es with
  | nil => exact Nat.le_refl _
  | cons p r ih =>
    rw [List.filter_cons, List.filter_cons]
    cases hp : lkM sm p.2 with
    | some v =>
      have h1 := h p.2 (by rw [hp]; simp)
      cases hp' : lkM sm' p.2 with
      | none => exact absurd hp' h1
      | some v' => simpa using ih
    | none =>
      rw [if_pos (show (none : Option Int).isNone = true from rfl)]
      split
      · simp only [List.length_cons]; omega
      · simp only [List.length_cons]; omega
theorem unseen_lt {es sm sm' : List (Int × Int)} (h : ∀ x, lkM sm x ≠ none → lkM sm' x ≠ none) {p : Int × Int} (hp : p ∈ es) (h1 : lkM sm p.2 = none) (h2 : lkM sm' p.2 ≠ none) : unseen es sm' < unseen es sm := by
  induction es with
  | nil => cases hp
  | cons q r ih =>
    unfold unseen at ih ⊢
    rw [List.filter_cons, List.filter_cons]
    rcases List.mem_cons.1 hp with rfl | hp
    · have h3 : ¬ (lkM sm' p.2).isNone = true := by cases hq : lkM sm' p.2 with
        | none => exact absurd hq h2
        | some v => simp
      rw [if_neg h3, if_pos (by rw [h1]; rfl)]
      have := unseen_le (es := r) h
      unfold unseen at this
      simp only [List.length_cons]; omega
    · have := ih hp
      cases hq : lkM sm q.2 with
      | some v =>
        have h3 : ¬ (lkM sm' q.2).isNone = true := by cases hq' : lkM sm' q.2 with
          | none => exact absurd hq' (h q.2 (by rw [hq]; simp))
          | some v => simp
        rw [if_neg h3, if_neg (by simp)]; exact this
      | none =>
        rw [if_pos (show (none : Option Int).isNone = true from rfl)]
        split
        · simp only [List.length_cons]; omega
        · simp only [List.length_cons]; omega
/-- Between two steps of the search. -/
structure Srch (es : List (Int × Int)) (whom : Int) (P : Int → Prop) (sm : List (Int × Int)) (st : List Int) : Prop where
  ones : ∀ x v, lkM sm x = some v → v = 1
  begun : lkM sm whom = some 1
  come : ∀ x, lkM sm x = some 1 → Cms es whom x
  stack : ∀ x ∈ st, lkM sm x = some 1
  done : ∀ x, lkM sm x = some 1 → x ∈ st ∨ P x ∨ (∀ y, (x, y) ∈ es → lkM sm y = some 1)
  size : st.length + unseen es sm ≤ es.length + 1
theorem Srch.start (es : List (Int × Int)) (whom : Int) : Srch es whom (fun _ => False) (upM [] whom 1) [whom] := by
  have h : ∀ x, lkM (upM ([] : List (Int × Int)) whom 1) x = if whom = x then some 1 else none := fun x => by rw [lk_up]; rfl
  refine ⟨fun x v hv => ?_, by rw [h, if_pos rfl], fun x hx => ?_, fun x hx => ?_, fun x hx => ?_, ?_⟩
  · rw [h] at hv
    split at hv
    · injection hv with hv; exact hv.symm
    · cases hv
  · rw [h] at hx
    split at hx
    · rename_i e; subst e; exact .here
    · cases hx
  · rw [List.mem_singleton] at hx; subst hx; rw [h, if_pos rfl]
  · rw [h] at hx
    split at hx
    · rename_i e; subst e; exact .inl (List.mem_singleton_self _)
    · cases hx
  · have : unseen es (upM [] whom 1) ≤ es.length := List.length_filter_le _ _
    simp only [List.length_cons, List.length_nil]; omega
theorem Srch.pop {es : List (Int × Int)} {whom : Int} {sm : List (Int × Int)} {st : List Int} {x : Int} (h : Srch es whom (fun _ => False) sm (st ++ [x])) : Srch es whom (fun z => z = x) sm st := by
  refine ⟨h.ones, h.begun, h.come, fun z hz => h.stack z (List.mem_append_left _ hz), fun z hz => ?_, ?_⟩
  · rcases h.done z hz with h1 | h1 | h1
    · rcases List.mem_append.1 h1 with h1 | h1
      · exact .inl h1
      · rw [List.mem_singleton] at h1; exact .inr (.inl h1)
    · exact h1.elim
    · exact .inr (.inr h1)
  · have := h.size
    rw [List.length_append] at this
    simp only [List.length_cons, List.length_nil] at this
    omega
theorem Srch.push {es : List (Int × Int)} {whom : Int} {P : Int → Prop} {sm : List (Int × Int)} {st : List Int} {x y : Int} (h : Srch es whom P sm st) (hx : lkM sm x = some 1) (he : (x, y) ∈ es) (hn : lkM sm y = none) : Srch es whom P (upM sm y 1) (st ++ [y]) := by
  have hl : ∀ z, lkM (upM sm y 1) z = if y = z then some 1 else lkM sm z := fun z => lk_up sm y z 1
  have hk : ∀ z, lkM sm z = some 1 → lkM (upM sm y 1) z = some 1 := fun z hz => by rw [hl]; split; rfl; exact hz
  refine ⟨fun z v hv => ?_, hk _ h.begun, fun z hz => ?_, fun z hz => ?_, fun z hz => ?_, ?_⟩
  · rw [hl] at hv
    split at hv
    · injection hv with hv; exact hv.symm
    · exact h.ones z v hv
  · rw [hl] at hz
    split at hz
    · rename_i e; subst e; exact .step (h.come x hx) he
    · exact h.come z hz
  · rcases List.mem_append.1 hz with hz | hz
    · exact hk _ (h.stack z hz)
    · rw [List.mem_singleton] at hz; subst hz; rw [hl, if_pos rfl]
  · rw [hl] at hz
    by_cases e : y = z
    · exact .inl (List.mem_append_right _ (by rw [e]; exact List.mem_singleton_self z))
    · rw [if_neg e] at hz
      rcases h.done z hz with h1 | h1 | h1
      · exact .inl (List.mem_append_left _ h1)
      · exact .inr (.inl h1)
      · exact .inr (.inr fun y' hy' => hk _ (h1 y' hy'))
  · have h1 := h.size
    have h2 := unseen_lt (es := es) (sm := sm) (sm' := upM sm y 1) (fun z hz e => by
      rw [hl] at e
      split at e
      · cases e
      · exact hz e) he hn (by rw [hl, if_pos rfl]; simp)
    rw [List.length_append]
    simp only [List.length_cons, List.length_nil]; omega
theorem Srch.less {es sm : List (Int × Int)} {x y : Int} (he : (x, y) ∈ es) (hn : lkM sm y = none) : unseen es (upM sm y 1) + 1 ≤ unseen es sm := by
  have hl : ∀ z, lkM (upM sm y 1) z = if y = z then some 1 else lkM sm z := fun z => lk_up sm y z 1
  exact unseen_lt (es := es) (sm := sm) (sm' := upM sm y 1) (fun z hz e => by
    rw [hl] at e
    split at e
    · cases e
    · exact hz e) he hn (by rw [hl, if_pos rfl]; simp)
theorem Srch.ends {es : List (Int × Int)} {whom x : Int} {sm : List (Int × Int)} {st : List Int} (h : Srch es whom (fun z => z = x) sm st) (hc : ∀ y, (x, y) ∈ es → lkM sm y = some 1) : Srch es whom (fun _ => False) sm st :=
  ⟨h.ones, h.begun, h.come, h.stack, fun z hz => by
    rcases h.done z hz with h1 | h1 | h1
    · exact .inl h1
    · subst h1; exact .inr (.inr hc)
    · exact .inr (.inr h1), h.size⟩
theorem Srch.tells {es : List (Int × Int)} {whom who : Int} {sm : List (Int × Int)} {st : List Int} {P : Int → Prop} (h : Srch es whom P sm st) (hs : (st = [] ∧ ∀ x, ¬ P x) ∨ lkM sm who = some 1) : lkM sm who = some 1 ↔ Cms es whom who := by
  refine ⟨h.come who, fun hc => ?_⟩
  rcases hs with ⟨rfl, hP⟩ | hs
  · induction hc with
    | here => exact h.begun
    | step _ hm ih =>
      rcases h.done _ ih with h1 | h1 | h1
      · cases h1
      · exact absurd h1 (hP _)
      · exact h1 _ hm
  · exact hs
end Go.Proofs.YticnjkdaccacaaaGreatDoor.Sx
end
section
/- Twins of lists of numbers, and the contracts of rings, among the things in memory. -/
namespace Go.Proofs.YticnjkdaccacaaaGreatDoor.Sx
open Go Go.RowKit Base Own TwinIds

/-- A twin: a row of the call's own with one number more behind it. -/
def twA (A : Option Addr) (c : Nat) (l : List Int) : Asn := ownA .u32 86 A c (l ++ [77])
section
variable {w0 w : World} {R M : List Asn} {A A' : Option Addr} {c c' : Nat} {l : List Int}
theorem Sat.twnAt (S : Sat w0 w M) (i : Nat) (hi : M[i]? = some (twA A c l)) : Rk .u32 w A l := by
  have h := (Sat.ownAt S i hi).take l.length
  rwa [List.take_left] at h
theorem Sat.twnOwn (S : Sat w0 w (twA A c l :: R)) : Sat w0 w (ownA .u32 86 A c l :: R) := by
  obtain ⟨F, ⟨h1, h2, h3⟩, hF, hk⟩ := S.opened
  have hlen : (l ++ [77]).length = l.length + 1 := by simp
  refine hk (A' := ownA .u32 86 A c l) (F' := F) (G := fun _ => False) ⟨?_, fun z hz => h2 z (List.mem_append_left _ hz), fun g => ?_⟩ (Chg.refl _ _) (fun _ _ h => h.elim) fun g hg => .inl hg
  · rcases h1.2 with ⟨e1, e2⟩ | ⟨g, cap, cur, e1, hB, hg, h4, h5, h6, h7⟩
    · rw [hlen] at e2; omega
    · injection e1 with e3 e4 e5
      subst e3 e5
      refine ⟨by simp, .inr ⟨g, c, cur, rfl, hB, hg, by rw [hlen] at h4; omega, h5, h6, ?_⟩⟩
      have h8 := congrArg (List.take l.length) h7
      rw [List.take_take, hlen, List.map_append] at h8
      rw [show min l.length ((l.length + 1) * 1) = l.length by omega, List.take_left' (by simp)] at h8
      rw [Nat.mul_one]; exact h8
  · rw [h3 g]
    cases A <;> simp [Value.ownBlock]
theorem twn_of (S : Sat w0 w (twA A c l :: R)) : Twn w w0.heap.size (.slice A l.length c) l := by
  obtain ⟨F, ⟨h1, h2, h3⟩, hF, hk⟩ := S.opened
  obtain ⟨g, c2, e⟩ := h1.ptr (by simp)
  injection e with e1 e2 e3
  subst e1
  refine ⟨g, c, rfl, ?_⟩
  have hlen : (l ++ [77]).length = l.length + 1 := by simp
  rw [hlen] at h1
  exact h1
theorem twin_call (hr : Rk .u32 w A l) (hl : l.length ≤ 100000000000) (S : Sat w0 w R) : Calls Tryz.prog 49 #[.slice A l.length c] w fun e w' => ∃ A' c', e = .returned (.slice A' l.length c') ∧ vok (.slice A' l.length c') = true ∧ Sat w0 w' (twA A' c' l :: R) := by
  refine (twin A c l w hl hr.rd).mono ?_
  rintro e w' ⟨v, rfl, ⟨g, c', rfl, h2⟩, h3⟩
  have hlen : (l ++ [77]).length = l.length + 1 := by simp
  rw [← hlen] at h2
  obtain ⟨A2, c2, e2, h5, h6⟩ := S.row h3 h2 (fun z hz => by
    rcases List.mem_append.1 hz with hz | hz
    · exact hr.wf z hz
    · rw [List.mem_singleton] at hz; subst hz; decide)
  injection e2 with q1 q2 q3
  subst q1 q3
  obtain ⟨F, hF⟩ := h6.hd
  have hm := h6.own
  rw [hlen] at hm
  exact ⟨_, _, rfl, vok_sl ⟨by omega, hm.2.2⟩, h6⟩
theorem left_call (hr : Rk .u32 w A' l) (hl : l.length ≤ 100000000000) (S : Sat w0 w (twA A c l :: R)) : Calls Tryz.prog 52 #[.slice A l.length c, .slice A' l.length c'] w fun e w' => e = .returned (.bool true) ∧ Sat w0 w' (twA A c l :: R) := by
  refine (left _ A' c' _ l w hl (twn_of S) hr.rd).mono ?_
  rintro e w' ⟨rfl, h⟩
  exact ⟨rfl, S.new h⟩
end
theorem vok_cl (b : Bool) (p : Prop) [Decidable p] : vok (.tuple #[.bool b, .int .i64 (if p then 0 else 1)]) = true := by
  split <;> rfl
end Go.Proofs.YticnjkdaccacaaaGreatDoor.Sx
end
section
/- Slices of rows of the call's own: cut, appended to in place, cleared behind their end; calls of functions that have caught something. -/
namespace Go.Proofs.YticnjkdaccacaaaGreatDoor.Sx
open Go Go.RowKit Base Own

section
variable {P : Program} {T : Orc} {ops : Array Oper} {Q : Exit → Act → World → Prop} {S' : World → Prop} {Df : List Deferred} {N : Nat} {a : Act} {w w0 : World} {L : Env} {R : List Asn} {k : IntKind}
theorem sl_mid (t e : TypeId) (kl kh : IntKind) (ht : P.underlying t = some (.slice e)) (hi : (P.info? e).map (·.size) = some 1) (A : Option Addr) (n c l h : Nat) (xl xh : Int) (el : xl = l) (eh : xh = h) (h1 : l ≤ h) (h2 : h ≤ c) :
    ∀ W : World, (Instr.slice t (.slice A n c) (some (.int kl xl)) (some (.int kh xh)) none).run P W = .ok (.slice (dropA A c l) (h - l) (c - l)) W := by
  intro W
  subst el eh
  cases hq : P.info? e with
  | none => simp [hq] at hi
  | some i =>
    have hs : i.size = 1 := by simpa [hq] using hi
    simp only [Instr.slice, Sem.run_bind, run_underlying ht, Result.andThen_ok, Instr.sliceBounds, Instr.sliceBound, asIntOf, Sem.run_pure, Option.isSome]
    rw [if_pos ⟨by omega, by omega⟩]
    simp [sizeOf, typeInfo, hq, hs, dropA, h1]
/-- A slice of a slice, by the run that the operation asks for. -/
theorem slice_run (hT : T.Ok P) (fr : FrD Df N a L) {o : Oper} {t : TypeId} {x : Operand} {lo hi mx : Option Operand} {vlo vhi vmx : Option Value} (ho : o.op = .slice t x lo hi mx) {v : Value} {e : Nat} {A : Option Addr} {n c : Nat} (hx : ev L x = some (.slice A n c))
    (h1 : lo.map a.eval = vlo) (h2 : hi.map a.eval = vhi) (h3 : mx.map a.eval = vmx) (ht : T.ty.lookup t = some (.slice e)) (hr : ∀ w, (Instr.slice t (.slice A n c) vlo vhi vmx).run P w = .ok v w) (w : World) : (execOp a.eval o).run P w = .ok (.value v) w := by
  unfold execOp
  simp only [ho, (fr.ev hx).1, h1, h2, h3, Instr.sliceAt]
  rw [Sem.run_bind, Sem.run_bind, run_underlying (hT.und ht), Result.andThen_ok]
  simp only
  rw [hr]
  rfl
theorem andThen_ok' {α β : Type} {x : Result α} {f : α → World → Result β} {v : β} {w' : World} (h : x.andThen f = .ok v w') : ∃ u w1, x = .ok u w1 ∧ f u w1 = .ok v w' := by
  cases x with
  | ok u w1 => exact ⟨u, w1, rfl, h⟩
  | halt hl w1 => cases h
/-- What is appended where there is room stands behind, in the same row. -/
theorem app_in_exec {t e : TypeId} (RT : RowTy P t e k) (fr : FrD Df N a L) {o : Oper} {x y : Operand} {A Y : Option Addr} {n m c cy : Nat} {l news : List Int} (ho : o.op = .call { callee := .builtin .append, args := #[x, y], argTypes := #[t, t] }) (hx : ev L x = some (.slice A n c)) (hn : n = l.length) (hy : ev L y = some (.slice Y m cy)) (hm : m = news.length)
    (hr : Rk k w Y news) (hb : l.length + news.length ≤ c) (hb2 : (l.length : Int) + (news.length : Int) ≤ 17592186044416) (S : Sat w0 w (ownA k e A c l :: R)) :
    ∃ w', (execOp a.eval o).run P w = .ok (.value (.slice A (l ++ news).length c)) w' ∧ vok (.slice A (l ++ news).length c) = true ∧ Sat w0 w' (ownA k e A c (l ++ news) :: R) := by
  subst hn hm
  obtain ⟨F, ⟨h1, h2, h3⟩, hF, hk⟩ := S.opened
  obtain ⟨bytes, hle, hinfo⟩ := RT.hi
  have hmul : (l.length + news.length) * bytes ≤ (l.length + news.length) * 8 := Nat.mul_le_mul_left _ hle
  obtain ⟨v', w', hrun, h4, h5, h6⟩ := ap_run (P := P) t o.type (.int k 0) bytes RT.ht hinfo rfl h1 Y news.length cy news rfl hr.rd (fun e => by rw [hr.rd.empty e]; rfl) (by unfold maxLen; omega) (by omega) S.below.size
  have hv' : v' = .slice A (l ++ news).length c := by
    obtain ⟨i, hi, hzz⟩ := Option.map_eq_some_iff.1 hinfo
    have hrun' := hrun
    unfold Builtin.append_ at hrun'
    simp only [List.getElem?_toArray, List.getElem?_cons_zero, List.getElem?_cons_succ] at hrun'
    rw [Sem.run_bind, run_underlying RT.ht, Result.andThen_ok] at hrun'
    simp only at hrun'
    rw [Sem.run_bind] at hrun'
    obtain ⟨u, w1, q1, hrun'⟩ := andThen_ok' hrun'
    rw [Sem.run_bind] at hrun'
    obtain ⟨z, w2, q2, hrun'⟩ := andThen_ok' hrun'
    rw [run_underlying RT.ht] at q2
    injection q2 with q2 _
    subst q2
    rw [Sem.run_bind] at hrun'
    obtain ⟨zz, w3, q3, hrun'⟩ := andThen_ok' hrun'
    have hzz : zz = false := by injection q3 with q3; exact q3.symm
    subst hzz
    simp only [Bool.false_eq_true, if_false] at hrun'
    rw [Sem.run_bind] at hrun'
    obtain ⟨nn, w3', q4, hrun'⟩ := andThen_ok' hrun'
    have hnn : nn = news.length := by injection q4 with q4; exact q4.symm
    subst hnn
    rw [if_pos hb, Sem.run_bind] at hrun'
    obtain ⟨cs, w4, q5, hrun'⟩ := andThen_ok' hrun'
    have hl : (l ++ news).length = l.length + news.length := List.length_append
    rw [hl]
    cases A with
    | none => injection hrun' with hrun'; exact hrun'.symm
    | some ad =>
      simp only at hrun'
      rw [Sem.run_bind] at hrun'
      obtain ⟨_, w5, q6, hrun'⟩ := andThen_ok' hrun'
      injection hrun' with hrun'; exact hrun'.symm
  subst hv'
  obtain ⟨A', c', e', h7, h8, _, _⟩ := h4.slice
  injection e' with e1 e2 e3
  subst e3
  refine ⟨w', ?_, vok_sl ⟨h7, h8⟩, ?_⟩
  · unfold execOp
    simp only [ho, resolve]
    rw [Sem.run_bind, Sem.run_pure, Result.andThen_ok]
    simp only [invoke, builtin, List.map_toArray, List.map_cons, List.map_nil, (fr.ev hx).1, (fr.ev hy).1]
    rw [Sem.run_bind, hrun]; rfl
  · refine hk (A' := ownA k e A c (l ++ news)) (F' := F) (G := fun g => F g) ⟨h4, fun z hz => ?_, fun g => ?_⟩ ?_ (fun g _ hg => hg) fun g hg => .inl hg
    · rcases List.mem_append.1 hz with hz | hz
      · exact h2 z hz
      · exact hr.wf z hz
    · rw [h3 g]; cases A <;> rfl
    · refine (Chg.of_grown h5).mono fun g _ hg => (h3 g).2 hg.symm
theorem row_setCells {e : TypeId} (b : Nat) : ∀ (vs : List Value) (o : Nat) (w : World) (cur : Array Value), w.heap[b]? = some (.cells cur e (0, 0)) → ∃ cur', (w.setCells b o vs).heap[b]? = some (.cells cur' e (0, 0)) ∧ cur'.size = cur.size ∧ (∀ m, m ≤ o → cur'.toList.take m = cur.toList.take m) ∧ Chg (fun g => g = b) w (w.setCells b o vs) := by
  intro vs
  induction vs with
  | nil => intro o w cur h; exact ⟨cur, h, rfl, fun _ _ => rfl, Chg.refl _ _⟩
  | cons v vs ih =>
    intro o w cur h
    have h1 := heap_setCell_same w b o cur e v h
    obtain ⟨cur', q1, q2, q3, q4⟩ := ih (o + 1) (w.setCell ⟨b, o, none⟩ v) _ h1
    refine ⟨cur', q1, ?_, fun m hm => ?_, (Chg.setCell w ⟨b, o, none⟩ v).trans q4 fun _ _ h => h⟩
    · rw [q2]; simp
    · rw [q3 m (by omega)]
      simp [List.take_set_of_le, hm]
theorem sl_appin {t e : TypeId} (RT : RowTy P t e k) {s : SOp} {rest : List Itm} {d : Nat} {x y : Operand} {A Y : Option Addr} {n m c cy : Nat} {l news : List Int} (fr : FrD Df N a L) (hw : wantS L s = some true) (hq : s.q = false) (hd : s.dst = some d) (hlt : Nat.blt d N = true) (ho : s.op = .call { callee := .builtin .append, args := #[x, y], argTypes := #[t, t] }) (hx : ev L x = some (.slice A n c)) (hn : n = l.length) (hy : ev L y = some (.slice Y m cy)) (hm : m = news.length)
    (hr : Rk k w Y news) (hb : l.length + news.length ≤ c) (hb2 : (l.length : Int) + (news.length : Int) ≤ 17592186044416) (S : Sat w0 w (ownA k e A c l :: R))
    (h : ∀ w', Sat w0 w' (ownA k e A c (l ++ news) :: R) → S' w' ∧ ∀ a', FrD Df N a' ((d, .slice A (l ++ news).length c) :: L) → SL P Q S' rest a' w') : SL P Q S' (.one s :: rest) a w := by
  obtain ⟨w', h1, h2, h3⟩ := app_in_exec (P := P) RT fr (o := s.oper) ho hx hn hy hm hr hb hb2 S
  exact sl_val fr hw hq hd hlt h1 (h w' h3).1 h2 (h w' h3).2
theorem Sat.takeTo {e : TypeId} {A : Option Addr} {c : Nat} {l : List Int} (S : Sat w0 w (ownA k e A c l :: R)) (n : Nat) : Sat w0 w (ownA k e A c (l.take n) :: R) := by
  by_cases hn : n ≤ l.length
  · obtain ⟨F, ⟨h1, h2, h3⟩, hF, hk⟩ := S.opened
    have hl : (l.take n).length = n := by rw [List.length_take]; omega
    refine hk (A' := ownA k e A c (l.take n)) (F' := F) (G := fun _ => False) ⟨?_, fun z hz => h2 z (List.mem_of_mem_take hz), fun g => ?_⟩ (Chg.refl _ _) (fun _ _ h => h.elim) fun g hg => .inl hg
    · rcases h1.2 with ⟨e1, e2⟩ | ⟨g, cap, cur, e1, hB, hg, h4, h5, h6, h7⟩
      · injection e1 with e3 e4 e5
        subst e3 e5
        have : l = [] := List.eq_nil_of_length_eq_zero e2
        subst this
        simp only [List.take_nil]
        exact OwnI.nil k w _ e
      · injection e1 with e3 e4 e5
        subst e3 e5
        refine ⟨by simp, .inr ⟨g, c, cur, rfl, hB, hg, by omega, h5, h6, ?_⟩⟩
        have h8 := congrArg (List.take n) h7
        rw [List.take_take] at h8
        rw [hl, List.map_take, ← h8]
        congr 1
        omega
    · rw [h3 g]
      cases A <;> simp [Value.ownBlock]
  · rw [List.take_of_length_le (by omega)]; exact S
/-- Numbers behind the end of a row are cleared. -/
theorem clear_exec {t e : TypeId} (RT : RowTy P t e k) (fr : FrD Df N a L) {o : Oper} {x : Operand} {A : Option Addr} {j n c : Nat} {l : List Int} (ho : o.op = .call { callee := .builtin .clear, args := #[x], argTypes := #[t] }) (hx : ev L x = some (.slice (dropA A c j) n (c - j))) (hj : l.length ≤ j) (hn : j + n ≤ c) (h0 : 0 < n)
    (S : Sat w0 w (ownA k e A c l :: R)) : ∃ w', (execOp a.eval o).run P w = .ok (.value (.tuple #[])) w' ∧ Sat w0 w' (ownA k e A c l :: R) := by
  obtain ⟨F, ⟨h1, h2, h3⟩, hF, hk⟩ := S.opened
  obtain ⟨bytes, hle, hinfo⟩ := RT.hi
  obtain ⟨i, hi, hzz⟩ := Option.map_eq_some_iff.1 hinfo
  simp only [Prod.mk.injEq] at hzz
  obtain ⟨hz0, hs, hby⟩ := hzz
  have hzv : ∀ W, (zeroValue e).run P W = .ok (.int k 0) W := fun W => by
    unfold zeroValue typeInfo
    simp [Sem.run_bind, hi, hz0, Result.andThen]
  rcases h1.2 with ⟨e1, e2⟩ | ⟨g, cap, cur, e1, hB, hg, h4, h5, h6, h7⟩
  · injection e1 with e3 e4 e5
    omega
  · injection e1 with e3 e4 e5
    subst e3 e5
    have hd : dropA (some (⟨g, 0, none⟩ : Addr)) c j = some ⟨g, j, none⟩ := by
      unfold dropA
      rw [if_neg (by omega)]
      simp [Addr.add]
      omega
    rw [hd] at hx
    have hcell : ∀ q, q < n → (w.cell? ⟨g, j + 0 + q, none⟩).isSome = true := fun q hq => by
      rw [cell_of_row _ _ _ _ _ _ hg, Array.getElem?_eq_getElem (by omega)]; rfl
    have hfz : ∀ q, q < n → w.frozen? ⟨g, j + 0 + q, none⟩ = false := fun q _ => frozen_of_row w g _ _ _ hg
    have hzc : (Builtin.zeroCells (Value.int k 0).cells n).toList = List.replicate n (.int k 0) := by
      unfold Builtin.zeroCells
      apply List.ext_getElem
      · simp [Value.cells]
      · intro q h1' h2'
        simp [Value.cells, Nat.mod_one]
    have hst := run_storeCells_cells (P := P) g j (List.replicate n (.int k 0)) 0 w (by simpa using hcell) (by simpa using hfz) (fun v hv => by rw [List.eq_of_mem_replicate hv]; rfl)
    refine ⟨w.setCells g (j + 0) (List.replicate n (.int k 0)), ?_, ?_⟩
    · unfold execOp
      simp only [ho, resolve]
      rw [Sem.run_bind, Sem.run_pure, Result.andThen_ok]
      simp only [invoke, builtin, List.map_toArray, List.map_cons, List.map_nil, (fr.ev hx).1]
      rw [Sem.run_bind]
      unfold Builtin.clear_
      simp only [List.getElem?_toArray, List.getElem?_cons_zero, List.getElem?_cons_succ]
      rw [Sem.run_bind, run_underlying RT.ht, Result.andThen_ok]
      cases n with
      | zero => omega
      | succ n =>
        simp only
        rw [Sem.run_bind, hzv, Result.andThen_ok, hzc, Sem.run_bind, hst]
        rfl
    · obtain ⟨cur', q1, q2, q3, q4⟩ := row_setCells (e := e) g (List.replicate n (.int k 0)) (j + 0) w cur hg
      refine hk (A' := ownA k e (some ⟨g, 0, none⟩) c l) (F' := F) (G := fun b => b = g) ⟨⟨by simp, .inr ⟨g, c, cur', rfl, hB, q1, h4, h5, by omega, ?_⟩⟩, h2, h3⟩ q4 (fun b _ hb => (h3 b).2 (by rw [hb]; rfl)) fun b hb => .inl hb
      rw [q3 _ (by omega)]; exact h7
/-- A variable is boxed. -/
theorem wl_boxv {o : Oper} {rest : List Oper} {t : TypeId} {x : Operand} {d : Nat} {v : Value} (fr : FrD Df N a L) (hw : wantL ops L o = some true) (hd : o.dst = some d) (hlt : Nat.blt d N = true) (ho : o.op = .box t x) (hx : ev L x = some v) (hc : v.cells = #[v]) (S : Sat w0 w R)
    (h : ∀ w' b, Sat w0 w' (stA t b [v] :: R) → ∀ a', FrD Df N a' ((d, .pointer (some ⟨b, 0, none⟩)) :: L) → wpList P ops Q rest a' w') : wpList P ops Q (o :: rest) a w := by
  refine wl_val (v := .pointer (some ⟨w.heap.size, 0, none⟩)) (w' := w.alloc (.cells #[v] t)) fr hw hd hlt ?_ rfl (h _ _ ?_)
  · have e := (fr.ev hx).1
    unfold execOp
    simp only [ho, e]
    have hr : (Instr.box t v).run P w = .ok (.pointer (some ⟨w.heap.size, 0, none⟩)) (w.alloc (.cells v.cells t)) := rfl
    rw [Sem.run_bind, hr, hc]
    rfl
  · exact S.add (F := fun g => g = w.heap.size) ((Below.refl _ _).alloc (Nat.le_refl _) _) ⟨heap_alloc_new _ _, by rw [List.all_cons, List.all_nil, Bool.and_true]; exact (fr.ev hx).2, S.below.size, fun g => Iff.rfl⟩ fun g hg => Nat.le_of_eq hg.symm
/-- A function value that has caught something. -/
theorem wl_makef {o : Oper} {rest : List Oper} {d : Nat} {g : FuncId} {cs : Array Operand} {xs : List Value} (fr : FrD Df N a L) (hw : wantL ops L o = some true) (hd : o.dst = some d) (hlt : Nat.blt d N = true) (ho : o.op = .makeFunc (.func g) #[] cs) (hx : evs L cs.toList = some xs)
    (h : ∀ a', FrD Df N a' ((d, .func (.func g) #[] xs.toArray) :: L) → wpList P ops Q rest a' w) : wpList P ops Q (o :: rest) a w := by
  refine wl_val (v := .func (.func g) #[] xs.toArray) fr hw hd hlt ?_ rfl h
  have e : cs.map a.eval = xs.toArray := by
    apply Array.toList_inj.1
    rw [Array.toList_map, (evs_run fr hx).1]
  unfold execOp
  simp only [ho, e]
  rw [Sem.run_bind, Array.map_empty]
  rfl
/-- A call through such a value. -/
theorem wl_callc {o : Oper} {rest : List Oper} {d : Nat} {g : FuncId} {x : Operand} {xs : List Value} {lb : Array Value} {c : Call} {E : Ending → World → Prop} (fr : FrD Df N a L) (hw : wantL ops L o = some true) (hd : o.dst = some d) (hlt : Nat.blt d N = true) (ho : o.op = .call c) (hc : c.callee = .value x) (hx : ev L x = some (.func (.func g) #[] lb)) (hxs : evs L c.args.toList = some xs) (hin : Enters P g) (hcon : Calls P g (xs.toArray ++ lb) w E)
    (h : ∀ e w', E e w' → ∃ v, e = .returned v ∧ vok v = true ∧ ∀ a', FrD Df N a' ((d, v) :: L) → wpList P ops Q rest a' w') : wpList P ops Q (o :: rest) a w := by
  have e : c.args.map a.eval = xs.toArray := by
    apply Array.toList_inj.1
    rw [Array.toList_map, (evs_run fr hxs).1]
  have hrun : (execOp a.eval o).run P w = .ok (.enter g (xs.toArray ++ lb)) w := by
    unfold execOp
    simp only [ho, resolve, hc, (fr.ev hx).1, Deferred.ofValue]
    rw [Sem.run_bind, Sem.run_pure, Result.andThen_ok]
    simp only [invoke]
    have e3 := hin (xs.toArray ++ lb) w
    rw [← e] at e3 ⊢
    simpa using e3
  refine wl_op fr hw fun K hK => wp_call hrun (hcon.mono fun e' w' hR => ?_)
  obtain ⟨v, he, hv, hk⟩ := h e' w' hR
  exact ⟨v, he, hK _ _ (by rw [hd]; exact hk _ (fr.put (blt_lt hlt) hv))⟩
theorem wl_val0 {o : Oper} {rest : List Oper} {v : Value} {w' : World} (fr : FrD Df N a L) (hw : wantL ops L o = some true) (hd : o.dst = none) (hrun : (execOp a.eval o).run P w = .ok (.value v) w') (h : wpList P ops Q rest a w') : wpList P ops Q (o :: rest) a w :=
  wl_op fr hw fun K' hK => wp_value hrun (hK _ _ (by rw [hd]; exact h))
theorem dropq_run (hT : T.Ok P) {o : Oper} {t : TypeId} {x y : Operand} {A : Option Addr} {l : List Int} {n c e : Nat} {ki : IntKind} {i : Int} (fr : FrD Df N a L) (ho : o.op = .slice t x (some y) none none)
    (hx : ev L x = some (.slice A n c)) (hy : ev L y = some (.int ki i)) (ht : T.ty.lookup t = some (.slice e)) (hi : (P.info? e).map (·.size) = some 1) (hn : n = l.length) (hb : 0 ≤ i ∧ i ≤ (l.length : Int)) :
    (∀ w, (execOp a.eval o).run P w = .ok (.value (.slice (dropA A c i.toNat) (l.drop i.toNat).length (c - i.toNat))) w) ∧ vok (.slice (dropA A c i.toNat) (l.drop i.toNat).length (c - i.toNat)) = true := by
  subst hn
  have hv := (fr.ev hx).2
  have hv2 : l.length ≤ c ∧ c ≤ maxLen := by simpa [vok, vokC, vok1] using hv
  have hl : (l.drop i.toNat).length = l.length - i.toNat := List.length_drop
  rw [hl]
  refine ⟨fun w => slice_run hT fr ho hx (vlo := some (.int ki (i.toNat : Int))) (vhi := none) (vmx := none) (by rw [show ((i.toNat : Nat) : Int) = i by omega]; exact congrArg some (fr.ev hy).1) rfl rfl ht (sl_drop _ e ki (hT.und ht) hi A l.length c i.toNat (by omega)) w, vok_sl ⟨by omega, by omega⟩⟩
theorem wl_drop (hT : T.Ok P) {o : Oper} {rest : List Oper} {t : TypeId} {x y : Operand} {d : Nat} {A : Option Addr} {l : List Int} {n c e : Nat} {ki : IntKind} {i : Int} (fr : FrD Df N a L) (hw : wantL ops L o = some true) (ho : o.op = .slice t x (some y) none none) (hd : o.dst = some d) (hlt : Nat.blt d N = true)
    (hx : ev L x = some (.slice A n c)) (hy : ev L y = some (.int ki i)) (ht : T.ty.lookup t = some (.slice e)) (hi : (P.info? e).map (·.size) = some 1) (hn : n = l.length) (hb : 0 ≤ i ∧ i ≤ (l.length : Int))
    (h : ∀ a', FrD Df N a' ((d, .slice (dropA A c i.toNat) (l.drop i.toNat).length (c - i.toNat)) :: L) → wpList P ops Q rest a' w) : wpList P ops Q (o :: rest) a w :=
  wl_val fr hw hd hlt ((dropq_run hT fr ho hx hy ht hi hn hb).1 w) (dropq_run hT fr ho hx hy ht hi hn hb).2 h
theorem sl_dropq (hT : T.Ok P) {s : SOp} {rest : List Itm} {t : TypeId} {x y : Operand} {d : Nat} {A : Option Addr} {l : List Int} {n c e : Nat} {ki : IntKind} {i : Int} (fr : FrD Df N a L) (hw : wantS L s = some true) (hq : s.q = true) (ho : s.op = .slice t x (some y) none none) (hd : s.dst = some d) (hlt : Nat.blt d N = true)
    (hx : ev L x = some (.slice A n c)) (hy : ev L y = some (.int ki i)) (ht : T.ty.lookup t = some (.slice e)) (hi : (P.info? e).map (·.size) = some 1) (hn : n = l.length) (hb : 0 ≤ i ∧ i ≤ (l.length : Int))
    (h : ∀ a', FrD Df N a' ((d, .slice (dropA A c i.toNat) (l.drop i.toNat).length (c - i.toNat)) :: L) → SL P Q S' rest a' w) : SL P Q S' (.one s :: rest) a w :=
  sl_q fr hw hq hd hlt (fun w _ => (dropq_run hT fr (o := s.oper) ho hx hy ht hi hn hb).1 w) (dropq_run hT fr (o := s.oper) ho hx hy ht hi hn hb).2 h
theorem sl_takeq (hT : T.Ok P) {s : SOp} {rest : List Itm} {t : TypeId} {x y : Operand} {d : Nat} {A : Option Addr} {l : List Int} {n c e sz : Nat} {ki : IntKind} {i : Int} (fr : FrD Df N a L) (hw : wantS L s = some true) (hq : s.q = true) (ho : s.op = .slice t x none (some y) none) (hd : s.dst = some d) (hlt : Nat.blt d N = true)
    (hx : ev L x = some (.slice A n c)) (hy : ev L y = some (.int ki i)) (ht : T.ty.lookup t = some (.slice e)) (hs : T.sz.lookup e = some sz) (hn : n = l.length) (hb : 0 ≤ i ∧ i ≤ (l.length : Int))
    (h : ∀ a', FrD Df N a' ((d, .slice A (l.take i.toNat).length c) :: L) → SL P Q S' rest a' w) : SL P Q S' (.one s :: rest) a w := by
  subst hn
  have hv := (fr.ev hx).2
  have hv2 : l.length ≤ c ∧ c ≤ maxLen := by simpa [vok, vokC, vok1] using hv
  have hl : (l.take i.toNat).length = i.toNat := by rw [List.length_take]; omega
  exact sl_q fr hw hq hd hlt (fun w _ => take_run hT fr (o := s.oper) ho hx hy ht hs ⟨hb.1, by omega⟩ w) (vok_sl ⟨by omega, hv2.2⟩) fun a' fr' => h a' (by rw [hl]; exact fr')
end
end Go.Proofs.YticnjkdaccacaaaGreatDoor.Sx
end
section
/- A range over a map whose keys are whole numbers, which stays as it is meanwhile. -/
namespace Go.Proofs.YticnjkdaccacaaaGreatDoor.Sx
open Go Go.RowKit Base Own Go.ChangeMaps

/-- A map and an iterator over it: `left` are still to come, `cur` was the last one. -/
def iterA {α : Type} (k : IntKind) (f : α → Value) (b r : Nat) (m left : List (Int × α)) (cur : Option (Int × α)) : Asn where
  holds := fun w B F => (∃ es clock seen since c0, w.heap[b]? = some (.map es clock) ∧ Tells k f es clock m ∧ w.heap[r]? = some (.mapIter (some b) since seen c0) ∧ (∀ x ∈ es.toList, x.born < since) ∧ since ≤ c0 ∧ since ≤ clock ∧
      (leftOf es seen).toList.map (fun e => (e.key, e.val)) = left.map (fun p => (Value.int k p.1, f p.2)) ∧
      (∀ p, cur = some p → ∃ e ∈ es.toList, ∃ s0 : Array Nat, seen = s0.push e.born ∧ c0 = clock ∧ e.key = .int k p.1 ∧ e.val = f p.2)) ∧ B ≤ b ∧ B ≤ r ∧ r ≠ b ∧ ∀ g, F g ↔ g = b ∨ g = r
  keep := fun ⟨⟨es, cl, seen, si, c0, h1, h2, h3, h4⟩, g1, g2, g3, g4⟩ hc hF _ => ⟨⟨es, cl, seen, si, c0, by rw [hc.block _ (Array.getElem?_eq_some_iff.1 h1).1 (hF _ ((g4 _).2 (.inl rfl)))]; exact h1, h2, by rw [hc.block _ (Array.getElem?_eq_some_iff.1 h3).1 (hF _ ((g4 _).2 (.inr rfl)))]; exact h3, h4⟩, g1, g2, g3, g4⟩
  dom := fun ⟨⟨es, cl, seen, si, c0, h1, h2, h3, h4⟩, g1, g2, g3, g4⟩ g hg => by
    rcases (g4 g).1 hg with rfl | rfl
    · exact ⟨g1, (Array.getElem?_eq_some_iff.1 h1).1⟩
    · exact ⟨g2, (Array.getElem?_eq_some_iff.1 h3).1⟩
section
variable {α : Type} {P : Program} {T : Orc} {ops : Array Oper} {Q : Exit → Act → World → Prop} {Df : List Deferred} {N : Nat} {a : Act} {w w0 : World} {L : Env} {R : List Asn} {k : IntKind} {f : α → Value} {b r : Nat} {m left : List (Int × α)} {cur : Option (Int × α)}
theorem wl_range (hT : T.Ok P) {o : Oper} {rest : List Oper} {t kt et : TypeId} {x : Operand} {d : Nat} (fr : FrD Df N a L) (hw : wantL ops L o = some true) (hd : o.dst = some d) (hlt : Nat.blt d N = true) (ho : o.op = .range t x) (hx : ev L x = some (.map (some b))) (ht : T.ty.lookup t = some (.map kt et)) (S : Sat w0 w (mapA k f b m :: R))
    (h : ∀ w' r, Sat w0 w' (iterA k f b r m m none :: R) → ∀ a', FrD Df N a' ((d, .pointer (some ⟨r, 0, none⟩)) :: L) → wpList P ops Q rest a' w') : wpList P ops Q (o :: rest) a w := by
  obtain ⟨F, ⟨⟨es, cl, h1, h2⟩, h3, h4⟩, hF, hk⟩ := S.opened
  have hlb := (Array.getElem?_eq_some_iff.1 h1).1
  refine wl_val (v := .pointer (some ⟨w.heap.size, 0, none⟩)) (w' := w.alloc (.mapIter (some b) cl #[] cl)) fr hw hd hlt ?_ rfl (h _ _ ?_)
  · unfold execOp
    simp only [ho, (fr.ev hx).1]
    rw [Sem.run_bind, run_range_map w t kt et b es cl (hT.und ht) h1]
    rfl
  · refine hk (A' := iterA k f b w.heap.size m m none) (F' := fun g => g = b ∨ g = w.heap.size) (G := fun _ => False) ⟨⟨es, cl, #[], cl, cl, ?_, h2, heap_alloc_new _ _, h2.born.2, Nat.le_refl _, Nat.le_refl _, ?_, fun p hp => by cases hp⟩, h3, ?_, by omega, fun g => Iff.rfl⟩ (Chg.alloc w _) (fun _ _ h => h.elim) fun g hg => ?_
    · rw [Below.heap_alloc w _ b hlb]; exact h1
    · have : (leftOf es #[]).toList = es.toList := by simp [leftOf]
      rw [this]; exact h2.ents
    · have := (hF b ((h4 b).2 rfl)).1; omega
    · rcases hg with rfl | rfl
      · exact .inl ((h4 _).2 rfl)
      · exact .inr (Nat.le_refl _)
theorem filter_ne : ∀ {l : List MapEntry} {e : MapEntry}, (l.map (·.born)).Nodup → e ∈ l → ∃ l1 l2, l = l1 ++ e :: l2 ∧ l.filter (fun x => !(x.born == e.born)) = l1 ++ l2 := by
  intro l
  induction l with
  | nil => intro e _ he; cases he
  | cons y l ih =>
    intro e hn he
    rw [List.map_cons, List.nodup_cons] at hn
    by_cases hy : y.born = e.born
    · have : e = y := by
        rcases List.mem_cons.1 he with h | h
        · exact h
        · exact absurd (List.mem_map.2 ⟨e, h, hy.symm⟩) hn.1
      subst this
      refine ⟨[], l, rfl, ?_⟩
      rw [List.filter_cons]
      simp only [beq_self_eq_true, Bool.not_true, Bool.false_eq_true, if_false, List.nil_append]
      rw [List.filter_eq_self]
      intro z hz
      have : z.born ≠ e.born := fun q => hn.1 (List.mem_map.2 ⟨z, hz, q⟩)
      simp [this]
    · have hm : e ∈ l := by
        rcases List.mem_cons.1 he with h | h
        · subst h; exact absurd rfl hy
        · exact h
      obtain ⟨l1, l2, h1, h2⟩ := ih hn.2 hm
      refine ⟨y :: l1, l2, by rw [h1]; rfl, ?_⟩
      rw [List.filter_cons]
      simp only [show (y.born == e.born) = false from by simpa using hy, Bool.not_false, if_true, h2]
      rfl
theorem wl_next (hf : ∀ z, vokC (f z) = vok (f z)) {o : Oper} {rest : List Oper} {x : Operand} {d : Nat} (fr : FrD Df N a L) (hw : wantL ops L o = some true) (hd : o.dst = some d) (hlt : Nat.blt d N = true) (ho : o.op = .next x false) (hx : ev L x = some (.pointer (some ⟨r, 0, none⟩))) (S : Sat w0 w (iterA k f b r m left cur :: R))
    (h0 : left = [] → ∀ a', FrD Df N a' ((d, .tuple #[.bool false]) :: L) → wpList P ops Q rest a' w)
    (h1 : ∀ w' p l1 l2, left = l1 ++ p :: l2 → Sat w0 w' (iterA k f b r m (l1 ++ l2) (some p) :: R) → ∀ a', FrD Df N a' ((d, .tuple #[.bool true, .int k p.1, f p.2]) :: L) → wpList P ops Q rest a' w') : wpList P ops Q (o :: rest) a w := by
  obtain ⟨F, ⟨⟨es, cl, seen, si, c0, e1, e2, e3, e4, e5, e6, e7, e8⟩, g1, g2, g3, g4⟩, hF, hk⟩ := S.opened
  rcases run_next_at (P := P) w o.type r b si c0 seen es cl e3 e1 e4 e5 with ⟨h2, h3⟩ | ⟨e, he, w1, hal, h3⟩
  · refine wl_val (v := .tuple #[.bool false]) (w' := w) fr hw hd hlt ?_ rfl (h0 ?_)
    · unfold execOp
      simp only [ho, (fr.ev hx).1]
      rw [Sem.run_bind, h3]; rfl
    · have := congrArg List.length e7
      rw [List.length_map, List.length_map, Array.length_toList, h2] at this
      exact List.eq_nil_of_length_eq_zero this.symm
  · have hem : e ∈ es.toList := by
      have := he
      unfold leftOf at this
      simp at this
      simpa using this.1
    have hn : ((leftOf es seen).toList.map (·.born)).Nodup := by
      unfold leftOf
      rw [Array.toList_filter]
      exact e2.born.1.sublist ((List.filter_sublist).map _)
    obtain ⟨l1, l2, q1, q2⟩ := filter_ne hn he
    rw [q1, List.map_append, List.map_cons] at e7
    obtain ⟨m1, m2, rfl, q3, q4⟩ := List.map_eq_append_iff.1 e7.symm
    obtain ⟨p, m3, rfl, q5, q6⟩ := List.map_eq_cons_iff.1 q4
    injection q5 with q7 q8
    have hv : vok (.tuple #[.bool true, .int k p.1, f p.2]) = true := by
      have : (Value.int k p.1, f p.2) ∈ m.map (fun p => (Value.int k p.1, f p.2)) := by
        rw [← e2.ents, q7, q8]; exact List.mem_map.2 ⟨e, hem, rfl⟩
      obtain ⟨p', hp', q9⟩ := List.mem_map.1 this
      injection q9 with q10 q11
      have hw' := e2.wf p' hp'
      rw [q11] at hw'
      injection q10 with _ q12
      rw [q12] at hw'
      show [Value.bool true, .int k p.1, f p.2].all vokC = true
      simp only [List.all_cons, List.all_nil, hf, hw'.2, Bool.and_true]
      exact hw'.1
    refine wl_val (v := .tuple #[.bool true, .int k p.1, f p.2]) (w' := setBlock w1 r (.mapIter (some b) si (seen.push e.born) cl)) fr hw hd hlt ?_ hv (h1 _ p m1 m3 rfl ?_)
    · unfold execOp
      simp only [ho, (fr.ev hx).1]
      rw [Sem.run_bind, h3, q7, q8]; rfl
    · have hr1 : r < w1.heap.size := by rcases hal with rfl | rfl <;> exact (Array.getElem?_eq_some_iff.1 e3).1
      have hb1 : w1.heap[b]? = some (.map es cl) := by rcases hal with rfl | rfl <;> exact e1
      refine hk (A' := iterA k f b r m (m1 ++ m3) (some p)) (F' := F) (G := fun g => g = r) ⟨⟨es, cl, seen.push e.born, si, cl, ?_, e2, ?_, e4, e6, e6, ?_, fun p' hp' => ?_⟩, g1, g2, g3, g4⟩ ?_ (fun g _ hg => (g4 g).2 (.inr hg)) fun g hg => .inl hg
      · simp only [setBlock]; rw [Array.getElem?_setIfInBounds_ne g3]; exact hb1
      · simp [setBlock, hr1]
      · have : (leftOf es (seen.push e.born)).toList = (leftOf es seen).toList.filter (fun x => !(x.born == e.born)) := by
          unfold leftOf
          rw [Array.toList_filter, Array.toList_filter, List.filter_filter]
          congr 1
          funext x
          rw [contains_push]
          cases seen.contains x.born <;> cases (x.born == e.born) <;> rfl
        rw [this, q2, List.map_append, List.map_append, q3, q6]
      · injection hp' with hp'; subst hp'
        exact ⟨e, hem, seen, rfl, rfl, q7.symm, q8.symm⟩
      · rcases hal with rfl | rfl
        · exact ⟨rfl, rfl, rfl, by simp [setBlock], fun g _ hg => by simp only [setBlock]; rw [Array.getElem?_setIfInBounds_ne (fun q => hg q.symm)]⟩
        · exact ⟨rfl, rfl, rfl, by show _ ≤ (w.heap.setIfInBounds _ _).size; simp, fun g _ hg => by show (w.heap.setIfInBounds _ _)[g]? = _; rw [Array.getElem?_setIfInBounds_ne (fun q => hg q.symm)]⟩
theorem wl_entry (hf : ∀ z, vokC (f z) = vok (f z)) {o : Oper} {rest : List Oper} {x : Operand} {d : Nat} {p : Int × α} (fr : FrD Df N a L) (hw : wantL ops L o = some true) (hd : o.dst = some d) (hlt : Nat.blt d N = true) (ho : o.op = .entry x) (hx : ev L x = some (.pointer (some ⟨r, 0, none⟩))) (S : Sat w0 w (iterA k f b r m left (some p) :: R))
    (h : ∀ a', FrD Df N a' ((d, .tuple #[.int k p.1, f p.2]) :: L) → wpList P ops Q rest a' w) : wpList P ops Q (o :: rest) a w := by
  obtain ⟨F, ⟨⟨es, cl, seen, si, c0, e1, e2, e3, e4, e5, e6, e7, e8⟩, g1, g2, g3, g4⟩, hF, hk⟩ := S.opened
  obtain ⟨e, he, s0, rfl, rfl, q1, q2⟩ := e8 p rfl
  refine wl_val (v := .tuple #[.int k p.1, f p.2]) (w' := w) fr hw hd hlt ?_ ?_ h
  · unfold execOp
    simp only [ho, (fr.ev hx).1]
    rw [Sem.run_bind, run_entry_at w r b si s0 es c0 e e3 e1 he e2.born.1, q1, q2]; rfl
  · have : (Value.int k p.1, f p.2) ∈ m.map (fun p => (Value.int k p.1, f p.2)) := by
      rw [← e2.ents]; exact List.mem_map.2 ⟨e, he, by rw [q1, q2]⟩
    obtain ⟨p', hp', q9⟩ := List.mem_map.1 this
    injection q9 with q10 q11
    have hw' := e2.wf p' hp'
    rw [q11] at hw'
    injection q10 with _ q12
    rw [q12] at hw'
    show [.int k p.1, f p.2].all vokC = true
    simp only [List.all_cons, List.all_nil, hf, hw'.2, Bool.and_true]
    exact hw'.1
/-- A call through a function value that has caught nothing. -/
theorem wl_callv {o : Oper} {rest : List Oper} {d : Nat} {g : FuncId} {x : Operand} {xs : List Value} {c : Call} {E : Ending → World → Prop} (fr : FrD Df N a L) (hw : wantL ops L o = some true) (hd : o.dst = some d) (hlt : Nat.blt d N = true) (ho : o.op = .call c) (hc : c.callee = .value x) (hx : ev L x = some (.func (.func g) #[] #[])) (hxs : evs L c.args.toList = some xs) (hin : Enters P g) (hcon : Calls P g xs.toArray w E)
    (h : ∀ e w', E e w' → ∃ v, e = .returned v ∧ vok v = true ∧ ∀ a', FrD Df N a' ((d, v) :: L) → wpList P ops Q rest a' w') : wpList P ops Q (o :: rest) a w := by
  have e : c.args.map a.eval = xs.toArray := by
    apply Array.toList_inj.1
    rw [Array.toList_map, (evs_run fr hxs).1]
  have hrun : (execOp a.eval o).run P w = .ok (.enter g xs.toArray) w := by
    unfold execOp
    simp only [ho, resolve, hc, (fr.ev hx).1, Deferred.ofValue]
    rw [Sem.run_bind, Sem.run_pure, Result.andThen_ok]
    simp only [invoke]
    have e3 := hin xs.toArray w
    rw [← e] at e3 ⊢
    simpa using e3
  refine wl_op fr hw fun K hK => wp_call hrun (hcon.mono fun e' w' hR => ?_)
  obtain ⟨v, he, hv, hk⟩ := h e' w' hR
  exact ⟨v, he, hK _ _ (by rw [hd]; exact hk _ (fr.put (blt_lt hlt) hv))⟩
/-- The range is over. -/
theorem Sat.iterEnd (S : Sat w0 w (iterA k f b r m left cur :: R)) : Sat w0 w (mapA k f b m :: R) := by
  obtain ⟨F, ⟨⟨es, cl, seen, si, c0, e1, e2, e3, e4⟩, g1, g2, g3, g4⟩, hF, hk⟩ := S.opened
  exact hk (A' := mapA k f b m) (F' := fun g => g = b) (G := fun _ => False) ⟨⟨es, cl, e1, e2⟩, g1, fun g => Iff.rfl⟩ (Chg.refl _ _) (fun _ _ h => h.elim) fun g hg => .inl ((g4 g).2 (.inl hg))
end
end Go.Proofs.YticnjkdaccacaaaGreatDoor.Sx
end
