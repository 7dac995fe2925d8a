/- Steps of a walk that write into rows of the call's own. -/
import Derived.Test.YticnjkdaccacaaaDoorSo
import Derived.Test.YticnjkdaccacaaaDoorSu
namespace Go.Proofs.YticnjkdaccacaaaDoor.Sx
open Go Go.RowKit Base Own

/-- The pointer to an element of a row. -/
def elP (A : Option Addr) (i : Int) : Value := .pointer (A.map fun ad => ad.add (i.toNat * 1))
section
variable {P : Program} {T : Orc} {ops : Array Oper} {Q : Exit → Act → World → Prop} {S' : World → Prop} {Df : List Deferred} {N : Nat} {a : Act} {w w0 : World} {L : Env} {R : List Asn} {k : IntKind} {A : Option Addr} {l : List Int} {i : Int}
theorem el_run (hT : T.Ok P) (fr : FrD Df N a L) {o : Oper} {t : TypeId} {x ix : Operand} {n c e : Nat} {ki : IntKind} (ho : o.op = .indexAddr t x ix) (hr : Rk k w A l) (hx : ev L x = some (.slice A n c)) (hi : ev L ix = some (.int ki i)) (ht : T.ty.lookup t = some (.slice e)) (hs : T.sz.lookup e = some 1) (hn : n = l.length) (hb : 0 ≤ i ∧ i < (l.length : Int)) (w' : World) :
    (execOp a.eval o).run P w' = .ok (.value (elP A i)) w' := by
  subst hn
  obtain ⟨ad, rfl, -, -⟩ := hr.rd.cell (j := i.toNat) (by omega)
  exact indexAddr_run hT fr ho hx hi ht hs hb.1 hb.2 w'
theorem wl_pe (hT : T.Ok P) {o : Oper} {rest : List Oper} {t : TypeId} {x ix : Operand} {d n c e : Nat} {ki : IntKind} (hr : Rk k w A l) (fr : FrD Df N a L) (hw : wantL ops L o = some true) (ho : o.op = .indexAddr t x ix) (hd : o.dst = some d) (hlt : Nat.blt d N = true) (hx : ev L x = some (.slice A n c)) (hi : ev L ix = some (.int ki i))
    (ht : T.ty.lookup t = some (.slice e)) (hs : T.sz.lookup e = some 1) (hn : n = l.length) (hb : 0 ≤ i ∧ i < (l.length : Int)) (h : ∀ a', FrD Df N a' ((d, elP A i) :: L) → wpList P ops Q rest a' w) : wpList P ops Q (o :: rest) a w :=
  wl_val fr hw hd hlt (el_run hT fr ho hr hx hi ht hs hn hb w) rfl h
theorem sl_pe (hT : T.Ok P) {s : SOp} {rest : List Itm} {t : TypeId} {x ix : Operand} {d n c e : Nat} {ki : IntKind} (hr : Rk k w A l) (fr : FrD Df N a L) (hw : wantS L s = some true) (hq : s.q = true) (ho : s.op = .indexAddr t x ix) (hd : s.dst = some d) (hlt : Nat.blt d N = true) (hx : ev L x = some (.slice A n c)) (hi : ev L ix = some (.int ki i))
    (ht : T.ty.lookup t = some (.slice e)) (hs : T.sz.lookup e = some 1) (hn : n = l.length) (hb : 0 ≤ i ∧ i < (l.length : Int)) (h : ∀ a', FrD Df N a' ((d, elP A i) :: L) → SL P Q S' rest a' w) : SL P Q S' (.one s :: rest) a w :=
  sl_q fr hw hq hd hlt (fun w' _ => el_run hT fr (o := s.oper) ho hr hx hi ht hs hn hb w') rfl h
theorem lde_run (hT : T.Ok P) (fr : FrD Df N a L) {o : Oper} {te : TypeId} {x : Operand} {de : TypeDesc} (ho : o.op = .load te x) (hx : ev L x = some (elP A i)) (hte : T.ty.lookup te = some de) (hde : aggD de = false) (hr : Rk k w A l) (hb : 0 ≤ i ∧ i < (l.length : Int)) :
    (execOp a.eval o).run P w = .ok (.value (.int k (l.getD i.toNat 0))) w ∧ vok (.int k (l.getD i.toNat 0)) = true := by
  have hj : i.toNat < l.length := by omega
  obtain ⟨ad, rfl, -, hc⟩ := hr.rd.cell hj
  have hm : l.getD i.toNat 0 ∈ l := by rw [List.getD_eq_getElem?_getD, List.getElem?_eq_getElem hj]; exact List.getElem_mem hj
  exact ⟨load_run hT fr ho hx hte hde (by rw [Nat.mul_one]; exact hc), hr.wf _ hm⟩
theorem wl_lde (hT : T.Ok P) {o : Oper} {rest : List Oper} {te : TypeId} {x : Operand} {d : Nat} {de : TypeDesc} (hr : Rk k w A l) (fr : FrD Df N a L) (hw : wantL ops L o = some true) (ho : o.op = .load te x) (hd : o.dst = some d) (hlt : Nat.blt d N = true) (hx : ev L x = some (elP A i)) (hte : T.ty.lookup te = some de) (hde : aggD de = false) (hb : 0 ≤ i ∧ i < (l.length : Int))
    (h : ∀ a', FrD Df N a' ((d, .int k (l.getD i.toNat 0)) :: L) → wpList P ops Q rest a' w) : wpList P ops Q (o :: rest) a w :=
  wl_val fr hw hd hlt (lde_run hT fr ho hx hte hde hr hb).1 (lde_run hT fr ho hx hte hde hr hb).2 h
/-- A loud one, in a region. -/
theorem sl_lde (hT : T.Ok P) {s : SOp} {rest : List Itm} {te : TypeId} {x : Operand} {d : Nat} {de : TypeDesc} (hr : Rk k w A l) (fr : FrD Df N a L) (hw : wantS L s = some true) (hq : s.q = false) (ho : s.op = .load te x) (hd : s.dst = some d) (hlt : Nat.blt d N = true) (hx : ev L x = some (elP A i)) (hte : T.ty.lookup te = some de) (hde : aggD de = false) (hb : 0 ≤ i ∧ i < (l.length : Int)) (hS : S' w)
    (h : ∀ a', FrD Df N a' ((d, .int k (l.getD i.toNat 0)) :: L) → SL P Q S' rest a' w) : SL P Q S' (.one s :: rest) a w :=
  sl_val fr hw hq hd hlt (lde_run hT fr (o := s.oper) ho hx hte hde hr hb).1 hS (lde_run hT fr (o := s.oper) ho hx hte hde hr hb).2 h
/-- Two of them, either way about. -/
theorem sl_lde2 (hT : T.Ok P) {s t : SOp} {rest : List Itm} {te tf : TypeId} {x y : Operand} {d d' : Nat} {de df : TypeDesc} {k' : IntKind} {A' : Option Addr} {l' : List Int} {i' : Int} (hr : Rk k w A l) (hr' : Rk k' w A' l') (fr : FrD Df N a L)
    (ho : s.op = .load te x) (hd : s.dst = some d) (hlt : Nat.blt d N = true) (hx : ev L x = some (elP A i)) (hte : T.ty.lookup te = some de) (hde : aggD de = false) (hb : 0 ≤ i ∧ i < (l.length : Int))
    (ho' : t.op = .load tf y) (hd' : t.dst = some d') (hlt' : Nat.blt d' N = true) (hy : ev L y = some (elP A' i')) (htf : T.ty.lookup tf = some df) (hdf : aggD df = false) (hb' : 0 ≤ i' ∧ i' < (l'.length : Int))
    (hxd : ∀ v, ev ((d', v) :: L) x = ev L x) (hyd : ∀ v, ev ((d, v) :: L) y = ev L y) (hne : Nat.beq d d' = false) (hS : S' w)
    (h : ∀ a', FrD Df N a' ((d', .int k' (l'.getD i'.toNat 0)) :: (d, .int k (l.getD i.toNat 0)) :: L) → SL P Q S' rest a' w) : SL P Q S' (.two s t :: rest) a w := by
  have h1 := lde_run hT fr (o := s.oper) ho hx hte hde hr hb
  have h2 := lde_run hT fr (o := t.oper) ho' hy htf hdf hr' hb'
  have f1 : FrD Df N (a.put s.dst (.int k (l.getD i.toNat 0))) ((d, .int k (l.getD i.toNat 0)) :: L) := by rw [hd]; exact fr.put (blt_lt hlt) h1.2
  have f2 : FrD Df N (a.put t.dst (.int k' (l'.getD i'.toNat 0))) ((d', .int k' (l'.getD i'.toNat 0)) :: L) := by rw [hd']; exact fr.put (blt_lt hlt') h2.2
  have hne' : d ≠ d' := fun e => by subst e; simp at hne
  refine s2lv h1.1 (lde_run hT f1 (o := t.oper) ho' (by rw [hyd]; exact hy) htf hdf hr' hb').1 h2.1 (lde_run hT f2 (o := s.oper) ho (by rw [hxd]; exact hx) hte hde hr hb).1 hS hS rfl ?_ (h _ (by rw [hd']; exact f1.put (blt_lt hlt') h2.2))
  rw [hd, hd']
  unfold Act.put
  simp only
  rw [Array.setIfInBounds_comm _ _ hne'.symm]
theorem ste_run (hT : T.Ok P) (fr : FrD Df N a L) {o : Oper} {te : TypeId} {p v : Operand} {c e : Nat} {z : Int} (ho : o.op = .store te p v) (hp : ev L p = some (elP A i)) (hv : ev L v = some (.int k z)) (hs : T.sz.lookup te = some 1) (S : Sat w0 w (ownA k e A c l :: R)) (hb : 0 ≤ i ∧ i < (l.length : Int)) :
    ∃ w', (execOp a.eval o).run P w = .ok .skip w' ∧ Sat w0 w' (ownA k e A c (l.set i.toNat z) :: R) := by
  obtain ⟨j, rfl⟩ : ∃ j : Nat, i = j := ⟨i.toNat, by omega⟩
  rw [Int.toNat_natCast]
  have hj : j < l.length := by omega
  obtain ⟨F, ⟨g1, g2, g3⟩, hF, hk⟩ := S.opened
  obtain ⟨g, c', e1⟩ := g1.ptr (by omega)
  injection e1 with e1 _ e2
  subst e1 e2
  obtain ⟨q1, q2, q3, q4, -, -⟩ := g1.cell hj
  have ea : (⟨g, 0, none⟩ : Addr).add (j * 1) = ⟨g, j, none⟩ := by unfold Addr.add; split <;> simp_all
  have hrun : (storeCells (⟨g, j, none⟩ : Addr) [.int k z]).run P w = .ok () (w.setCell ⟨g, j, none⟩ (.int k z)) := by
    have h2 := run_storeCells_cells (P := P) g j [.int k z] 0 w (fun q hq => by
      have hq : q = 0 := by simpa using hq
      subst hq; simpa using by rw [q1]; rfl) (fun q hq => by
      have hq : q = 0 := by simpa using hq
      subst hq; simpa using q2) (fun u hu => by
      have hu : u = .int k z := by simpa using hu
      subst hu; rfl)
    have h3 : (storeCells (⟨g, j, none⟩ : Addr) [.int k z]).run P w = .ok () (w.setCells g j [.int k z]) := by simpa using h2
    exact h3
  refine ⟨w.setCell ⟨g, j, none⟩ (.int k z), ?_, hk (A' := ownA k e (some ⟨g, 0, none⟩) c (l.set j z)) (F' := F) (G := fun q => q = g) ⟨?_, fun u hu => ?_, fun q => ?_⟩ (Chg.setCell w ⟨g, j, none⟩ _) (fun q _ hq => (g3 q).2 (by subst hq; rfl)) fun q hq => .inl hq⟩
  · have hp' : (elP (some ⟨g, 0, none⟩) (j : Int)) = .pointer (some ⟨g, j, none⟩) := by
      show Value.pointer (some ((⟨g, 0, none⟩ : Addr).add ((j : Int).toNat * 1))) = _
      rw [Int.toNat_natCast, ea]
    rw [hp'] at hp
    unfold execOp
    simp only [ho, (fr.ev hp).1, (fr.ev hv).1, Instr.storeAt, Instr.sureAddr, storeVar, Value.cells]
    simp [size_run hT hs, hrun]
  · have := g1.set hj (x := z)
    rw [List.length_set]; exact this
  · rcases List.mem_or_eq_of_mem_set hu with hu | hu
    · exact g2 u hu
    · subst hu; exact (fr.ev hv).2
  · rw [List.length_set]; exact g3 q
theorem wl_ste (hT : T.Ok P) {o : Oper} {rest : List Oper} {te : TypeId} {p v : Operand} {c e : Nat} {z : Int} (fr : FrD Df N a L) (hw : wantL ops L o = some true) (hd : o.dst = none) (ho : o.op = .store te p v) (hp : ev L p = some (elP A i)) (hv : ev L v = some (.int k z)) (hs : T.sz.lookup te = some 1) (S : Sat w0 w (ownA k e A c l :: R)) (hb : 0 ≤ i ∧ i < (l.length : Int))
    (h : ∀ w', Sat w0 w' (ownA k e A c (l.set i.toNat z) :: R) → wpList P ops Q rest a w') : wpList P ops Q (o :: rest) a w := by
  obtain ⟨w', h1, h2⟩ := ste_run hT fr ho hp hv hs S hb
  exact wl_skip fr hw hd h1 (h w' h2)
theorem sl_ste (hT : T.Ok P) {s : SOp} {rest : List Itm} {te : TypeId} {p v : Operand} {c e : Nat} {z : Int} (fr : FrD Df N a L) (hw : wantS L s = some true) (hq : s.q = false) (hd : s.dst = none) (ho : s.op = .store te p v) (hp : ev L p = some (elP A i)) (hv : ev L v = some (.int k z)) (hs : T.sz.lookup te = some 1) (S : Sat w0 w (ownA k e A c l :: R)) (hb : 0 ≤ i ∧ i < (l.length : Int))
    (h : ∀ w', Sat w0 w' (ownA k e A c (l.set i.toNat z) :: R) → S' w' ∧ SL P Q S' rest a w') : SL P Q S' (.one s :: rest) a w := by
  obtain ⟨w', h1, h2⟩ := ste_run hT fr (o := s.oper) ho hp hv hs S hb
  exact sl_skip fr hw hq hd h1 (h w' h2).1 (h w' h2).2
/-- A call, its arguments spelled another way. -/
theorem wl_callE {o : Oper} {rest : List Oper} {d : Nat} {f : FuncId} {xs ys : List Value} {E : Ending → World → Prop} (fr : FrD Df N a L) (hw : wantL ops L o = some true) (hd : o.dst = some d) (hlt : Nat.blt d N = true) (hc : callL L o = some (f, xs)) (hin : Enters P f) (he : xs = ys) (hcon : Calls P f ys.toArray w E)
    (h : ∀ e w', E e w' → ∃ v, e = .returned v ∧ vok v = true ∧ ∀ a', FrD Df N a' ((d, v) :: L) → wpList P ops Q rest a' w') : wpList P ops Q (o :: rest) a w := wl_call fr hw hd hlt hc hin (he ▸ hcon) h
theorem sl_callE {s : SOp} {rest : List Itm} {d : Nat} {f : FuncId} {xs ys : List Value} {E : Ending → World → Prop} (fr : FrD Df N a L) (hw : wantS L s = some true) (hq : s.q = false) (hd : s.dst = some d) (hlt : Nat.blt d N = true) (hc : callL L s.oper = some (f, xs)) (hin : Enters P f) (he : xs = ys) (hcon : Calls P f ys.toArray w E)
    (h : ∀ e w', E e w' → ∃ v, e = .returned v ∧ vok v = true ∧ S' w' ∧ ∀ a', FrD Df N a' ((d, v) :: L) → SL P Q S' rest a' w') : SL P Q S' (.one s :: rest) a w := sl_call fr hw hq hd hlt hc hin (he ▸ hcon) h
/-- A byte of a string. -/
def strB (s : ByteArray) (i : Nat) : Int := ((s[i]?).map (fun b => (b.toNat : Int))).getD 0
theorem wl_ixs (hT : T.Ok P) {o : Oper} {rest : List Oper} {t : TypeId} {x ix : Operand} {d : Nat} {s : ByteArray} {ki : IntKind} (fr : FrD Df N a L) (hw : wantL ops L o = some true) (hd : o.dst = some d) (hlt : Nat.blt d N = true) (ho : o.op = .index t x ix) (hx : ev L x = some (.string s)) (hi : ev L ix = some (.int ki i)) (ht : T.ty.lookup t = some .string)
    (hb : 0 ≤ i ∧ i < (s.size : Int)) (h : ∀ a', FrD Df N a' ((d, .int .u8 (strB s i.toNat)) :: L) → wpList P ops Q rest a' w) : wpList P ops Q (o :: rest) a w := by
  have hs : i.toNat < s.size := by omega
  have e1 : s[i.toNat]? = some s[i.toNat] := getElem?_pos s i.toNat hs
  have e2 : strB s i.toNat = (s[i.toNat].toNat : Int) := by unfold strB; rw [e1]; rfl
  refine wl_val (v := .int .u8 (strB s i.toNat)) fr hw hd hlt ?_ ?_ h
  · unfold execOp
    simp only [ho, (fr.ev hx).1, (fr.ev hi).1, Instr.index, asIntOf]
    rw [Sem.run_bind, Sem.run_bind, Sem.run_pure, Result.andThen_ok]
    simp only
    rw [Sem.run_bind, run_underlying (hT.und ht), Result.andThen_ok]
    simp only
    rw [if_pos hb.1, e1, e2]; rfl
  · rw [e2]
    have := s[i.toNat].toNat_lt
    show (Lit.int .u8 (s[i.toNat].toNat : Int)).wf = true
    rw [wf_int]
    have h1 : IntKind.u8.min = 0 := by decide
    have h2 : IntKind.u8.max = 255 := by decide
    omega
/-- A variable in a block of its own. -/
theorem Sat.varAt {b e : Nat} {v : Value} {M : List Asn} (S : Sat w0 w M) (j : Nat) (hj : M[j]? = some (stA e b [v])) : w.cell? (⟨b, 0, none⟩ : Addr) = some v ∧ vok v = true := by
  have := S.stAt j hj (j := 0) rfl
  rwa [addr0] at this
theorem wl_allocv {o : Oper} {rest : List Oper} {t : TypeId} {d : Nat} {v : Value} (fr : FrD Df N a L) (hw : wantL ops L o = some true) (hd : o.dst = some d) (hlt : Nat.blt d N = true) (ho : o.op = .alloc t) (hz : ∀ W, (zeroValue t).run P W = .ok v W) (hc : v.cells = #[v]) (hok : vok v = true) (S : Sat w0 w R)
    (h : ∀ w' b, Sat w0 w' (stA t b [v] :: R) → ∀ a', FrD Df N a' ((d, .pointer (some ⟨b, 0, none⟩)) :: L) → wpList P ops Q rest a' w') : wpList P ops Q (o :: rest) a w := by
  refine wl_val (v := .pointer (some ⟨w.heap.size, 0, none⟩)) (w' := w.alloc (.cells #[v] t)) fr hw hd hlt ?_ rfl (h _ _ ?_)
  · unfold execOp
    simp only [ho, Instr.alloc]
    rw [Sem.run_bind, Sem.run_bind, hz, Result.andThen_ok, Sem.run_bind]
    unfold newVar
    rw [hc]
    rfl
  · exact S.add (F := fun g => g = w.heap.size) ((Below.refl _ _).alloc (Nat.le_refl _) _) ⟨heap_alloc_new _ _, by simp [hok], S.below.size, fun g => Iff.rfl⟩ fun g hg => Nat.le_of_eq hg.symm
theorem wl_stv (hT : T.Ok P) {o : Oper} {rest : List Oper} {te : TypeId} {p v : Operand} {b e : Nat} {y z : Value} (fr : FrD Df N a L) (hw : wantL ops L o = some true) (hd : o.dst = none) (ho : o.op = .store te p v) (hp : ev L p = some (.pointer (some ⟨b, 0, none⟩))) (hv : ev L v = some z) (hs : T.sz.lookup te = some 1)
    (hc : z.cells = #[z]) (h1 : z.oneCell' = true) (S : Sat w0 w (stA e b [y] :: R)) (h : ∀ w', Sat w0 w' (stA e b [z] :: R) → wpList P ops Q rest a w') : wpList P ops Q (o :: rest) a w :=
  wl_stf (j := 0) hT fr hw hd ho (by rw [addr0]; exact hp) hv hs hc h1 S rfl h
theorem sl_stv (hT : T.Ok P) {s : SOp} {rest : List Itm} {te : TypeId} {p v : Operand} {b e : Nat} {y z : Value} (fr : FrD Df N a L) (hw : wantS L s = some true) (hq : s.q = false) (hd : s.dst = none) (ho : s.op = .store te p v) (hp : ev L p = some (.pointer (some ⟨b, 0, none⟩))) (hv : ev L v = some z) (hs : T.sz.lookup te = some 1)
    (hc : z.cells = #[z]) (h1 : z.oneCell' = true) (S : Sat w0 w (stA e b [y] :: R)) (h : ∀ w', Sat w0 w' (stA e b [z] :: R) → S' w' ∧ SL P Q S' rest a w') : SL P Q S' (.one s :: rest) a w := by
  obtain ⟨w', h2, h3⟩ := store1_run hT fr (o := s.oper) (j := 0) ho (by rw [addr0]; exact hp) hv hs hc h1 S rfl
  exact sl_skip fr hw hq hd h2 (h w' h3).1 (h w' h3).2
/-- A loud one. -/
theorem sl_ldv (hT : T.Ok P) {s : SOp} {rest : List Itm} {te : TypeId} {x : Operand} {d : Nat} {b : Nat} {v : Value} {de : TypeDesc} (hr : w.cell? (⟨b, 0, none⟩ : Addr) = some v ∧ vok v = true) (fr : FrD Df N a L) (hw : wantS L s = some true) (hq : s.q = false) (ho : s.op = .load te x) (hd : s.dst = some d) (hlt : Nat.blt d N = true)
    (hx : ev L x = some (.pointer (some ⟨b, 0, none⟩))) (hte : T.ty.lookup te = some de) (hde : aggD de = false) (hS : S' w) (h : ∀ a', FrD Df N a' ((d, v) :: L) → SL P Q S' rest a' w) : SL P Q S' (.one s :: rest) a w :=
  sl_val fr hw hq hd hlt (load_run hT fr (o := s.oper) ho hx hte hde hr.1) hS hr.2 h
theorem sl_ldv2 (hT : T.Ok P) {s t : SOp} {rest : List Itm} {te tf : TypeId} {x y : Operand} {d d' b b' : Nat} {v v' : Value} {de df : TypeDesc} (hr : w.cell? (⟨b, 0, none⟩ : Addr) = some v ∧ vok v = true) (hr' : w.cell? (⟨b', 0, none⟩ : Addr) = some v' ∧ vok v' = true) (fr : FrD Df N a L)
    (ho : s.op = .load te x) (hd : s.dst = some d) (hlt : Nat.blt d N = true) (hx : ev L x = some (.pointer (some ⟨b, 0, none⟩))) (hte : T.ty.lookup te = some de) (hde : aggD de = false)
    (ho' : t.op = .load tf y) (hd' : t.dst = some d') (hlt' : Nat.blt d' N = true) (hy : ev L y = some (.pointer (some ⟨b', 0, none⟩))) (htf : T.ty.lookup tf = some df) (hdf : aggD df = false)
    (hxd : ∀ v, ev ((d', v) :: L) x = ev L x) (hyd : ∀ v, ev ((d, v) :: L) y = ev L y) (hne : Nat.beq d d' = false) (hS : S' w)
    (h : ∀ a', FrD Df N a' ((d', v') :: (d, v) :: L) → SL P Q S' rest a' w) : SL P Q S' (.two s t :: rest) a w := by
  have f1 : FrD Df N (a.put s.dst v) ((d, v) :: L) := by rw [hd]; exact fr.put (blt_lt hlt) hr.2
  have f2 : FrD Df N (a.put t.dst v') ((d', v') :: L) := by rw [hd']; exact fr.put (blt_lt hlt') hr'.2
  have hne' : d ≠ d' := fun e => by subst e; simp at hne
  refine s2lv (load_run hT fr (o := s.oper) ho hx hte hde hr.1) (load_run hT f1 (o := t.oper) ho' (by rw [hyd]; exact hy) htf hdf hr'.1) (load_run hT fr (o := t.oper) ho' hy htf hdf hr'.1) (load_run hT f2 (o := s.oper) ho (by rw [hxd]; exact hx) hte hde hr.1) hS hS rfl ?_ (h _ (by rw [hd']; exact f1.put (blt_lt hlt') hr'.2))
  rw [hd, hd']
  unfold Act.put
  simp only
  rw [Array.setIfInBounds_comm _ _ hne'.symm]
/-- A row that is written into: its length stands by itself. -/
def rowA (k : IntKind) (e : TypeId) (A : Option Addr) (c n : Nat) (l : List Int) : Asn where
  holds := fun w B F => (OwnI k w B e (.slice A n c) l ∧ (∀ z ∈ l, (Lit.int k z).wf = true) ∧ ∀ g, F g ↔ (Value.slice A n c).ownBlock = some g) ∧ l.length = n
  keep := fun ⟨⟨h1, h2, h3⟩, h4⟩ hc hF _ => ⟨⟨h1.kept hc fun g hg => hF g ((h3 g).2 hg), h2, h3⟩, h4⟩
  dom := fun ⟨⟨h1, _, h3⟩, _⟩ g hg => h1.lt g ((h3 g).1 hg)
theorem row_own {c e : Nat} : (rowA k e A c l.length l).holds w = fun B F => (ownA k e A c l).holds w B F ∧ l.length = l.length := rfl
theorem Sat.toRow {c e : Nat} (S : Sat w0 w (ownA k e A c l :: R)) : Sat w0 w (rowA k e A c l.length l :: R) := by
  obtain ⟨h1, F, h2, h3, h4⟩ := S
  exact ⟨h1, F, ⟨h2, rfl⟩, h3, h4⟩
theorem Sat.ofRow {c e n : Nat} (S : Sat w0 w (rowA k e A c n l :: R)) : l.length = n ∧ Sat w0 w (ownA k e A c l :: R) := by
  obtain ⟨h1, F, ⟨h2, rfl⟩, h3, h4⟩ := S
  exact ⟨rfl, h1, F, h2, h3, h4⟩
theorem Sat.rowAt {c e n : Nat} {M : List Asn} (S : Sat w0 w M) (j : Nat) (hj : M[j]? = some (rowA k e A c n l)) : Rk k w A l := (S.frontAt j hj).ofRow.2.own.1
theorem Sat.rowLen {c e n : Nat} {M : List Asn} (S : Sat w0 w M) (j : Nat) (hj : M[j]? = some (rowA k e A c n l)) : n = l.length := ((S.frontAt j hj).ofRow.1).symm
theorem Sat.rowHb {c e n : Nat} {M : List Asn} (S : Sat w0 w M) (j : Nat) (hj : M[j]? = some (rowA k e A c n l)) {i : Int} (h : 0 ≤ i ∧ i < (n : Int)) : 0 ≤ i ∧ i < (l.length : Int) := by rw [← S.rowLen j hj]; exact h
theorem wl_str (hT : T.Ok P) {o : Oper} {rest : List Oper} {te : TypeId} {p v : Operand} {c e n : Nat} {z : Int} (fr : FrD Df N a L) (hw : wantL ops L o = some true) (hd : o.dst = none) (ho : o.op = .store te p v) (hp : ev L p = some (elP A i)) (hv : ev L v = some (.int k z)) (hs : T.sz.lookup te = some 1) (S : Sat w0 w (rowA k e A c n l :: R)) (hb : 0 ≤ i ∧ i < (n : Int))
    (h : ∀ w', Sat w0 w' (rowA k e A c n (l.set i.toNat z) :: R) → wpList P ops Q rest a w') : wpList P ops Q (o :: rest) a w := by
  obtain ⟨e1, S1⟩ := S.ofRow
  subst e1
  obtain ⟨w', h1, h2⟩ := ste_run hT fr ho hp hv hs S1 hb
  exact wl_skip fr hw hd h1 (h w' (by have := h2.toRow; rwa [List.length_set] at this))
theorem sl_str (hT : T.Ok P) {s : SOp} {rest : List Itm} {te : TypeId} {p v : Operand} {c e n : Nat} {z : Int} (fr : FrD Df N a L) (hw : wantS L s = some true) (hq : s.q = false) (hd : s.dst = none) (ho : s.op = .store te p v) (hp : ev L p = some (elP A i)) (hv : ev L v = some (.int k z)) (hs : T.sz.lookup te = some 1) (S : Sat w0 w (rowA k e A c n l :: R)) (hb : 0 ≤ i ∧ i < (n : Int))
    (h : ∀ w', Sat w0 w' (rowA k e A c n (l.set i.toNat z) :: R) → S' w' ∧ SL P Q S' rest a w') : SL P Q S' (.one s :: rest) a w := by
  obtain ⟨e1, S1⟩ := S.ofRow
  subst e1
  obtain ⟨w', h1, h2⟩ := ste_run hT fr (o := s.oper) ho hp hv hs S1 hb
  obtain ⟨h3, h4⟩ := h w' (by have := h2.toRow; rwa [List.length_set] at this)
  exact sl_skip fr hw hq hd h1 h3 h4
end
end Go.Proofs.YticnjkdaccacaaaDoor.Sx
