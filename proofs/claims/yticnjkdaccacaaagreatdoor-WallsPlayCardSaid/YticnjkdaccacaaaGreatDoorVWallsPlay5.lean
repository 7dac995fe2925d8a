/- Texts of this work, one behind the other. -/
import Derived.Test.YticnjkdaccacaaaGreatDoorVWallsPlay4
import Derived.Laws.IdiomCopy
import Derived.WalkKit
import Derived.ProofKit
import Derived.OpenShut
import Derived.ShutString
import Derived.ChangeOld
import Derived.SizedLaws
import Derived.KernelRfl
import Derived.Deep.Slices
import Derived.Maps.RangeWalk
section
namespace Go.Proofs.YticnjkdaccacaaaGreatDoor.Sx
open Go Go.RowKit Base _root_.Go.Proofs.YticnjkdaccacaaaGreatDoor.Own
def elP (A : Option Addr) (i : Int) : Value := .pointer (A.map fun ad => ad.add (i.toNat * 1))
section
variable {P : Program} {T : Orc} {ops : Array Oper} {Q : Exit → Act → World → Prop} {S' : World → Prop} {Df : List Deferred} {N : Nat} {a : Act} {w w0 : World} {L : Env} {R : List Asn} {k : IntKind} {A : Option Addr} {l : List Int} {i : Int}
theorem el_run (hT : T.Ok P) (fr : FrD Df N a L) {o : Oper} {t : TypeId} {x ix : Operand} {n c e : Nat} {ki : IntKind} (ho : o.op = .indexAddr t x ix) (hr : Rk k w A l) (hx : ev L x = some (.slice A n c)) (hi : ev L ix = some (.int ki i)) (ht : T.ty.lookup t = some (.slice e)) (hs : T.sz.lookup e = some 1) (hn : n = l.length) (hb : 0 ≤ i ∧ i < (l.length : Int)) (w' : World) :
    (execOp a.eval o).run P w' = .ok (.value (elP A i)) w' := by
  subst hn
  obtain ⟨ad, rfl, -, -⟩ := hr.rd.cell (j := i.toNat) (by omega)
  exact indexAddr_run hT fr ho hx hi ht hs hb.1 hb.2 w'
theorem wl_pe (hT : T.Ok P) {o : Oper} {rest : List Oper} {t : TypeId} {x ix : Operand} {d n c e : Nat} {ki : IntKind} (hr : Rk k w A l) (fr : FrD Df N a L) (hw : wantL ops L o = some true) (ho : o.op = .indexAddr t x ix) (hd : o.dst = some d) (hlt : Nat.blt d N = true) (hx : ev L x = some (.slice A n c)) (hi : ev L ix = some (.int ki i))
    (ht : T.ty.lookup t = some (.slice e)) (hs : T.sz.lookup e = some 1) (hn : n = l.length) (hb : 0 ≤ i ∧ i < (l.length : Int)) (h : ∀ a', FrD Df N a' ((d, elP A i) :: L) → wpList P ops Q rest a' w) : wpList P ops Q (o :: rest) a w :=
  wl_val fr hw hd hlt (el_run hT fr ho hr hx hi ht hs hn hb w) rfl h
theorem sl_pe (hT : T.Ok P) {s : SOp} {rest : List Itm} {t : TypeId} {x ix : Operand} {d n c e : Nat} {ki : IntKind} (hr : Rk k w A l) (fr : FrD Df N a L) (hw : wantS L s = some true) (hq : s.q = true) (ho : s.op = .indexAddr t x ix) (hd : s.dst = some d) (hlt : Nat.blt d N = true) (hx : ev L x = some (.slice A n c)) (hi : ev L ix = some (.int ki i))
    (ht : T.ty.lookup t = some (.slice e)) (hs : T.sz.lookup e = some 1) (hn : n = l.length) (hb : 0 ≤ i ∧ i < (l.length : Int)) (h : ∀ a', FrD Df N a' ((d, elP A i) :: L) → SL P Q S' rest a' w) : SL P Q S' (.one s :: rest) a w :=
  sl_q fr hw hq hd hlt (fun w' _ => el_run hT fr (o := s.oper) ho hr hx hi ht hs hn hb w') rfl h
theorem lde_run (hT : T.Ok P) (fr : FrD Df N a L) {o : Oper} {te : TypeId} {x : Operand} {de : TypeDesc} (ho : o.op = .load te x) (hx : ev L x = some (elP A i)) (hte : T.ty.lookup te = some de) (hde : aggD de = false) (hr : Rk k w A l) (hb : 0 ≤ i ∧ i < (l.length : Int)) :
    (execOp a.eval o).run P w = .ok (.value (.int k (l.getD i.toNat 0))) w ∧ vok (.int k (l.getD i.toNat 0)) = true := by
  have hj : i.toNat < l.length := by omega
  obtain ⟨ad, rfl, -, hc⟩ := hr.rd.cell hj
  have hm : l.getD i.toNat 0 ∈ l := by rw [List.getD_eq_getElem?_getD, List.getElem?_eq_getElem hj]; exact List.getElem_mem hj
  exact ⟨load_run hT fr ho hx hte hde (by rw [Nat.mul_one]; exact hc), hr.wf _ hm⟩
theorem wl_lde (hT : T.Ok P) {o : Oper} {rest : List Oper} {te : TypeId} {x : Operand} {d : Nat} {de : TypeDesc} (hr : Rk k w A l) (fr : FrD Df N a L) (hw : wantL ops L o = some true) (ho : o.op = .load te x) (hd : o.dst = some d) (hlt : Nat.blt d N = true) (hx : ev L x = some (elP A i)) (hte : T.ty.lookup te = some de) (hde : aggD de = false) (hb : 0 ≤ i ∧ i < (l.length : Int))
    (h : ∀ a', FrD Df N a' ((d, .int k (l.getD i.toNat 0)) :: L) → wpList P ops Q rest a' w) : wpList P ops Q (o :: rest) a w :=
  wl_val fr hw hd hlt (lde_run hT fr ho hx hte hde hr hb).1 (lde_run hT fr ho hx hte hde hr hb).2 h
theorem sl_lde (hT : T.Ok P) {s : SOp} {rest : List Itm} {te : TypeId} {x : Operand} {d : Nat} {de : TypeDesc} (hr : Rk k w A l) (fr : FrD Df N a L) (hw : wantS L s = some true) (hq : s.q = false) (ho : s.op = .load te x) (hd : s.dst = some d) (hlt : Nat.blt d N = true) (hx : ev L x = some (elP A i)) (hte : T.ty.lookup te = some de) (hde : aggD de = false) (hb : 0 ≤ i ∧ i < (l.length : Int)) (hS : S' w)
    (h : ∀ a', FrD Df N a' ((d, .int k (l.getD i.toNat 0)) :: L) → SL P Q S' rest a' w) : SL P Q S' (.one s :: rest) a w :=
  sl_val fr hw hq hd hlt (lde_run hT fr (o := s.oper) ho hx hte hde hr hb).1 hS (lde_run hT fr (o := s.oper) ho hx hte hde hr hb).2 h
theorem sl_lde2 (hT : T.Ok P) {s t : SOp} {rest : List Itm} {te tf : TypeId} {x y : Operand} {d d' : Nat} {de df : TypeDesc} {k' : IntKind} {A' : Option Addr} {l' : List Int} {i' : Int} (hr : Rk k w A l) (hr' : Rk k' w A' l') (fr : FrD Df N a L)
    (ho : s.op = .load te x) (hd : s.dst = some d) (hlt : Nat.blt d N = true) (hx : ev L x = some (elP A i)) (hte : T.ty.lookup te = some de) (hde : aggD de = false) (hb : 0 ≤ i ∧ i < (l.length : Int))
    (ho' : t.op = .load tf y) (hd' : t.dst = some d') (hlt' : Nat.blt d' N = true) (hy : ev L y = some (elP A' i')) (htf : T.ty.lookup tf = some df) (hdf : aggD df = false) (hb' : 0 ≤ i' ∧ i' < (l'.length : Int))
    (hxd : ∀ v, ev ((d', v) :: L) x = ev L x) (hyd : ∀ v, ev ((d, v) :: L) y = ev L y) (hne : Nat.beq d d' = false) (hS : S' w)
    (h : ∀ a', FrD Df N a' ((d', .int k' (l'.getD i'.toNat 0)) :: (d, .int k (l.getD i.toNat 0)) :: L) → SL P Q S' rest a' w) : SL P Q S' (.two s t :: rest) a w := by
  have h1 := lde_run hT fr (o := s.oper) ho hx hte hde hr hb
  have h2 := lde_run hT fr (o := t.oper) ho' hy htf hdf hr' hb'
  have f1 : FrD Df N (a.put s.dst (.int k (l.getD i.toNat 0))) ((d, .int k (l.getD i.toNat 0)) :: L) := by rw [hd]; exact fr.put (blt_lt hlt) h1.2
  have f2 : FrD Df N (a.put t.dst (.int k' (l'.getD i'.toNat 0))) ((d', .int k' (l'.getD i'.toNat 0)) :: L) := by rw [hd']; exact fr.put (blt_lt hlt') h2.2
  have hne' : d ≠ d' := fun e => by subst e; simp at hne
  refine s2lv h1.1 (lde_run hT f1 (o := t.oper) ho' (by rw [hyd]; exact hy) htf hdf hr' hb').1 h2.1 (lde_run hT f2 (o := s.oper) ho (by rw [hxd]; exact hx) hte hde hr hb).1 hS hS rfl ?_ (h _ (by rw [hd']; exact f1.put (blt_lt hlt') h2.2))
  rw [hd, hd']
  unfold Act.put
  simp only
  rw [Array.setIfInBounds_comm _ _ hne'.symm]
theorem ste_run (hT : T.Ok P) (fr : FrD Df N a L) {o : Oper} {te : TypeId} {p v : Operand} {c e : Nat} {z : Int} (ho : o.op = .store te p v) (hp : ev L p = some (elP A i)) (hv : ev L v = some (.int k z)) (hs : T.sz.lookup te = some 1) (S : Sat w0 w (ownA k e A c l :: R)) (hb : 0 ≤ i ∧ i < (l.length : Int)) :
    ∃ w', (execOp a.eval o).run P w = .ok .skip w' ∧ Sat w0 w' (ownA k e A c (l.set i.toNat z) :: R) := by
  obtain ⟨j, rfl⟩ : ∃ j : Nat, i = j := ⟨i.toNat, by omega⟩
  rw [Int.toNat_natCast]
  have hj : j < l.length := by omega
  obtain ⟨F, ⟨g1, g2, g3⟩, hF, hk⟩ := S.opened
  obtain ⟨g, c', e1⟩ := g1.ptr (by omega)
  injection e1 with e1 _ e2
  subst e1 e2
  obtain ⟨q1, q2, q3, q4, -, -⟩ := g1.cell hj
  have ea : (⟨g, 0, none⟩ : Addr).add (j * 1) = ⟨g, j, none⟩ := by unfold Addr.add; split <;> simp_all
  have hrun : (storeCells (⟨g, j, none⟩ : Addr) [.int k z]).run P w = .ok () (w.setCell ⟨g, j, none⟩ (.int k z)) := by
    have h2 := run_storeCells_cells (P := P) g j [.int k z] 0 w (fun q hq => by
      have hq : q = 0 := by simpa using hq
      subst hq; simpa using by rw [q1]; rfl) (fun q hq => by
      have hq : q = 0 := by simpa using hq
      subst hq; simpa using q2) (fun u hu => by
      have hu : u = .int k z := by simpa using hu
      subst hu; rfl)
    have h3 : (storeCells (⟨g, j, none⟩ : Addr) [.int k z]).run P w = .ok () (w.setCells g j [.int k z]) := by simpa using h2
    exact h3
  refine ⟨w.setCell ⟨g, j, none⟩ (.int k z), ?_, hk (A' := ownA k e (some ⟨g, 0, none⟩) c (l.set j z)) (F' := F) (G := fun q => q = g) ⟨?_, fun u hu => ?_, fun q => ?_⟩ (Chg.setCell w ⟨g, j, none⟩ _) (fun q _ hq => (g3 q).2 (by subst hq; rfl)) fun q hq => .inl hq⟩
  · have hp' : (elP (some ⟨g, 0, none⟩) (j : Int)) = .pointer (some ⟨g, j, none⟩) := by
      show Value.pointer (some ((⟨g, 0, none⟩ : Addr).add ((j : Int).toNat * 1))) = _
      rw [Int.toNat_natCast, ea]
    rw [hp'] at hp
    unfold execOp
    simp only [ho, (fr.ev hp).1, (fr.ev hv).1, Instr.storeAt, Instr.sureAddr, storeVar, Value.cells]
    simp [size_run hT hs, hrun]
  · have := g1.set hj (x := z)
    rw [List.length_set]; exact this
  · rcases List.mem_or_eq_of_mem_set hu with hu | hu
    · exact g2 u hu
    · subst hu; exact (fr.ev hv).2
  · rw [List.length_set]; exact g3 q
theorem wl_ste (hT : T.Ok P) {o : Oper} {rest : List Oper} {te : TypeId} {p v : Operand} {c e : Nat} {z : Int} (fr : FrD Df N a L) (hw : wantL ops L o = some true) (hd : o.dst = none) (ho : o.op = .store te p v) (hp : ev L p = some (elP A i)) (hv : ev L v = some (.int k z)) (hs : T.sz.lookup te = some 1) (S : Sat w0 w (ownA k e A c l :: R)) (hb : 0 ≤ i ∧ i < (l.length : Int))
    (h : ∀ w', Sat w0 w' (ownA k e A c (l.set i.toNat z) :: R) → wpList P ops Q rest a w') : wpList P ops Q (o :: rest) a w := by
  obtain ⟨w', h1, h2⟩ := ste_run hT fr ho hp hv hs S hb
  exact wl_skip fr hw hd h1 (h w' h2)
theorem sl_ste (hT : T.Ok P) {s : SOp} {rest : List Itm} {te : TypeId} {p v : Operand} {c e : Nat} {z : Int} (fr : FrD Df N a L) (hw : wantS L s = some true) (hq : s.q = false) (hd : s.dst = none) (ho : s.op = .store te p v) (hp : ev L p = some (elP A i)) (hv : ev L v = some (.int k z)) (hs : T.sz.lookup te = some 1) (S : Sat w0 w (ownA k e A c l :: R)) (hb : 0 ≤ i ∧ i < (l.length : Int))
    (h : ∀ w', Sat w0 w' (ownA k e A c (l.set i.toNat z) :: R) → S' w' ∧ SL P Q S' rest a w') : SL P Q S' (.one s :: rest) a w := by
  obtain ⟨w', h1, h2⟩ := ste_run hT fr (o := s.oper) ho hp hv hs S hb
  exact sl_skip fr hw hq hd h1 (h w' h2).1 (h w' h2).2
theorem wl_callE {o : Oper} {rest : List Oper} {d : Nat} {f : FuncId} {xs ys : List Value} {E : Ending → World → Prop} (fr : FrD Df N a L) (hw : wantL ops L o = some true) (hd : o.dst = some d) (hlt : Nat.blt d N = true) (hc : callL L o = some (f, xs)) (hin : Enters P f) (he : xs = ys) (hcon : Calls P f ys.toArray w E)
    (h : ∀ e w', E e w' → ∃ v, e = .returned v ∧ vok v = true ∧ ∀ a', FrD Df N a' ((d, v) :: L) → wpList P ops Q rest a' w') : wpList P ops Q (o :: rest) a w := wl_call fr hw hd hlt hc hin (he ▸ hcon) h
theorem sl_callE {s : SOp} {rest : List Itm} {d : Nat} {f : FuncId} {xs ys : List Value} {E : Ending → World → Prop} (fr : FrD Df N a L) (hw : wantS L s = some true) (hq : s.q = false) (hd : s.dst = some d) (hlt : Nat.blt d N = true) (hc : callL L s.oper = some (f, xs)) (hin : Enters P f) (he : xs = ys) (hcon : Calls P f ys.toArray w E)
    (h : ∀ e w', E e w' → ∃ v, e = .returned v ∧ vok v = true ∧ S' w' ∧ ∀ a', FrD Df N a' ((d, v) :: L) → SL P Q S' rest a' w') : SL P Q S' (.one s :: rest) a w := sl_call fr hw hq hd hlt hc hin (he ▸ hcon) h
def strB (s : ByteArray) (i : Nat) : Int := ((s[i]?).map (fun b => (b.toNat : Int))).getD 0
theorem wl_ixs (hT : T.Ok P) {o : Oper} {rest : List Oper} {t : TypeId} {x ix : Operand} {d : Nat} {s : ByteArray} {ki : IntKind} (fr : FrD Df N a L) (hw : wantL ops L o = some true) (hd : o.dst = some d) (hlt : Nat.blt d N = true) (ho : o.op = .index t x ix) (hx : ev L x = some (.string s)) (hi : ev L ix = some (.int ki i)) (ht : T.ty.lookup t = some .string)
    (hb : 0 ≤ i ∧ i < (s.size : Int)) (h : ∀ a', FrD Df N a' ((d, .int .u8 (strB s i.toNat)) :: L) → wpList P ops Q rest a' w) : wpList P ops Q (o :: rest) a w := by
  have hs : i.toNat < s.size := by omega
  have e1 : s[i.toNat]? = some s[i.toNat] := getElem?_pos s i.toNat hs
  have e2 : strB s i.toNat = (s[i.toNat].toNat : Int) := by unfold strB; rw [e1]; rfl
  refine wl_val (v := .int .u8 (strB s i.toNat)) fr hw hd hlt ?_ ?_ h
  · unfold execOp
    simp only [ho, (fr.ev hx).1, (fr.ev hi).1, Instr.index, asIntOf]
    rw [Sem.run_bind, Sem.run_bind, Sem.run_pure, Result.andThen_ok]
    simp only
    rw [Sem.run_bind, run_underlying (hT.und ht), Result.andThen_ok]
    simp only
    rw [if_pos hb.1, e1, e2]; rfl
  · rw [e2]
    have := s[i.toNat].toNat_lt
    show (Lit.int .u8 (s[i.toNat].toNat : Int)).wf = true
    rw [wf_int]
    have h1 : IntKind.u8.min = 0 := by decide
    have h2 : IntKind.u8.max = 255 := by decide
    omega
theorem Sat.varAt {b e : Nat} {v : Value} {M : List Asn} (S : Sat w0 w M) (j : Nat) (hj : M[j]? = some (stA e b [v])) : w.cell? (⟨b, 0, none⟩ : Addr) = some v ∧ vok v = true := by
  have := S.stAt j hj (j := 0) rfl
  rwa [addr0] at this
theorem wl_allocv {o : Oper} {rest : List Oper} {t : TypeId} {d : Nat} {v : Value} (fr : FrD Df N a L) (hw : wantL ops L o = some true) (hd : o.dst = some d) (hlt : Nat.blt d N = true) (ho : o.op = .alloc t) (hz : ∀ W, (zeroValue t).run P W = .ok v W) (hc : v.cells = #[v]) (hok : vok v = true) (S : Sat w0 w R)
    (h : ∀ w' b, Sat w0 w' (stA t b [v] :: R) → ∀ a', FrD Df N a' ((d, .pointer (some ⟨b, 0, none⟩)) :: L) → wpList P ops Q rest a' w') : wpList P ops Q (o :: rest) a w := by
  refine wl_val (v := .pointer (some ⟨w.heap.size, 0, none⟩)) (w' := w.alloc (.cells #[v] t)) fr hw hd hlt ?_ rfl (h _ _ ?_)
  · unfold execOp
    simp only [ho, Instr.alloc]
    rw [Sem.run_bind, Sem.run_bind, hz, Result.andThen_ok, Sem.run_bind]
    unfold newVar
    rw [hc]
    rfl
  · exact S.add (F := fun g => g = w.heap.size) ((Below.refl _ _).alloc (Nat.le_refl _) _) ⟨heap_alloc_new _ _, by simp [hok], S.below.size, fun g => Iff.rfl⟩ fun g hg => Nat.le_of_eq hg.symm
theorem wl_stv (hT : T.Ok P) {o : Oper} {rest : List Oper} {te : TypeId} {p v : Operand} {b e : Nat} {y z : Value} (fr : FrD Df N a L) (hw : wantL ops L o = some true) (hd : o.dst = none) (ho : o.op = .store te p v) (hp : ev L p = some (.pointer (some ⟨b, 0, none⟩))) (hv : ev L v = some z) (hs : T.sz.lookup te = some 1)
    (hc : z.cells = #[z]) (h1 : z.oneCell' = true) (S : Sat w0 w (stA e b [y] :: R)) (h : ∀ w', Sat w0 w' (stA e b [z] :: R) → wpList P ops Q rest a w') : wpList P ops Q (o :: rest) a w :=
  wl_stf (j := 0) hT fr hw hd ho (by rw [addr0]; exact hp) hv hs hc h1 S rfl h
theorem sl_stv (hT : T.Ok P) {s : SOp} {rest : List Itm} {te : TypeId} {p v : Operand} {b e : Nat} {y z : Value} (fr : FrD Df N a L) (hw : wantS L s = some true) (hq : s.q = false) (hd : s.dst = none) (ho : s.op = .store te p v) (hp : ev L p = some (.pointer (some ⟨b, 0, none⟩))) (hv : ev L v = some z) (hs : T.sz.lookup te = some 1)
    (hc : z.cells = #[z]) (h1 : z.oneCell' = true) (S : Sat w0 w (stA e b [y] :: R)) (h : ∀ w', Sat w0 w' (stA e b [z] :: R) → S' w' ∧ SL P Q S' rest a w') : SL P Q S' (.one s :: rest) a w := by
  obtain ⟨w', h2, h3⟩ := store1_run hT fr (o := s.oper) (j := 0) ho (by rw [addr0]; exact hp) hv hs hc h1 S rfl
  exact sl_skip fr hw hq hd h2 (h w' h3).1 (h w' h3).2
theorem sl_ldv (hT : T.Ok P) {s : SOp} {rest : List Itm} {te : TypeId} {x : Operand} {d : Nat} {b : Nat} {v : Value} {de : TypeDesc} (hr : w.cell? (⟨b, 0, none⟩ : Addr) = some v ∧ vok v = true) (fr : FrD Df N a L) (hw : wantS L s = some true) (hq : s.q = false) (ho : s.op = .load te x) (hd : s.dst = some d) (hlt : Nat.blt d N = true)
    (hx : ev L x = some (.pointer (some ⟨b, 0, none⟩))) (hte : T.ty.lookup te = some de) (hde : aggD de = false) (hS : S' w) (h : ∀ a', FrD Df N a' ((d, v) :: L) → SL P Q S' rest a' w) : SL P Q S' (.one s :: rest) a w :=
  sl_val fr hw hq hd hlt (load_run hT fr (o := s.oper) ho hx hte hde hr.1) hS hr.2 h
theorem sl_ldv2 (hT : T.Ok P) {s t : SOp} {rest : List Itm} {te tf : TypeId} {x y : Operand} {d d' b b' : Nat} {v v' : Value} {de df : TypeDesc} (hr : w.cell? (⟨b, 0, none⟩ : Addr) = some v ∧ vok v = true) (hr' : w.cell? (⟨b', 0, none⟩ : Addr) = some v' ∧ vok v' = true) (fr : FrD Df N a L)
    (ho : s.op = .load te x) (hd : s.dst = some d) (hlt : Nat.blt d N = true) (hx : ev L x = some (.pointer (some ⟨b, 0, none⟩))) (hte : T.ty.lookup te = some de) (hde : aggD de = false)
    (ho' : t.op = .load tf y) (hd' : t.dst = some d') (hlt' : Nat.blt d' N = true) (hy : ev L y = some (.pointer (some ⟨b', 0, none⟩))) (htf : T.ty.lookup tf = some df) (hdf : aggD df = false)
    (hxd : ∀ v, ev ((d', v) :: L) x = ev L x) (hyd : ∀ v, ev ((d, v) :: L) y = ev L y) (hne : Nat.beq d d' = false) (hS : S' w)
    (h : ∀ a', FrD Df N a' ((d', v') :: (d, v) :: L) → SL P Q S' rest a' w) : SL P Q S' (.two s t :: rest) a w := by
  have f1 : FrD Df N (a.put s.dst v) ((d, v) :: L) := by rw [hd]; exact fr.put (blt_lt hlt) hr.2
  have f2 : FrD Df N (a.put t.dst v') ((d', v') :: L) := by rw [hd']; exact fr.put (blt_lt hlt') hr'.2
  have hne' : d ≠ d' := fun e => by subst e; simp at hne
  refine s2lv (load_run hT fr (o := s.oper) ho hx hte hde hr.1) (load_run hT f1 (o := t.oper) ho' (by rw [hyd]; exact hy) htf hdf hr'.1) (load_run hT fr (o := t.oper) ho' hy htf hdf hr'.1) (load_run hT f2 (o := s.oper) ho (by rw [hxd]; exact hx) hte hde hr.1) hS hS rfl ?_ (h _ (by rw [hd']; exact f1.put (blt_lt hlt') hr'.2))
  rw [hd, hd']
  unfold Act.put
  simp only
  rw [Array.setIfInBounds_comm _ _ hne'.symm]
def rowA (k : IntKind) (e : TypeId) (A : Option Addr) (c n : Nat) (l : List Int) : Asn where
  holds := fun w B F => (OwnI k w B e (.slice A n c) l ∧ (∀ z ∈ l, (Lit.int k z).wf = true) ∧ ∀ g, F g ↔ (Value.slice A n c).ownBlock = some g) ∧ l.length = n
  keep := fun ⟨⟨h1, h2, h3⟩, h4⟩ hc hF _ => ⟨⟨h1.kept hc fun g hg => hF g ((h3 g).2 hg), h2, h3⟩, h4⟩
  dom := fun ⟨⟨h1, _, h3⟩, _⟩ g hg => h1.lt g ((h3 g).1 hg)
theorem row_own {c e : Nat} : (rowA k e A c l.length l).holds w = fun B F => (ownA k e A c l).holds w B F ∧ l.length = l.length := rfl
theorem Sat.toRow {c e : Nat} (S : Sat w0 w (ownA k e A c l :: R)) : Sat w0 w (rowA k e A c l.length l :: R) := by
  obtain ⟨h1, F, h2, h3, h4⟩ := S
  exact ⟨h1, F, ⟨h2, rfl⟩, h3, h4⟩
theorem Sat.ofRow {c e n : Nat} (S : Sat w0 w (rowA k e A c n l :: R)) : l.length = n ∧ Sat w0 w (ownA k e A c l :: R) := by
  obtain ⟨h1, F, ⟨h2, rfl⟩, h3, h4⟩ := S
  exact ⟨rfl, h1, F, h2, h3, h4⟩
theorem Sat.rowAt {c e n : Nat} {M : List Asn} (S : Sat w0 w M) (j : Nat) (hj : M[j]? = some (rowA k e A c n l)) : Rk k w A l := (S.frontAt j hj).ofRow.2.own.1
theorem Sat.rowLen {c e n : Nat} {M : List Asn} (S : Sat w0 w M) (j : Nat) (hj : M[j]? = some (rowA k e A c n l)) : n = l.length := ((S.frontAt j hj).ofRow.1).symm
theorem Sat.rowHb {c e n : Nat} {M : List Asn} (S : Sat w0 w M) (j : Nat) (hj : M[j]? = some (rowA k e A c n l)) {i : Int} (h : 0 ≤ i ∧ i < (n : Int)) : 0 ≤ i ∧ i < (l.length : Int) := by rw [← S.rowLen j hj]; exact h
theorem wl_str (hT : T.Ok P) {o : Oper} {rest : List Oper} {te : TypeId} {p v : Operand} {c e n : Nat} {z : Int} (fr : FrD Df N a L) (hw : wantL ops L o = some true) (hd : o.dst = none) (ho : o.op = .store te p v) (hp : ev L p = some (elP A i)) (hv : ev L v = some (.int k z)) (hs : T.sz.lookup te = some 1) (S : Sat w0 w (rowA k e A c n l :: R)) (hb : 0 ≤ i ∧ i < (n : Int))
    (h : ∀ w', Sat w0 w' (rowA k e A c n (l.set i.toNat z) :: R) → wpList P ops Q rest a w') : wpList P ops Q (o :: rest) a w := by
  obtain ⟨e1, S1⟩ := S.ofRow
  subst e1
  obtain ⟨w', h1, h2⟩ := ste_run hT fr ho hp hv hs S1 hb
  exact wl_skip fr hw hd h1 (h w' (by have := h2.toRow; rwa [List.length_set] at this))
theorem sl_str (hT : T.Ok P) {s : SOp} {rest : List Itm} {te : TypeId} {p v : Operand} {c e n : Nat} {z : Int} (fr : FrD Df N a L) (hw : wantS L s = some true) (hq : s.q = false) (hd : s.dst = none) (ho : s.op = .store te p v) (hp : ev L p = some (elP A i)) (hv : ev L v = some (.int k z)) (hs : T.sz.lookup te = some 1) (S : Sat w0 w (rowA k e A c n l :: R)) (hb : 0 ≤ i ∧ i < (n : Int))
    (h : ∀ w', Sat w0 w' (rowA k e A c n (l.set i.toNat z) :: R) → S' w' ∧ SL P Q S' rest a w') : SL P Q S' (.one s :: rest) a w := by
  obtain ⟨e1, S1⟩ := S.ofRow
  subst e1
  obtain ⟨w', h1, h2⟩ := ste_run hT fr (o := s.oper) ho hp hv hs S1 hb
  obtain ⟨h3, h4⟩ := h w' (by have := h2.toRow; rwa [List.length_set] at this)
  exact sl_skip fr hw hq hd h1 h3 h4
end
end Go.Proofs.YticnjkdaccacaaaGreatDoor.Sx
end
section
namespace Go.Proofs.YticnjkdaccacaaaGreatDoor.Sx
open Go Go.RowKit Base _root_.Go.Proofs.YticnjkdaccacaaaGreatDoor.Own
section
variable {w0 w : World} {B : Nat} {U : Nat → Prop} {L L' R : List Asn}
theorem SatF.perm (h : L.Perm L') : ∀ {U : Nat → Prop}, SatF w B U L → SatF w B U L' := by
  induction h with
  | nil => intro U h; exact h
  | cons A _ ih => rintro U ⟨F, h1, h2, h3⟩; exact ⟨F, h1, h2, ih h3⟩
  | swap A A' L => intro U h; exact h.swap
  | trans _ _ ih1 ih2 => intro U h; exact ih2 (ih1 h)
theorem Sat.perm (S : Sat w0 w L) (h : L.Perm L') : Sat w0 w L' := ⟨S.below, S.parts.perm h⟩
theorem SatF.left : ∀ {X Y : List Asn} {U : Nat → Prop}, SatF w B U (X ++ Y) → SatF w B U X := by
  intro X
  induction X with
  | nil => intro Y U _; trivial
  | cons A X ih => rintro Y U ⟨F, h1, h2, h3⟩; exact ⟨F, h1, h2, ih h3⟩
theorem Sat.firsts (X : List Asn) {Y : List Asn} (S : Sat w0 w (X ++ Y)) : Sat w0 w X := ⟨S.below, S.parts.left⟩
end
abbrev Rw := Option Addr × Nat × List Int
def rwV (p : Rw) : Value := .slice p.1 p.2.2.length p.2.1
def rw0 : Rw := (none, 0, [])
theorem rwV_vok (z : Rw) : vokC (rwV z) = vok (rwV z) := rfl
def rowsOf (k : IntKind) (e : TypeId) (m : List (Int × Rw)) : List Asn := m.map fun p => ownA k e p.2.1 p.2.2.1 p.2.2.2
def plM (m : List (Int × Rw)) : List (Int × List Int) := m.map fun p => (p.1, p.2.2.2)
def rowK (m : List (Int × Rw)) (x : Int) : Rw := (lkM m x).getD rw0
theorem lk_pl (m : List (Int × Rw)) (x : Int) : lkM (plM m) x = (lkM m x).map (·.2.2) := by
  induction m with
  | nil => rfl
  | cons p r ih =>
    unfold plM at ih ⊢
    rw [List.map_cons, lkM_cons, lkM_cons, ih]
    split <;> rfl
theorem up_pl (m : List (Int × Rw)) (x : Int) (r : Rw) : plM (upM m x r) = upM (plM m) x r.2.2 := by
  induction m with
  | nil => rfl
  | cons p q ih =>
    unfold plM at ih ⊢
    simp only [List.map_cons, upM]
    by_cases h : p.1 = x
    · rw [if_pos h, if_pos h]; rfl
    · rw [if_neg h, if_neg h, List.map_cons, ih]
theorem keys_pl (m : List (Int × Rw)) : keysM (plM m) = keysM m := by
  unfold keysM plM
  rw [List.map_map]; rfl
theorem up_perm {α : Type} (m : List (Int × α)) (x : Int) (v : α) : (upM m x v).Perm ((x, v) :: delM m x) := by
  induction m with
  | nil => exact List.Perm.refl _
  | cons p r ih =>
    unfold upM delM
    by_cases h : p.1 = x
    · rw [if_pos h, if_pos h, h]
    · rw [if_neg h, if_neg h]
      exact (List.Perm.cons p ih).trans (List.Perm.swap _ _ _)
theorem lk_perm {α : Type} {m : List (Int × α)} {x : Int} {v : α} (h : lkM m x = some v) : m.Perm ((x, v) :: delM m x) := by
  induction m with
  | nil => cases h
  | cons p r ih =>
    rw [lkM_cons] at h
    unfold delM
    by_cases hp : p.1 = x
    · rw [if_pos hp] at h ⊢
      injection h with h
      rw [← h, ← hp]
    · rw [if_neg hp] at h ⊢
      exact (List.Perm.cons p (ih h)).trans (List.Perm.swap _ _ _)
theorem del_none {α : Type} {m : List (Int × α)} {x : Int} (h : lkM m x = none) : delM m x = m := by
  induction m with
  | nil => rfl
  | cons p r ih =>
    rw [lkM_cons] at h
    unfold delM
    by_cases hp : p.1 = x
    · rw [if_pos hp] at h; cases h
    · rw [if_neg hp] at h ⊢; rw [ih h]
section
variable {w0 w : World} {R : List Asn} {k : IntKind} {e : TypeId} {m : List (Int × Rw)}
theorem Sat.takeRow (S : Sat w0 w (rowsOf k e m ++ R)) (x : Int) : Sat w0 w (ownA k e (rowK m x).1 (rowK m x).2.1 (rowK m x).2.2 :: (rowsOf k e (delM m x) ++ R)) := by
  unfold rowK
  cases h : lkM m x with
  | none => rw [del_none h]; exact S.nilRow k e
  | some v =>
    refine S.perm ?_
    exact (((lk_perm h).map _).append_right R)
theorem Sat.putRow {r : Rw} (x : Int) (S : Sat w0 w (ownA k e r.1 r.2.1 r.2.2 :: (rowsOf k e (delM m x) ++ R))) : Sat w0 w (rowsOf k e (upM m x r) ++ R) := by
  refine S.perm ?_
  exact (((up_perm m x r).map (fun p => ownA k e p.2.1 p.2.2.1 p.2.2.2)).append_right R).symm
theorem Sat.backRow {r : Rw} {x : Int} (h : lkM m x = some r) (S : Sat w0 w (ownA k e r.1 r.2.1 r.2.2 :: (rowsOf k e (delM m x) ++ R))) : Sat w0 w (rowsOf k e m ++ R) := by
  refine S.perm ?_
  exact (((lk_perm h).map (fun p => ownA k e p.2.1 p.2.2.1 p.2.2.2)).append_right R).symm
theorem rows_mv {H X : List Asn} {Y : List Asn} : (H ++ (X ++ Y)).Perm (X ++ (H ++ Y)) := by
  rw [← List.append_assoc, ← List.append_assoc]
  exact List.perm_append_comm.append_right Y
theorem Sat.take2 (H : List Asn) (S : Sat w0 w (H ++ (rowsOf k e m ++ R))) (x : Int) : Sat w0 w (ownA k e (rowK m x).1 (rowK m x).2.1 (rowK m x).2.2 :: (H ++ (rowsOf k e (delM m x) ++ R))) :=
  ((S.perm rows_mv).takeRow x).perm (List.Perm.cons _ rows_mv)
theorem Sat.put2 (H : List Asn) {r : Rw} (x : Int) (S : Sat w0 w (ownA k e r.1 r.2.1 r.2.2 :: (H ++ (rowsOf k e (delM m x) ++ R)))) : Sat w0 w (H ++ (rowsOf k e (upM m x r) ++ R)) :=
  (Sat.putRow x (S.perm (List.Perm.cons _ rows_mv))).perm rows_mv
theorem Sat.back2 (H : List Asn) {x : Int} (h : lkM m x ≠ none) (S : Sat w0 w (ownA k e (rowK m x).1 (rowK m x).2.1 (rowK m x).2.2 :: (H ++ (rowsOf k e (delM m x) ++ R)))) : Sat w0 w (H ++ (rowsOf k e m ++ R)) := by
  obtain ⟨r, hr⟩ := Option.ne_none_iff_exists'.1 h
  unfold rowK at S
  rw [hr] at S
  exact (Sat.backRow hr (S.perm (List.Perm.cons _ rows_mv))).perm rows_mv
theorem Sat.readAt (H : List Asn) (S : Sat w0 w (H ++ (rowsOf k e m ++ R))) (x : Int) : Rk k w (rowK m x).1 (rowK m x).2.2 ∧ (rowK m x).2.2.length ≤ (rowK m x).2.1 ∧ (rowK m x).2.1 ≤ maxLen := (S.take2 H x).own
theorem Sat.readRow (S : Sat w0 w (rowsOf k e m ++ R)) (x : Int) : Rk k w (rowK m x).1 (rowK m x).2.2 ∧ (rowK m x).2.2.length ≤ (rowK m x).2.1 ∧ (rowK m x).2.1 ≤ maxLen := (S.takeRow x).own
end
end Go.Proofs.YticnjkdaccacaaaGreatDoor.Sx
end
section
namespace Go.Proofs.YticnjkdaccacaaaGreatDoor.Sx
open Go Go.RowKit Base _root_.Go.Proofs.YticnjkdaccacaaaGreatDoor.Own
section
variable {P : Program} {T : Orc} {ops : Array Oper} {Q : Exit → Act → World → Prop} {S' : World → Prop} {Df : List Deferred} {N : Nat} {a : Act} {w w0 : World} {L : Env} {R : List Asn} {k : IntKind}
theorem sl_mid (t e : TypeId) (kl kh : IntKind) (ht : P.underlying t = some (.slice e)) (hi : (P.info? e).map (·.size) = some 1) (A : Option Addr) (n c l h : Nat) (xl xh : Int) (el : xl = l) (eh : xh = h) (h1 : l ≤ h) (h2 : h ≤ c) :
    ∀ W : World, (Instr.slice t (.slice A n c) (some (.int kl xl)) (some (.int kh xh)) none).run P W = .ok (.slice (dropA A c l) (h - l) (c - l)) W := by
  intro W
  subst el eh
  cases hq : P.info? e with
  | none => simp [hq] at hi
  | some i =>
    have hs : i.size = 1 := by simpa [hq] using hi
    simp only [Instr.slice, Sem.run_bind, run_underlying ht, Result.andThen_ok, Instr.sliceBounds, Instr.sliceBound, asIntOf, Sem.run_pure, Option.isSome]
    rw [if_pos ⟨by omega, by omega⟩]
    simp [sizeOf, typeInfo, hq, hs, dropA, h1]
theorem slice_run (hT : T.Ok P) (fr : FrD Df N a L) {o : Oper} {t : TypeId} {x : Operand} {lo hi mx : Option Operand} {vlo vhi vmx : Option Value} (ho : o.op = .slice t x lo hi mx) {v : Value} {e : Nat} {A : Option Addr} {n c : Nat} (hx : ev L x = some (.slice A n c))
    (h1 : lo.map a.eval = vlo) (h2 : hi.map a.eval = vhi) (h3 : mx.map a.eval = vmx) (ht : T.ty.lookup t = some (.slice e)) (hr : ∀ w, (Instr.slice t (.slice A n c) vlo vhi vmx).run P w = .ok v w) (w : World) : (execOp a.eval o).run P w = .ok (.value v) w := by
  unfold execOp
  simp only [ho, (fr.ev hx).1, h1, h2, h3, Instr.sliceAt]
  rw [Sem.run_bind, Sem.run_bind, run_underlying (hT.und ht), Result.andThen_ok]
  simp only
  rw [hr]
  rfl
theorem andThen_ok' {α β : Type} {x : Result α} {f : α → World → Result β} {v : β} {w' : World} (h : x.andThen f = .ok v w') : ∃ u w1, x = .ok u w1 ∧ f u w1 = .ok v w' := by
  cases x with
  | ok u w1 => exact ⟨u, w1, rfl, h⟩
  | halt hl w1 => cases h
theorem app_in_exec {t e : TypeId} (RT : RowTy P t e k) (fr : FrD Df N a L) {o : Oper} {x y : Operand} {A Y : Option Addr} {n m c cy : Nat} {l news : List Int} (ho : o.op = .call { callee := .builtin .append, args := #[x, y], argTypes := #[t, t] }) (hx : ev L x = some (.slice A n c)) (hn : n = l.length) (hy : ev L y = some (.slice Y m cy)) (hm : m = news.length)
    (hr : Rk k w Y news) (hb : l.length + news.length ≤ c) (hb2 : (l.length : Int) + (news.length : Int) ≤ 17592186044416) (S : Sat w0 w (ownA k e A c l :: R)) :
    ∃ w', (execOp a.eval o).run P w = .ok (.value (.slice A (l ++ news).length c)) w' ∧ vok (.slice A (l ++ news).length c) = true ∧ Sat w0 w' (ownA k e A c (l ++ news) :: R) := by
  subst hn hm
  obtain ⟨F, ⟨h1, h2, h3⟩, hF, hk⟩ := S.opened
  obtain ⟨bytes, hle, hinfo⟩ := RT.hi
  have hmul : (l.length + news.length) * bytes ≤ (l.length + news.length) * 8 := Nat.mul_le_mul_left _ hle
  obtain ⟨v', w', hrun, h4, h5, h6⟩ := ap_run (P := P) t o.type (.int k 0) bytes RT.ht hinfo rfl h1 Y news.length cy news rfl hr.rd (fun e => by rw [hr.rd.empty e]; rfl) (by unfold maxLen; omega) (by omega) S.below.size
  have hv' : v' = .slice A (l ++ news).length c := by
    obtain ⟨i, hi, hzz⟩ := Option.map_eq_some_iff.1 hinfo
    have hrun' := hrun
    unfold Builtin.append_ at hrun'
    simp only [List.getElem?_toArray, List.getElem?_cons_zero, List.getElem?_cons_succ] at hrun'
    rw [Sem.run_bind, run_underlying RT.ht, Result.andThen_ok] at hrun'
    simp only at hrun'
    rw [Sem.run_bind] at hrun'
    obtain ⟨u, w1, q1, hrun'⟩ := andThen_ok' hrun'
    rw [Sem.run_bind] at hrun'
    obtain ⟨z, w2, q2, hrun'⟩ := andThen_ok' hrun'
    rw [run_underlying RT.ht] at q2
    injection q2 with q2 _
    subst q2
    rw [Sem.run_bind] at hrun'
    obtain ⟨zz, w3, q3, hrun'⟩ := andThen_ok' hrun'
    have hzz : zz = false := by injection q3 with q3; exact q3.symm
    subst hzz
    simp only [Bool.false_eq_true, if_false] at hrun'
    rw [Sem.run_bind] at hrun'
    obtain ⟨nn, w3', q4, hrun'⟩ := andThen_ok' hrun'
    have hnn : nn = news.length := by injection q4 with q4; exact q4.symm
    subst hnn
    rw [if_pos hb, Sem.run_bind] at hrun'
    obtain ⟨cs, w4, q5, hrun'⟩ := andThen_ok' hrun'
    have hl : (l ++ news).length = l.length + news.length := List.length_append
    rw [hl]
    cases A with
    | none => injection hrun' with hrun'; exact hrun'.symm
    | some ad =>
      simp only at hrun'
      rw [Sem.run_bind] at hrun'
      obtain ⟨_, w5, q6, hrun'⟩ := andThen_ok' hrun'
      injection hrun' with hrun'; exact hrun'.symm
  subst hv'
  obtain ⟨A', c', e', h7, h8, _, _⟩ := h4.slice
  injection e' with e1 e2 e3
  subst e3
  refine ⟨w', ?_, vok_sl ⟨h7, h8⟩, ?_⟩
  · unfold execOp
    simp only [ho, resolve]
    rw [Sem.run_bind, Sem.run_pure, Result.andThen_ok]
    simp only [invoke, builtin, List.map_toArray, List.map_cons, List.map_nil, (fr.ev hx).1, (fr.ev hy).1]
    rw [Sem.run_bind, hrun]; rfl
  · refine hk (A' := ownA k e A c (l ++ news)) (F' := F) (G := fun g => F g) ⟨h4, fun z hz => ?_, fun g => ?_⟩ ?_ (fun g _ hg => hg) fun g hg => .inl hg
    · rcases List.mem_append.1 hz with hz | hz
      · exact h2 z hz
      · exact hr.wf z hz
    · rw [h3 g]; cases A <;> rfl
    · refine (Chg.of_grown h5).mono fun g _ hg => (h3 g).2 hg.symm
theorem row_setCells {e : TypeId} (b : Nat) : ∀ (vs : List Value) (o : Nat) (w : World) (cur : Array Value), w.heap[b]? = some (.cells cur e (0, 0)) → ∃ cur', (w.setCells b o vs).heap[b]? = some (.cells cur' e (0, 0)) ∧ cur'.size = cur.size ∧ (∀ m, m ≤ o → cur'.toList.take m = cur.toList.take m) ∧ Chg (fun g => g = b) w (w.setCells b o vs) := by
  intro vs
  induction vs with
  | nil => intro o w cur h; exact ⟨cur, h, rfl, fun _ _ => rfl, Chg.refl _ _⟩
  | cons v vs ih =>
    intro o w cur h
    have h1 := heap_setCell_same w b o cur e v h
    obtain ⟨cur', q1, q2, q3, q4⟩ := ih (o + 1) (w.setCell ⟨b, o, none⟩ v) _ h1
    refine ⟨cur', q1, ?_, fun m hm => ?_, (Chg.setCell w ⟨b, o, none⟩ v).trans q4 fun _ _ h => h⟩
    · rw [q2]; simp
    · rw [q3 m (by omega)]
      simp [List.take_set_of_le, hm]
theorem sl_appin {t e : TypeId} (RT : RowTy P t e k) {s : SOp} {rest : List Itm} {d : Nat} {x y : Operand} {A Y : Option Addr} {n m c cy : Nat} {l news : List Int} (fr : FrD Df N a L) (hw : wantS L s = some true) (hq : s.q = false) (hd : s.dst = some d) (hlt : Nat.blt d N = true) (ho : s.op = .call { callee := .builtin .append, args := #[x, y], argTypes := #[t, t] }) (hx : ev L x = some (.slice A n c)) (hn : n = l.length) (hy : ev L y = some (.slice Y m cy)) (hm : m = news.length)
    (hr : Rk k w Y news) (hb : l.length + news.length ≤ c) (hb2 : (l.length : Int) + (news.length : Int) ≤ 17592186044416) (S : Sat w0 w (ownA k e A c l :: R))
    (h : ∀ w', Sat w0 w' (ownA k e A c (l ++ news) :: R) → S' w' ∧ ∀ a', FrD Df N a' ((d, .slice A (l ++ news).length c) :: L) → SL P Q S' rest a' w') : SL P Q S' (.one s :: rest) a w := by
  obtain ⟨w', h1, h2, h3⟩ := app_in_exec (P := P) RT fr (o := s.oper) ho hx hn hy hm hr hb hb2 S
  exact sl_val fr hw hq hd hlt h1 (h w' h3).1 h2 (h w' h3).2
theorem Sat.takeTo {e : TypeId} {A : Option Addr} {c : Nat} {l : List Int} (S : Sat w0 w (ownA k e A c l :: R)) (n : Nat) : Sat w0 w (ownA k e A c (l.take n) :: R) := by
  by_cases hn : n ≤ l.length
  · obtain ⟨F, ⟨h1, h2, h3⟩, hF, hk⟩ := S.opened
    have hl : (l.take n).length = n := by rw [List.length_take]; omega
    refine hk (A' := ownA k e A c (l.take n)) (F' := F) (G := fun _ => False) ⟨?_, fun z hz => h2 z (List.mem_of_mem_take hz), fun g => ?_⟩ (Chg.refl _ _) (fun _ _ h => h.elim) fun g hg => .inl hg
    · rcases h1.2 with ⟨e1, e2⟩ | ⟨g, cap, cur, e1, hB, hg, h4, h5, h6, h7⟩
      · injection e1 with e3 e4 e5
        subst e3 e5
        have : l = [] := List.eq_nil_of_length_eq_zero e2
        subst this
        simp only [List.take_nil]
        exact OwnI.nil k w _ e
      · injection e1 with e3 e4 e5
        subst e3 e5
        refine ⟨by simp, .inr ⟨g, c, cur, rfl, hB, hg, by omega, h5, h6, ?_⟩⟩
        have h8 := congrArg (List.take n) h7
        rw [List.take_take] at h8
        rw [hl, List.map_take, ← h8]
        congr 1
        omega
    · rw [h3 g]
      cases A <;> simp [Value.ownBlock]
  · rw [List.take_of_length_le (by omega)]; exact S
theorem clear_exec {t e : TypeId} (RT : RowTy P t e k) (fr : FrD Df N a L) {o : Oper} {x : Operand} {A : Option Addr} {j n c : Nat} {l : List Int} (ho : o.op = .call { callee := .builtin .clear, args := #[x], argTypes := #[t] }) (hx : ev L x = some (.slice (dropA A c j) n (c - j))) (hj : l.length ≤ j) (hn : j + n ≤ c) (h0 : 0 < n)
    (S : Sat w0 w (ownA k e A c l :: R)) : ∃ w', (execOp a.eval o).run P w = .ok (.value (.tuple #[])) w' ∧ Sat w0 w' (ownA k e A c l :: R) := by
  obtain ⟨F, ⟨h1, h2, h3⟩, hF, hk⟩ := S.opened
  obtain ⟨bytes, hle, hinfo⟩ := RT.hi
  obtain ⟨i, hi, hzz⟩ := Option.map_eq_some_iff.1 hinfo
  simp only [Prod.mk.injEq] at hzz
  obtain ⟨hz0, hs, hby⟩ := hzz
  have hzv : ∀ W, (zeroValue e).run P W = .ok (.int k 0) W := fun W => by
    unfold zeroValue typeInfo
    simp [Sem.run_bind, hi, hz0, Result.andThen]
  rcases h1.2 with ⟨e1, e2⟩ | ⟨g, cap, cur, e1, hB, hg, h4, h5, h6, h7⟩
  · injection e1 with e3 e4 e5
    omega
  · injection e1 with e3 e4 e5
    subst e3 e5
    have hd : dropA (some (⟨g, 0, none⟩ : Addr)) c j = some ⟨g, j, none⟩ := by
      unfold dropA
      rw [if_neg (by omega)]
      simp [Addr.add]
      omega
    rw [hd] at hx
    have hcell : ∀ q, q < n → (w.cell? ⟨g, j + 0 + q, none⟩).isSome = true := fun q hq => by
      rw [cell_of_row _ _ _ _ _ _ hg, Array.getElem?_eq_getElem (by omega)]; rfl
    have hfz : ∀ q, q < n → w.frozen? ⟨g, j + 0 + q, none⟩ = false := fun q _ => frozen_of_row w g _ _ _ hg
    have hzc : (Builtin.zeroCells (Value.int k 0).cells n).toList = List.replicate n (.int k 0) := by
      unfold Builtin.zeroCells
      apply List.ext_getElem
      · simp [Value.cells]
      · intro q h1' h2'
        simp [Value.cells, Nat.mod_one]
    have hst := run_storeCells_cells (P := P) g j (List.replicate n (.int k 0)) 0 w (by simpa using hcell) (by simpa using hfz) (fun v hv => by rw [List.eq_of_mem_replicate hv]; rfl)
    refine ⟨w.setCells g (j + 0) (List.replicate n (.int k 0)), ?_, ?_⟩
    · unfold execOp
      simp only [ho, resolve]
      rw [Sem.run_bind, Sem.run_pure, Result.andThen_ok]
      simp only [invoke, builtin, List.map_toArray, List.map_cons, List.map_nil, (fr.ev hx).1]
      rw [Sem.run_bind]
      unfold Builtin.clear_
      simp only [List.getElem?_toArray, List.getElem?_cons_zero, List.getElem?_cons_succ]
      rw [Sem.run_bind, run_underlying RT.ht, Result.andThen_ok]
      cases n with
      | zero => omega
      | succ n =>
        simp only
        rw [Sem.run_bind, hzv, Result.andThen_ok, hzc, Sem.run_bind, hst]
        rfl
    · obtain ⟨cur', q1, q2, q3, q4⟩ := row_setCells (e := e) g (List.replicate n (.int k 0)) (j + 0) w cur hg
      refine hk (A' := ownA k e (some ⟨g, 0, none⟩) c l) (F' := F) (G := fun b => b = g) ⟨⟨by simp, .inr ⟨g, c, cur', rfl, hB, q1, h4, h5, by omega, ?_⟩⟩, h2, h3⟩ q4 (fun b _ hb => (h3 b).2 (by rw [hb]; rfl)) fun b hb => .inl hb
      rw [q3 _ (by omega)]; exact h7
theorem wl_boxv {o : Oper} {rest : List Oper} {t : TypeId} {x : Operand} {d : Nat} {v : Value} (fr : FrD Df N a L) (hw : wantL ops L o = some true) (hd : o.dst = some d) (hlt : Nat.blt d N = true) (ho : o.op = .box t x) (hx : ev L x = some v) (hc : v.cells = #[v]) (S : Sat w0 w R)
    (h : ∀ w' b, Sat w0 w' (stA t b [v] :: R) → ∀ a', FrD Df N a' ((d, .pointer (some ⟨b, 0, none⟩)) :: L) → wpList P ops Q rest a' w') : wpList P ops Q (o :: rest) a w := by
  refine wl_val (v := .pointer (some ⟨w.heap.size, 0, none⟩)) (w' := w.alloc (.cells #[v] t)) fr hw hd hlt ?_ rfl (h _ _ ?_)
  · have e := (fr.ev hx).1
    unfold execOp
    simp only [ho, e]
    have hr : (Instr.box t v).run P w = .ok (.pointer (some ⟨w.heap.size, 0, none⟩)) (w.alloc (.cells v.cells t)) := rfl
    rw [Sem.run_bind, hr, hc]
    rfl
  · exact S.add (F := fun g => g = w.heap.size) ((Below.refl _ _).alloc (Nat.le_refl _) _) ⟨heap_alloc_new _ _, by rw [List.all_cons, List.all_nil, Bool.and_true]; exact (fr.ev hx).2, S.below.size, fun g => Iff.rfl⟩ fun g hg => Nat.le_of_eq hg.symm
theorem wl_makef {o : Oper} {rest : List Oper} {d : Nat} {g : FuncId} {cs : Array Operand} {xs : List Value} (fr : FrD Df N a L) (hw : wantL ops L o = some true) (hd : o.dst = some d) (hlt : Nat.blt d N = true) (ho : o.op = .makeFunc (.func g) #[] cs) (hx : evs L cs.toList = some xs)
    (h : ∀ a', FrD Df N a' ((d, .func (.func g) #[] xs.toArray) :: L) → wpList P ops Q rest a' w) : wpList P ops Q (o :: rest) a w := by
  refine wl_val (v := .func (.func g) #[] xs.toArray) fr hw hd hlt ?_ rfl h
  have e : cs.map a.eval = xs.toArray := by
    apply Array.toList_inj.1
    rw [Array.toList_map, (evs_run fr hx).1]
  unfold execOp
  simp only [ho, e]
  rw [Sem.run_bind, Array.map_empty]
  rfl
theorem wl_callc {o : Oper} {rest : List Oper} {d : Nat} {g : FuncId} {x : Operand} {xs : List Value} {lb : Array Value} {c : Call} {E : Ending → World → Prop} (fr : FrD Df N a L) (hw : wantL ops L o = some true) (hd : o.dst = some d) (hlt : Nat.blt d N = true) (ho : o.op = .call c) (hc : c.callee = .value x) (hx : ev L x = some (.func (.func g) #[] lb)) (hxs : evs L c.args.toList = some xs) (hin : Enters P g) (hcon : Calls P g (xs.toArray ++ lb) w E)
    (h : ∀ e w', E e w' → ∃ v, e = .returned v ∧ vok v = true ∧ ∀ a', FrD Df N a' ((d, v) :: L) → wpList P ops Q rest a' w') : wpList P ops Q (o :: rest) a w := by
  have e : c.args.map a.eval = xs.toArray := by
    apply Array.toList_inj.1
    rw [Array.toList_map, (evs_run fr hxs).1]
  have hrun : (execOp a.eval o).run P w = .ok (.enter g (xs.toArray ++ lb)) w := by
    unfold execOp
    simp only [ho, resolve, hc, (fr.ev hx).1, Deferred.ofValue]
    rw [Sem.run_bind, Sem.run_pure, Result.andThen_ok]
    simp only [invoke]
    have e3 := hin (xs.toArray ++ lb) w
    rw [← e] at e3 ⊢
    simpa using e3
  refine wl_op fr hw fun K hK => wp_call hrun (hcon.mono fun e' w' hR => ?_)
  obtain ⟨v, he, hv, hk⟩ := h e' w' hR
  exact ⟨v, he, hK _ _ (by rw [hd]; exact hk _ (fr.put (blt_lt hlt) hv))⟩
theorem wl_val0 {o : Oper} {rest : List Oper} {v : Value} {w' : World} (fr : FrD Df N a L) (hw : wantL ops L o = some true) (hd : o.dst = none) (hrun : (execOp a.eval o).run P w = .ok (.value v) w') (h : wpList P ops Q rest a w') : wpList P ops Q (o :: rest) a w :=
  wl_op fr hw fun K' hK => wp_value hrun (hK _ _ (by rw [hd]; exact h))
theorem dropq_run (hT : T.Ok P) {o : Oper} {t : TypeId} {x y : Operand} {A : Option Addr} {l : List Int} {n c e : Nat} {ki : IntKind} {i : Int} (fr : FrD Df N a L) (ho : o.op = .slice t x (some y) none none)
    (hx : ev L x = some (.slice A n c)) (hy : ev L y = some (.int ki i)) (ht : T.ty.lookup t = some (.slice e)) (hi : (P.info? e).map (·.size) = some 1) (hn : n = l.length) (hb : 0 ≤ i ∧ i ≤ (l.length : Int)) :
    (∀ w, (execOp a.eval o).run P w = .ok (.value (.slice (dropA A c i.toNat) (l.drop i.toNat).length (c - i.toNat))) w) ∧ vok (.slice (dropA A c i.toNat) (l.drop i.toNat).length (c - i.toNat)) = true := by
  subst hn
  have hv := (fr.ev hx).2
  have hv2 : l.length ≤ c ∧ c ≤ maxLen := by simpa [vok, vokC, vok1] using hv
  have hl : (l.drop i.toNat).length = l.length - i.toNat := List.length_drop
  rw [hl]
  refine ⟨fun w => slice_run hT fr ho hx (vlo := some (.int ki (i.toNat : Int))) (vhi := none) (vmx := none) (by rw [show ((i.toNat : Nat) : Int) = i by omega]; exact congrArg some (fr.ev hy).1) rfl rfl ht (sl_drop _ e ki (hT.und ht) hi A l.length c i.toNat (by omega)) w, vok_sl ⟨by omega, by omega⟩⟩
theorem wl_drop (hT : T.Ok P) {o : Oper} {rest : List Oper} {t : TypeId} {x y : Operand} {d : Nat} {A : Option Addr} {l : List Int} {n c e : Nat} {ki : IntKind} {i : Int} (fr : FrD Df N a L) (hw : wantL ops L o = some true) (ho : o.op = .slice t x (some y) none none) (hd : o.dst = some d) (hlt : Nat.blt d N = true)
    (hx : ev L x = some (.slice A n c)) (hy : ev L y = some (.int ki i)) (ht : T.ty.lookup t = some (.slice e)) (hi : (P.info? e).map (·.size) = some 1) (hn : n = l.length) (hb : 0 ≤ i ∧ i ≤ (l.length : Int))
    (h : ∀ a', FrD Df N a' ((d, .slice (dropA A c i.toNat) (l.drop i.toNat).length (c - i.toNat)) :: L) → wpList P ops Q rest a' w) : wpList P ops Q (o :: rest) a w :=
  wl_val fr hw hd hlt ((dropq_run hT fr ho hx hy ht hi hn hb).1 w) (dropq_run hT fr ho hx hy ht hi hn hb).2 h
theorem sl_dropq (hT : T.Ok P) {s : SOp} {rest : List Itm} {t : TypeId} {x y : Operand} {d : Nat} {A : Option Addr} {l : List Int} {n c e : Nat} {ki : IntKind} {i : Int} (fr : FrD Df N a L) (hw : wantS L s = some true) (hq : s.q = true) (ho : s.op = .slice t x (some y) none none) (hd : s.dst = some d) (hlt : Nat.blt d N = true)
    (hx : ev L x = some (.slice A n c)) (hy : ev L y = some (.int ki i)) (ht : T.ty.lookup t = some (.slice e)) (hi : (P.info? e).map (·.size) = some 1) (hn : n = l.length) (hb : 0 ≤ i ∧ i ≤ (l.length : Int))
    (h : ∀ a', FrD Df N a' ((d, .slice (dropA A c i.toNat) (l.drop i.toNat).length (c - i.toNat)) :: L) → SL P Q S' rest a' w) : SL P Q S' (.one s :: rest) a w :=
  sl_q fr hw hq hd hlt (fun w _ => (dropq_run hT fr (o := s.oper) ho hx hy ht hi hn hb).1 w) (dropq_run hT fr (o := s.oper) ho hx hy ht hi hn hb).2 h
theorem sl_takeq (hT : T.Ok P) {s : SOp} {rest : List Itm} {t : TypeId} {x y : Operand} {d : Nat} {A : Option Addr} {l : List Int} {n c e sz : Nat} {ki : IntKind} {i : Int} (fr : FrD Df N a L) (hw : wantS L s = some true) (hq : s.q = true) (ho : s.op = .slice t x none (some y) none) (hd : s.dst = some d) (hlt : Nat.blt d N = true)
    (hx : ev L x = some (.slice A n c)) (hy : ev L y = some (.int ki i)) (ht : T.ty.lookup t = some (.slice e)) (hs : T.sz.lookup e = some sz) (hn : n = l.length) (hb : 0 ≤ i ∧ i ≤ (l.length : Int))
    (h : ∀ a', FrD Df N a' ((d, .slice A (l.take i.toNat).length c) :: L) → SL P Q S' rest a' w) : SL P Q S' (.one s :: rest) a w := by
  subst hn
  have hv := (fr.ev hx).2
  have hv2 : l.length ≤ c ∧ c ≤ maxLen := by simpa [vok, vokC, vok1] using hv
  have hl : (l.take i.toNat).length = i.toNat := by rw [List.length_take]; omega
  exact sl_q fr hw hq hd hlt (fun w _ => take_run hT fr (o := s.oper) ho hx hy ht hs ⟨hb.1, by omega⟩ w) (vok_sl ⟨by omega, hv2.2⟩) fun a' fr' => h a' (by rw [hl]; exact fr')
end
end Go.Proofs.YticnjkdaccacaaaGreatDoor.Sx
end
section
namespace Go.Proofs.YticnjkdaccacaaaGreatDoor.Sx
open Go Go.RowKit Base _root_.Go.Proofs.YticnjkdaccacaaaGreatDoor.Own TwinBytes
def twbA (A : Option Addr) (c : Nat) (l : List Int) : Asn := ownA .u8 5 A c (l ++ [77])
section
variable {w0 w : World} {R M : List Asn} {A A' : Option Addr} {c c' : Nat} {l : List Int}
theorem Sat.twbAt (S : Sat w0 w M) (i : Nat) (hi : M[i]? = some (twbA A c l)) : Rk .u8 w A l := by
  have h := (Sat.ownAt S i hi).take l.length
  rwa [List.take_left] at h
theorem Sat.twbOwn (S : Sat w0 w (twbA A c l :: R)) : Sat w0 w (ownA .u8 5 A c l :: R) := by
  obtain ⟨F, ⟨h1, h2, h3⟩, hF, hk⟩ := S.opened
  have hlen : (l ++ [77]).length = l.length + 1 := by simp
  refine hk (A' := ownA .u8 5 A c l) (F' := F) (G := fun _ => False) ⟨?_, fun z hz => h2 z (List.mem_append_left _ hz), fun g => ?_⟩ (Chg.refl _ _) (fun _ _ h => h.elim) fun g hg => .inl hg
  · rcases h1.2 with ⟨e1, e2⟩ | ⟨g, cap, cur, e1, hB, hg, h4, h5, h6, h7⟩
    · rw [hlen] at e2; omega
    · injection e1 with e3 e4 e5
      subst e3 e5
      refine ⟨by simp, .inr ⟨g, c, cur, rfl, hB, hg, by rw [hlen] at h4; omega, h5, h6, ?_⟩⟩
      have h8 := congrArg (List.take l.length) h7
      rw [List.take_take, hlen, List.map_append] at h8
      rw [show min l.length ((l.length + 1) * 1) = l.length by omega, List.take_left' (by simp)] at h8
      rw [Nat.mul_one]; exact h8
  · rw [h3 g]
    cases A <;> simp [Value.ownBlock]
theorem twb_of (S : Sat w0 w (twbA A c l :: R)) : Twn w w0.heap.size (.slice A l.length c) l := by
  obtain ⟨F, ⟨h1, h2, h3⟩, hF, hk⟩ := S.opened
  obtain ⟨g, c2, e⟩ := h1.ptr (by simp)
  injection e with e1 e2 e3
  subst e1
  refine ⟨g, c, rfl, ?_⟩
  have hlen : (l ++ [77]).length = l.length + 1 := by simp
  rw [hlen] at h1
  exact h1
theorem twinb_call (hr : Rk .u8 w A l) (hl : l.length ≤ 100000000000) (S : Sat w0 w R) : Calls Tryz.prog 11 #[.slice A l.length c] w fun e w' => ∃ A' c', e = .returned (.slice A' l.length c') ∧ vok (.slice A' l.length c') = true ∧ Sat w0 w' (twbA A' c' l :: R) := by
  refine (twin A c l w hl hr.rd).mono ?_
  rintro e w' ⟨v, rfl, ⟨g, c', rfl, h2⟩, h3⟩
  have hlen : (l ++ [77]).length = l.length + 1 := by simp
  rw [← hlen] at h2
  obtain ⟨A2, c2, e2, h5, h6⟩ := S.row h3 h2 (fun z hz => by
    rcases List.mem_append.1 hz with hz | hz
    · exact hr.wf z hz
    · rw [List.mem_singleton] at hz; subst hz; decide)
  injection e2 with q1 q2 q3
  subst q1 q3
  obtain ⟨F, hF⟩ := h6.hd
  have hm := h6.own
  rw [hlen] at hm
  exact ⟨_, _, rfl, vok_sl ⟨by omega, hm.2.2⟩, h6⟩
theorem leftb_call (hr : Rk .u8 w A' l) (hl : l.length ≤ 100000000000) (S : Sat w0 w (twbA A c l :: R)) : Calls Tryz.prog 25 #[.slice A l.length c, .slice A' l.length c'] w fun e w' => e = .returned (.bool true) ∧ Sat w0 w' (twbA A c l :: R) := by
  refine (left _ A' c' _ l w hl (twb_of S) hr.rd).mono ?_
  rintro e w' ⟨rfl, h⟩
  exact ⟨rfl, S.new h⟩
end
end Go.Proofs.YticnjkdaccacaaaGreatDoor.Sx
end
section
namespace Go.Proofs.YticnjkdaccacaaaGreatDoor.Crc
open Go
def Bt (l : List Int) : Prop := ∀ x ∈ l, 0 ≤ x ∧ x < 256
def le : List Int → BitVec 32
  | [] => 0#32
  | y :: l => by32 y ^^^ (le l <<< 8)
theorem shl_toNat (x : BitVec 32) (h : x.toNat < 2 ^ 24) : (x <<< 8).toNat = x.toNat * 256 := by
  rw [BitVec.toNat_shiftLeft, Nat.shiftLeft_eq]
  omega
theorem shl_shr (x : BitVec 32) (h : x.toNat < 2 ^ 24) : (x <<< 8) >>> 8 = x := by
  apply BitVec.eq_of_toNat_eq
  rw [BitVec.toNat_ushiftRight, shl_toNat x h, Nat.shiftRight_eq_div_pow]
  omega
theorem shl_low (x : BitVec 32) (i : Nat) (h : i < 8) : (x <<< 8).getLsbD i = false := by
  rw [BitVec.getLsbD_shiftLeft]; simp [h]
theorem le_lt : ∀ (l : List Int), Bt l → l.length ≤ 4 → (le l).toNat < 2 ^ (8 * l.length) := by
  intro l
  induction l with
  | nil => intro _ _; simp [le]
  | cons y l ih =>
    intro hb hl
    simp only [List.length_cons] at hl ⊢
    have h1 := ih (fun x hx => hb x (List.mem_cons_of_mem _ hx)) (by omega)
    have hy := hb y (List.mem_cons_self)
    have h2 : (le l).toNat < 2 ^ 24 := Nat.lt_of_lt_of_le h1 (Nat.pow_le_pow_right (by omega) (by omega))
    unfold le
    rw [BitVec.toNat_xor, shl_toNat _ h2, by32_toNat hy.1 hy.2]
    refine Nat.xor_lt_two_pow ?_ ?_
    · refine Nat.lt_of_lt_of_le (m := 2 ^ 8) (by omega) (Nat.pow_le_pow_right (by omega) (by omega))
    · have h3 : 2 ^ (8 * (l.length + 1)) = 2 ^ (8 * l.length) * 256 := by rw [Nat.mul_add, Nat.pow_add]
      rw [h3]; omega
theorem stps8_shl (x : BitVec 32) (h : x.toNat < 2 ^ 24) : stps 8 (x <<< 8) = x := by
  rw [stps_shift 8 _ (fun i hi => shl_low x i hi), shl_shr x h]
theorem raw_le : ∀ (l : List Int), Bt l → l.length ≤ 4 → ∀ s, raw s l = stps (8 * l.length) (s ^^^ le l) := by
  intro l
  induction l with
  | nil => intro _ _ s; simp [raw, le, stps]
  | cons y l ih =>
    intro hb hl s
    simp only [List.length_cons] at hl
    have hb' : Bt l := fun x hx => hb x (List.mem_cons_of_mem _ hx)
    have h1 := le_lt l hb' (by omega)
    have h2 : (le l).toNat < 2 ^ 24 := Nat.lt_of_lt_of_le h1 (Nat.pow_le_pow_right (by omega) (by omega))
    show raw (byt s y) l = _
    rw [ih hb' (by omega), List.length_cons, show 8 * (l.length + 1) = 8 + 8 * l.length by omega, stps_add]
    congr 1
    have hle : le (y :: l) = by32 y ^^^ (le l <<< 8) := rfl
    rw [hle]
    unfold byt
    rw [show s ^^^ (by32 y ^^^ le l <<< 8) = (s ^^^ by32 y) ^^^ (le l <<< 8) by rw [BitVec.xor_assoc], stps_xor 8 (s ^^^ by32 y), stps8_shl _ h2]
theorem le_inj : ∀ (l m : List Int), Bt l → Bt m → l.length = m.length → l.length ≤ 4 → le l = le m → l = m := by
  intro l
  induction l with
  | nil => intro m _ _ h _ _; exact (List.eq_nil_of_length_eq_zero h.symm).symm
  | cons y l ih =>
    intro m hl hm h h4 e
    cases m with
    | nil => simp at h
    | cons z m =>
      simp only [List.length_cons] at h h4
      have bl : Bt l := fun x hx => hl x (List.mem_cons_of_mem _ hx)
      have bm : Bt m := fun x hx => hm x (List.mem_cons_of_mem _ hx)
      have hy := hl y (List.mem_cons_self)
      have hz := hm z (List.mem_cons_self)
      have l3 : (le l).toNat < 2 ^ 24 := Nat.lt_of_lt_of_le (le_lt l bl (by omega)) (Nat.pow_le_pow_right (by omega) (by omega))
      have m3 : (le m).toNat < 2 ^ 24 := Nat.lt_of_lt_of_le (le_lt m bm (by omega)) (Nat.pow_le_pow_right (by omega) (by omega))
      unfold le at e
      have hz8 : ∀ (x : BitVec 32) (y : Int), 0 ≤ y → y < 256 → x.toNat < 2 ^ 24 → (by32 y ^^^ x <<< 8) >>> 8 = x := by
        intro x y h0 h1 h2
        rw [BitVec.ushiftRight_xor_distrib, shl_shr x h2]
        have : by32 y >>> 8 = 0#32 := by
          apply BitVec.eq_of_toNat_eq
          rw [BitVec.toNat_ushiftRight, by32_toNat h0 h1, Nat.shiftRight_eq_div_pow]
          show y.toNat / 256 = 0
          omega
        rw [this, BitVec.zero_xor]
      have e2 : le l = le m := by
        have := congrArg (fun x : BitVec 32 => x >>> 8) e
        rwa [hz8 _ _ hy.1 hy.2 l3, hz8 _ _ hz.1 hz.2 m3] at this
      have e1 : by32 y = by32 z := by rw [e2] at e; exact (BitVec.xor_left_inj _).1 e
      have e3 : y = z := by
        have := congrArg BitVec.toNat e1
        rw [by32_toNat hy.1 hy.2, by32_toNat hz.1 hz.2] at this
        omega
      rw [e3, ih m bl bm (by omega) (by omega) e2]
theorem on_four (s : BitVec 32) (l m : List Int) (hl : Bt l) (hm : Bt m) (h : l.length = m.length) (h4 : l.length ≤ 4) : (num (on s l) == num (on s m)) = decide (l = m) := by
  rw [Bool.eq_iff_iff, beq_iff_eq, decide_eq_true_iff]
  constructor
  · intro e
    have e := num_inj e
    have h2 := congrArg (fun x : BitVec 32 => ~~~ x) e
    simp only [on, BitVec.not_not] at h2
    rw [raw_le l hl h4, raw_le m hm (by omega), h] at h2
    have h3 := stps_inj _ h2
    rw [BitVec.xor_right_inj] at h3
    exact le_inj l m hl hm h h4 h3
  · rintro rfl; rfl
theorem by32_mod (n : BitVec 32) : by32 (num n % 256) = n &&& 255#32 := by
  apply BitVec.eq_of_toNat_eq
  have h8 : ∀ a : Nat, a &&& 255 = a % 256 := nat_mask8
  have e : num n % 256 = ((n.toNat % 256 : Nat) : Int) := by unfold num; omega
  rw [e, by32_toNat (by omega) (by have := Nat.mod_lt n.toNat (show 0 < 256 by omega); omega), BitVec.toNat_and]
  show _ = n.toNat &&& 255
  rw [h8]; omega
theorem split_shl (n : BitVec 32) : (n &&& 255#32) ^^^ ((n >>> 8) <<< 8) = n := by
  apply BitVec.eq_of_getLsbD_eq
  intro i hi
  rw [BitVec.getLsbD_xor, BitVec.getLsbD_and, low_255, BitVec.getLsbD_shiftLeft, BitVec.getLsbD_ushiftRight]
  by_cases h : i < 8
  · simp [h]
  · simp [h, hi, show 8 + (i - 8) = i by omega]
theorem num_shr (a : BitVec 32) (k : Nat) : num a / ((2 ^ k : Nat) : Int) = num (a >>> k) := by
  unfold num; rw [BitVec.toNat_ushiftRight, Nat.shiftRight_eq_div_pow]; rfl
theorem le_bytes (n : BitVec 32) : le [num n % 256, num n / 256 % 256, num n / 65536 % 256, num n / 16777216 % 256] = n := by
  have e1 : num n / (256 : Int) = num (n >>> 8) := num_shr n 8
  have e2 : num n / (65536 : Int) = num (n >>> 16) := num_shr n 16
  have e3 : num n / (16777216 : Int) = num (n >>> 24) := num_shr n 24
  simp only [le]
  rw [e1, e2, e3, by32_mod, by32_mod, by32_mod, by32_mod]
  have s1 : n >>> 16 = (n >>> 8) >>> 8 := by rw [← BitVec.shiftRight_add]
  have s2 : n >>> 24 = (n >>> 16) >>> 8 := by rw [← BitVec.shiftRight_add]
  have t : (n >>> 24) &&& 255#32 = n >>> 24 := by
    apply BitVec.eq_of_getLsbD_eq
    intro i hi
    rw [BitVec.getLsbD_and, low_255, BitVec.getLsbD_ushiftRight]
    by_cases h : i < 8
    · simp [h]
    · rw [BitVec.getLsbD_of_ge n _ (by omega)]; simp
  rw [t]
  simp only [BitVec.zero_shiftLeft, BitVec.xor_zero]
  rw [s2, split_shl, s1, split_shl, split_shl]
theorem on_sealed (b : List Int) : num (on 0#32 (b ++ [num (on 0#32 b) % 256, num (on 0#32 b) / 256 % 256, num (on 0#32 b) / 65536 % 256, num (on 0#32 b) / 16777216 % 256])) = 558161692 := by
  have hr := num_range (on 0#32 b)
  rw [on_append]
  generalize on 0#32 b = n at hr ⊢
  have hb : Bt [num n % 256, num n / 256 % 256, num n / 65536 % 256, num n / 16777216 % 256] := by
    intro x hx
    simp only [List.mem_cons, List.not_mem_nil, or_false] at hx
    rcases hx with rfl | rfl | rfl | rfl <;> omega
  unfold on
  rw [raw_le _ hb (by simp), le_bytes]
  have : ~~~ n ^^^ n = BitVec.allOnes 32 := by
    apply BitVec.eq_of_getLsbD_eq
    intro i hi
    rw [BitVec.getLsbD_xor, BitVec.getLsbD_not, BitVec.getLsbD_allOnes]
    cases n.getLsbD i <;> simp [hi]
  rw [this]
  simp only [List.length_cons, List.length_nil]
  decide +kernel
theorem raw_lin (l : List Int) : ∀ a d, raw (a ^^^ d) l = raw a l ^^^ stps (8 * l.length) d := by
  induction l with
  | nil => intro a d; rfl
  | cons y l ih =>
    intro a d
    show raw (byt (a ^^^ d) y) l = raw (byt a y) l ^^^ _
    have : byt (a ^^^ d) y = byt a y ^^^ stps 8 d := by
      unfold byt
      rw [show a ^^^ d ^^^ by32 y = (a ^^^ by32 y) ^^^ d by ac_rfl, stps_xor]
    rw [this, ih, List.length_cons, show 8 * (l.length + 1) = 8 + 8 * l.length by omega, stps_add]
theorem stps_zero (k : Nat) : stps k 0#32 = 0#32 := by
  induction k with
  | zero => rfl
  | succ k ih => show stps k (stp 0#32) = _; rw [stp_zero, ih]
theorem one_shl (k : Nat) (h : k < 32) : stps k (1#32 <<< k) = 1#32 := by
  rw [stps_shift k]
  · apply BitVec.eq_of_getLsbD_eq
    intro i hi
    rw [BitVec.getLsbD_ushiftRight, BitVec.getLsbD_shiftLeft, BitVec.getLsbD_one, BitVec.getLsbD_one]
    by_cases e : i = 0
    · subst e; simp [h]
    · simp [e]
  · intro i hi
    rw [BitVec.getLsbD_shiftLeft]; simp [hi]
theorem stps_one (M k : Nat) (h : k < 32) (hM : k ≤ M) : stps M (1#32 <<< k) = stps (M - k) 1#32 := by
  rw [show M = k + (M - k) by omega, stps_add, one_shl k h, show k + (M - k) - k = M - k by omega]
theorem by32_xor {x y : Int} (h0 : 0 ≤ x) (h1 : x < 256) (h2 : 0 ≤ y) (h3 : y < 256) : by32 (bits .xor .u8 x y) = by32 x ^^^ by32 y := by
  apply BitVec.eq_of_toNat_eq
  rw [u8_xor x y h0 h1 h2 h3, BitVec.toNat_xor, by32_toNat h0 h1, by32_toNat h2 h3]
  have : x.toNat ^^^ y.toNat < 2 ^ 8 := Nat.xor_lt_two_pow (by omega) (by omega)
  rw [by32_toNat (by omega) (by omega)]; omega
theorem by32_pow (t : Nat) (h : t < 8) : by32 ((2 ^ t : Nat) : Int) = 1#32 <<< t := by
  have : ∀ t : Fin 8, by32 ((2 ^ t.val : Nat) : Int) = 1#32 <<< t.val := by decide
  exact this ⟨t, h⟩
theorem raw_turn (t : Nat) (ht : t < 8) : ∀ (l : List Int) (j : Nat) (n : BitVec 32), Bt l → j < l.length →
    raw n (l.set j (bits .xor .u8 (l.getD j 0) ((2 ^ t : Nat) : Int))) = raw n l ^^^ stps (8 * (l.length - j) - t) 1#32 := by
  intro l
  induction l with
  | nil => intro j n _ h; simp at h
  | cons y l ih =>
    intro j n hb hj
    have hy := hb y (List.mem_cons_self)
    have hb' : Bt l := fun x hx => hb x (List.mem_cons_of_mem _ hx)
    cases j with
    | zero =>
      have hp : (2 ^ t : Nat) < 256 := by
        have := Nat.pow_lt_pow_right (a := 2) (by omega) ht
        simpa using this
      have hp0 : (0 : Int) ≤ ((2 ^ t : Nat) : Int) := Int.natCast_nonneg _
      have hp1 : ((2 ^ t : Nat) : Int) < 256 := Int.ofNat_lt.2 hp
      show raw (byt n (bits .xor .u8 y ((2 ^ t : Nat) : Int))) l = raw (byt n y) l ^^^ _
      have : byt n (bits .xor .u8 y ((2 ^ t : Nat) : Int)) = byt n y ^^^ stps (8 - t) 1#32 := by
        unfold byt
        rw [by32_xor hy.1 hy.2 hp0 hp1, by32_pow t ht, ← BitVec.xor_assoc, stps_xor, stps_one 8 t (by omega) (by omega)]
      rw [this, raw_lin, ← stps_add, List.length_cons]
      congr 2
      omega
    | succ j =>
      simp only [List.length_cons] at hj
      show raw (byt n y) (l.set j (bits .xor .u8 (l.getD j 0) ((2 ^ t : Nat) : Int))) = raw (byt n y) l ^^^ _
      rw [ih j _ hb' (by omega), List.length_cons]
      congr 3
      omega
theorem bit_walk (S : BitVec 32) (k : Nat) : (bits .and .u32 (num S / 2 ^ k) 1 == 1) = S.getLsbD k := by
  have e : num S / (2 : Int) ^ k = num (S >>> k) := by
    rw [← num_shr S k]; congr 1
  rw [e, one_num, bits_and]
  have h : ∀ c : Bool, ((S >>> k) &&& 1#32) = (if c then 1#32 else 0#32) → (num ((S >>> k) &&& 1#32) == num 1#32) = c := by
    intro c hc
    rw [hc]
    cases c <;> decide
  refine h _ ?_
  apply BitVec.eq_of_getLsbD_eq
  intro i hi
  rw [BitVec.getLsbD_and, BitVec.getLsbD_one, BitVec.getLsbD_ushiftRight]
  by_cases e : i = 0
  · subst e
    cases hs : S.getLsbD k <;> simp [hs]
  · cases hs : S.getLsbD k <;> simp [e]
def low (b : BitVec 32) (k : Nat) : BitVec 32 := b &&& (BitVec.ofNat 32 (2 ^ k - 1))
theorem mask_bit (k i : Nat) (hi : i < 32) : (BitVec.ofNat 32 (2 ^ k - 1)).getLsbD i = decide (i < k) := by
  rw [BitVec.getLsbD_ofNat]
  simp [hi, Nat.testBit_two_pow_sub_one]
theorem low_zero (b : BitVec 32) : low b 0 = 0#32 := by unfold low; simp
theorem low_succ (b : BitVec 32) (k : Nat) (hk : k < 32) : low b (k + 1) = low b k ^^^ (if b.getLsbD k then 1#32 <<< k else 0#32) := by
  apply BitVec.eq_of_getLsbD_eq
  intro i hi
  unfold low
  rw [BitVec.getLsbD_and, mask_bit _ _ hi, BitVec.getLsbD_xor, BitVec.getLsbD_and, mask_bit _ _ hi]
  by_cases e : i = k
  · subst e
    cases hb : b.getLsbD i with
    | true => simp [BitVec.getLsbD_shiftLeft, hi]
    | false => simp
  · have h1 : decide (i < k + 1) = decide (i < k) := by
      by_cases h : i < k
      · simp [h, show i < k + 1 by omega]
      · simp [h, show ¬ i < k + 1 by omega]
    rw [h1]
    cases hb : b.getLsbD k with
    | true =>
      have : (1#32 <<< k).getLsbD i = false := by
        rw [BitVec.getLsbD_shiftLeft, BitVec.getLsbD_one]
        by_cases h : i < k
        · simp [h]
        · simp [show i - k ≠ 0 by omega]
      simp [this]
    | false => simp
theorem low_ne (b : BitVec 32) (k : Nat) (hk : 0 < k) (hb : b.getLsbD 0 = true) : low b k ≠ 0#32 := by
  intro h
  have : (low b k).getLsbD 0 = false := by rw [h]; simp
  unfold low at this
  rw [BitVec.getLsbD_and, mask_bit _ _ (by omega), hb] at this
  simp at this
  omega
theorem pow_mod (t : Nat) (h : t < 8) : (2 : Int) ^ t % 256 = ((2 ^ t : Nat) : Int) := by
  have : ∀ t : Fin 8, (2 : Int) ^ t.val % 256 = ((2 ^ t.val : Nat) : Int) := by decide
  exact this ⟨t, h⟩
theorem turn_step (b l : List Int) (S : BitVec 32) (L F k : Nat) (hl : l.length = L) (hb : Bt l) (hk : k < 32) (hF : F + k < 8 * L) (hS : S.getLsbD k = true) (h : raw (~~~ 0#32) l = raw (~~~ 0#32) b ^^^ stps (8 * L - F) (low S k)) :
    raw (~~~ 0#32) (l.set ((F + k) / 8) (bits .xor .u8 (l.getD ((F + k) / 8) 0) ((2 : Int) ^ ((F + k) % 8) % 256))) = raw (~~~ 0#32) b ^^^ stps (8 * L - F) (low S (k + 1)) := by
  rw [pow_mod _ (Nat.mod_lt _ (by omega)), raw_turn _ (Nat.mod_lt _ (by omega)) l _ _ hb (by omega), h, low_succ S k hk, hS, if_pos rfl, stps_xor, stps_one _ k hk (by omega), BitVec.xor_assoc]
  congr 3
  omega
theorem turn_skip (b l : List Int) (S : BitVec 32) (M k : Nat) (hk : k < 32) (hS : S.getLsbD k = false) (h : raw (~~~ 0#32) l = raw (~~~ 0#32) b ^^^ stps M (low S k)) : raw (~~~ 0#32) l = raw (~~~ 0#32) b ^^^ stps M (low S (k + 1)) := by
  rw [h, low_succ S k hk, hS]; simp
theorem turn_end (b l : List Int) (S : BitVec 32) (M k : Nat) (hk : 0 < k) (hS : S.getLsbD 0 = true) (h : raw (~~~ 0#32) l = raw (~~~ 0#32) b ^^^ stps M (low S k)) : (num (on 0#32 l) != num (on 0#32 b)) = true := by
  rw [bne_iff_ne]
  intro e
  have e := num_inj e
  have h2 := congrArg (fun x : BitVec 32 => ~~~ x) e
  simp only [on, BitVec.not_not] at h2
  rw [h] at h2
  have h3 : stps M (low S k) = 0#32 := by
    have := congrArg (fun x => raw (~~~ 0#32) b ^^^ x) h2
    simp only [← BitVec.xor_assoc, BitVec.xor_self, BitVec.zero_xor] at this
    exact this
  exact low_ne S k hk hS (stps_inj0 M _ h3)
theorem bt_set {l : List Int} (h : Bt l) {j : Nat} {t : Nat} (hj : j < l.length) (ht : t < 8) : Bt (l.set j (bits .xor .u8 (l.getD j 0) ((2 : Int) ^ t % 256))) := by
  intro x hx
  rcases List.mem_or_eq_of_mem_set hx with h1 | rfl
  · exact h x h1
  · have h2 : 0 ≤ l.getD j 0 ∧ l.getD j 0 < 256 := by
      rw [List.getD_eq_getElem?_getD, List.getElem?_eq_getElem hj]; exact h _ (List.getElem_mem hj)
    have hp : (2 ^ t : Nat) < 256 := by
      have := Nat.pow_lt_pow_right (a := 2) (by omega) ht
      simpa using this
    rw [pow_mod t ht, u8_xor _ _ h2.1 h2.2 (Int.natCast_nonneg _) (Int.ofNat_lt.2 hp)]
    have h3 : ((l.getD j 0).toNat ^^^ ((2 ^ t : Nat) : Int).toNat) < 2 ^ 8 := Nat.xor_lt_two_pow (by omega) (by rw [Int.toNat_natCast]; exact hp)
    omega
theorem sub_walk (x : BitVec 32) : (4294967295 - num x) % 4294967296 = num (~~~ x) := by
  have := x.isLt
  unfold num; rw [BitVec.toNat_not]; omega
theorem sub_walk' (x : BitVec 32) : 4294967295 - num x = num (~~~ x) := by
  have := x.isLt
  unfold num; rw [BitVec.toNat_not]; omega
theorem mod_walk (x : BitVec 32) : num x % 4294967296 = num x := by
  have := num_range x
  omega
theorem odd_walk (x : BitVec 32) : (num x % 2 == 1) = x.getLsbD 0 := by
  have h := bit_walk x 0
  rw [Int.pow_zero, Int.ediv_one] at h
  rw [← h]
  congr 1
  obtain ⟨a0, a1⟩ := num_range x
  have h1 : num x = ((num x).toNat : Int) := by omega
  rw [h1, show (1 : Int) = ((1 : Nat) : Int) from rfl, u32_and_nat _ _ (by omega) (by omega), nat_mask1]
  omega
theorem half_odd (x : BitVec 32) (h : x.getLsbD 0 = true) : bits .xor .u32 (num x / (2 : Int)) 3988292384 = num (stp x) := by
  rw [num_shr1, poly_num, bits_xor, stp_bit, if_pos h]
theorem half_even (x : BitVec 32) (h : x.getLsbD 0 = false) : num x / (2 : Int) = num (stp x) := by
  rw [num_shr1, stp_bit, h]; simp
theorem tdiv_num (x : BitVec 32) : Int.tdiv (num x) 2 % 4294967296 = num x / 2 := by
  obtain ⟨a0, a1⟩ := num_range x
  rw [Int.tdiv_eq_ediv_of_nonneg a0]; omega
theorem odd_walk_t (x : BitVec 32) : (Int.tmod (num x) 2 == 1) = x.getLsbD 0 := by
  obtain ⟨a0, a1⟩ := num_range x
  rw [Int.tmod_eq_emod_of_nonneg a0, odd_walk]
theorem half_odd_t (x : BitVec 32) (h : x.getLsbD 0 = true) : bits .xor .u32 (Int.tdiv (num x) 2 % 4294967296) 3988292384 = num (stp x) := by
  rw [tdiv_num, half_odd x h]
theorem half_even_t (x : BitVec 32) (h : x.getLsbD 0 = false) : Int.tdiv (num x) 2 % 4294967296 = num (stp x) := by
  rw [tdiv_num, half_even x h]
theorem xor_walk (x : BitVec 32) (y : Int) (h0 : 0 ≤ y) (h1 : y < 256) : bits .xor .u32 (num x) y = num (x ^^^ by32 y) := by
  have : y = num (by32 y) := by unfold num; rw [by32_toNat h0 h1]; omega
  rw [this, bits_xor]; congr 2; unfold by32 num; rw [BitVec.ofInt_natCast, BitVec.ofNat_toNat, BitVec.setWidth_eq]
def xor8 (x y : Int) : Int := bits .xor .u8 x y
theorem raw_xor2 : ∀ (a b : List Int), a.length = b.length → Bt a → Bt b → ∀ m n, raw (m ^^^ n) (List.zipWith xor8 a b) = raw m a ^^^ raw n b := by
  intro a
  induction a with
  | nil => intro b h _ _ m n; obtain rfl := List.eq_nil_of_length_eq_zero h.symm; rfl
  | cons x a ih =>
    intro b h ha hb m n
    cases b with
    | nil => simp at h
    | cons y b =>
      have hx := ha x (List.mem_cons_self)
      have hy := hb y (List.mem_cons_self)
      show raw (byt (m ^^^ n) (xor8 x y)) (List.zipWith xor8 a b) = raw (byt m x) a ^^^ raw (byt n y) b
      rw [← ih b (by simpa using h) (fun z hz => ha z (List.mem_cons_of_mem _ hz)) (fun z hz => hb z (List.mem_cons_of_mem _ hz))]
      congr 1
      unfold byt xor8
      rw [by32_xor hx.1 hx.2 hy.1 hy.2, ← stps_xor]
      congr 1
      ac_rfl
theorem xor8_range {x y : Int} (h0 : 0 ≤ x) (h1 : x < 256) (h2 : 0 ≤ y) (h3 : y < 256) : 0 ≤ xor8 x y ∧ xor8 x y < 256 := by
  unfold xor8
  rw [u8_xor x y h0 h1 h2 h3]
  have : x.toNat ^^^ y.toNat < 2 ^ 8 := Nat.xor_lt_two_pow (by omega) (by omega)
  omega
theorem xor8_bt : ∀ (a b : List Int), Bt a → Bt b → Bt (List.zipWith xor8 a b) := by
  intro a
  induction a with
  | nil => intro b _ _ x hx; simp at hx
  | cons x a ih =>
    intro b ha hb z hz
    cases b with
    | nil => simp at hz
    | cons y b =>
      simp only [List.zipWith_cons_cons, List.mem_cons] at hz
      rcases hz with rfl | hz
      · exact xor8_range (ha x (List.mem_cons_self)).1 (ha x (List.mem_cons_self)).2 (hb y (List.mem_cons_self)).1 (hb y (List.mem_cons_self)).2
      · exact ih b (fun z hz => ha z (List.mem_cons_of_mem _ hz)) (fun z hz => hb z (List.mem_cons_of_mem _ hz)) z hz
theorem on_three (a b c : List Int) (h1 : a.length = b.length) (h2 : a.length = c.length) (ha : Bt a) (hb : Bt b) (hc : Bt c) :
    on 0#32 a ^^^ on 0#32 b ^^^ on 0#32 c = on 0#32 (List.zipWith xor8 (List.zipWith xor8 a b) c) := by
  unfold on
  have e : raw (~~~ 0#32) (List.zipWith xor8 (List.zipWith xor8 a b) c) = raw (~~~ 0#32) a ^^^ raw (~~~ 0#32) b ^^^ raw (~~~ 0#32) c := by
    have h3 : ~~~ (0#32) = 0#32 ^^^ (~~~ 0#32) := by decide
    have h4 : (0#32) = (~~~ 0#32) ^^^ (~~~ 0#32) := by decide
    rw [show raw (~~~ 0#32) (List.zipWith xor8 (List.zipWith xor8 a b) c) = raw (0#32 ^^^ (~~~ 0#32)) (List.zipWith xor8 (List.zipWith xor8 a b) c) by rw [← h3], raw_xor2 _ c (by simp; omega) (xor8_bt a b ha hb) hc]
    rw [show raw 0#32 (List.zipWith xor8 a b) = raw ((~~~ 0#32) ^^^ (~~~ 0#32)) (List.zipWith xor8 a b) by rw [← h4], raw_xor2 a b h1 ha hb]
  rw [e]
  generalize raw (~~~ 0#32) a = x
  generalize raw (~~~ 0#32) b = y
  generalize raw (~~~ 0#32) c = z
  apply BitVec.eq_of_getLsbD_eq
  intro i hi
  simp only [BitVec.getLsbD_xor, BitVec.getLsbD_not, hi, decide_true, Bool.true_and]
  cases x.getLsbD i <;> cases y.getLsbD i <;> cases z.getLsbD i <;> rfl
theorem on_inj (s o : BitVec 32) (l : List Int) : (num (on s l) == num (on o l)) = (num s == num o) := by
  rw [Bool.eq_iff_iff, beq_iff_eq, beq_iff_eq]
  constructor
  · intro e
    have e := num_inj e
    have h2 := congrArg (fun x : BitVec 32 => ~~~ x) e
    simp only [on, BitVec.not_not] at h2
    have h3 := raw_lin l (~~~ s) (~~~ s ^^^ ~~~ o)
    rw [show ~~~ s ^^^ (~~~ s ^^^ ~~~ o) = ~~~ o by rw [← BitVec.xor_assoc, BitVec.xor_self, BitVec.zero_xor], ← h2] at h3
    have h4 : stps (8 * l.length) (~~~ s ^^^ ~~~ o) = 0#32 := by
      have := congrArg (fun x => raw (~~~ s) l ^^^ x) h3
      simp only [← BitVec.xor_assoc, BitVec.xor_self, BitVec.zero_xor] at this
      exact this.symm
    have h5 := xor_eq_zero.1 (stps_inj0 _ _ h4)
    have h6 := congrArg (fun x : BitVec 32 => ~~~ x) h5
    simp only [BitVec.not_not] at h6
    rw [h6]
  · intro e; rw [num_inj e]
end Go.Proofs.YticnjkdaccacaaaGreatDoor.Crc
end
section
namespace Go.Proofs.YticnjkdaccacaaaGreatDoor.Ref03
open Go.RowKit Crc Sums Base _root_.Go.Proofs.YticnjkdaccacaaaGreatDoor.Own
set_option maxRecDepth 100000 in
theorem on_any (s : BitVec 32) (A : Option Addr) (c : Nat) (l : List Int) (w : World) (hl : l.length ≤ 9223372036854775807) (hb : Bts l) (hr : Rd .u8 w A l) :
    Calls Tryz.prog 251 #[.int .u32 (num s), .slice A l.length c] w fun e w' => e = .returned (.int .u32 (num (on s l))) ∧ w = w' := by
  have HB := Lib.hid hb
  have HR := Lib.hid hr
  clear hb hr
  have hs0 := (num_range s).1
  have hs1 := (num_range s).2
  go_enter Tryz.func251, Tryz.ntmps251
  go_wp2
  go_loop [5, 6] (fun v i => ∃ (k : Nat) (x : BitVec 32), k ≤ l.length ∧ i = .int .i64 k ∧ v = .int .u32 (num x) ∧ Hid (x = raw (~~~ s) (l.take k))) (fun _ i => l.length - (intOf i).toNat)
  case atStart => exact ⟨0, ~~~ s, by omega, rfl, by rw [sub_walk'], rfl⟩
  case round =>
    obtain ⟨k, x, hk, rfl, rfl, hx⟩ := hrel
    have hx0 := (num_range x).1
    have hx1 := (num_range x).2
    by_cases hlt : k < l.length
    · obtain ⟨ad, e, hb, hcell⟩ := HR.out.cell hlt
      subst e
      obtain ⟨y, hy⟩ : ∃ y, y = l.getD k 0 := ⟨_, rfl⟩
      rw [← hy] at hcell
      have hyr : 0 ≤ y ∧ y < 256 := by rw [hy]; exact HB.out.getD hlt
      have hy0 := hyr.1
      have hy1 := hyr.2
      have HY := Lib.hid hy
      have hxw := xor_walk x y hy0 hy1
      clear hy hyr hb
      go_wp2
      go_loop [5, 7] (fun v i => ∃ (j : Nat) (z : BitVec 32), j ≤ 8 ∧ i = .int .i64 j ∧ v = .int .u32 (num z) ∧ Hid (stps (8 - j) z = byt x y)) (fun _ i => 8 - (intOf i).toNat)
      case atStart => exact ⟨0, _, by omega, rfl, rfl, rfl⟩
      case round =>
        clear hxw
        obtain ⟨j, z, hj, rfl, rfl, hz⟩ := hrel
        by_cases hlj : j < 8
        · have hodd := odd_walk_t z
          have hz' : stps (8 - (j + 1)) (stp z) = byt x y := by rw [← hz.out, show 8 - j = (8 - (j + 1)) + 1 by omega]; rfl
          have HZ := Lib.hid hz'
          clear hz hz'
          cases hbit : z.getLsbD 0 with
          | true =>
            rw [hbit] at hodd
            have hst := half_odd_t z hbit
            clear hbit
            clear hx0 hx1 hs0 hs1
            go_wp2
            go_round
            case rel => exact ⟨j + 1, stp z, by omega, by go_num, rfl, HZ⟩
            case measure => simp [intOf]; omega
          | false =>
            rw [hbit] at hodd
            have HST := Lib.hid (half_even_t z hbit)
            clear hbit
            clear hx0 hx1 hs0 hs1
            go_wp2
            go_round
            case rel => exact ⟨j + 1, stp z, by omega, by go_num, by rw [HST.out], HZ⟩
            case measure => simp [intOf]; omega
        · obtain rfl : j = 8 := by omega
          have hz' : z = byt x y := hz.out
          subst hz'
          clear hz
          go_wp2
          go_round
          case rel => exact ⟨k + 1, byt x y, by omega, by go_num, rfl, by show byt x y = _; rw [hx.out, HY.out, List.take_succ_eq_append_getElem hlt, raw_append, List.getD_eq_getElem?_getD, List.getElem?_eq_getElem hlt]; rfl⟩
          case measure => simp [intOf]; omega
    · obtain rfl : k = l.length := by omega
      go_wp2
      go_ret
      exact ⟨by show Ending.returned (.int .u32 (4294967295 - num x)) = _; rw [sub_walk', hx.out, List.take_length]; rfl, rfl⟩
set_option maxRecDepth 100000 in
theorem of_any (A : Option Addr) (c : Nat) (l : List Int) (w : World) (hl : l.length ≤ 9223372036854775807) (hb : Bts l) (hr : Rd .u8 w A l) :
    Calls Tryz.prog 216 #[.slice A l.length c] w fun e w' => e = .returned (.int .u32 (num (on 0#32 l))) ∧ w = w' := by
  go_enter Tryz.func216, Tryz.ntmps216
  go_wp2_with fail
  refine (on_any 0#32 A c l w hl hb hr).mono ?_
  rintro e w1 ⟨rfl, rfl⟩
  go_wp2
  go_ret
  exact ⟨rfl, rfl⟩
end Go.Proofs.YticnjkdaccacaaaGreatDoor.Ref03
end
section
namespace Go.Proofs.YticnjkdaccacaaaGreatDoor.Base
open Go Go.RowKit Go.ChangeShapes Go.WideShapes
def IsRow (k : IntKind) (w : World) (a : Option Addr) (len cap : Nat) (zs : List Int) : Prop :=
  (a = none ∧ len = 0 ∧ cap = 0 ∧ zs = []) ∨
  ∃ x, a = some x ∧ len ≤ cap ∧ cap ≤ maxLen ∧ zs.length = cap ∧ (∀ i, i < zs.length → w.cell? (x.add i) = some (.int k (zs.getD i 0))) ∧ ∀ n ∈ zs, (Lit.int k n).wf = true
theorem IsRow.reads {k : IntKind} {w : World} {a : Option Addr} {len cap : Nat} {zs : List Int} (h : IsRow k w a len cap zs) :
    ∃ l : List Int, l.length = len ∧ len ≤ cap ∧ cap ≤ maxLen ∧ (∀ n ∈ l, (Lit.int k n).wf = true) ∧ Rd k w a l := by
  rcases h with ⟨rfl, rfl, rfl, rfl⟩ | ⟨x, rfl, h1, h2, h3, h4, h5⟩
  · exact ⟨[], rfl, Nat.le_refl _, Nat.zero_le _, (fun n hn => by cases hn), Rd.nil⟩
  · refine ⟨zs.take len, by rw [List.length_take]; omega, h1, h2, fun n hn => h5 n (List.mem_of_mem_take hn), fun hne => ?_⟩
    have hpos : 0 < zs.length := by
      rcases Nat.eq_zero_or_pos zs.length with h | h
      · rw [List.length_eq_zero_iff.1 h] at hne; simp at hne
      · exact h
    have h0 := h4 0 hpos
    have hlt := World.block_lt_of_cell? w _ h0
    rw [add_block] at hlt
    refine ⟨x, rfl, hlt, fun j hj => ?_⟩
    rw [List.length_take] at hj
    rw [h4 j (by omega), List.getD_eq_getElem?_getD, List.getD_eq_getElem?_getD, List.getElem?_take, if_pos (by omega)]
theorem sized_row {H : Type} {enc : TypeId × Value → H} {P : Program} {W : World} {base : Nat} {spare : Nat → Bool} {held : Bool} {t e : TypeId} {k : IntKind} {a : Option Addr} {len cap : Nat} {d : DataW H} {ps : List MemPlace} {ts : List TypeId} {ds : List (DataW H)} {j : Nat}
    (hsz : (DataW.weightsEach P ts ds).all (· ≤ reachBytes) = true) (ht : ts[j]? = some t) (hd : ds[j]? = some d) (hu : P.underlying t = some (.slice e)) (he : P.underlying e = some (.int k)) (hc : P.cellsOf e = 1) {B : Nat} (hB : P.bytesOf e = B) (hB0 : 0 < B)
    (h : DataW.Trod enc P W base spare held t (.slice a len cap) d ps) : len ≤ 140737488351232 := by
  obtain ⟨fuel, hf⟩ := h
  rcases open_ints hu he hc hf with ⟨hcs, _⟩ | ⟨x, l, c, zs, hcs, _, hl, _, hz, hx, _, _⟩
  · simp [Value.cells] at hcs
    obtain ⟨rfl, rfl, rfl⟩ := hcs
    omega
  · simp [Value.cells] at hcs
    obtain ⟨rfl, rfl, rfl⟩ := hcs
    obtain ⟨hx, _⟩ := Prod.mk.inj hx
    subst hx
    have z := sized_slice hsz ht hd hu
    rw [hB] at z
    have hl2 : len ≤ zs.length := by
      rw [hz]
      split
      · exact hl
      · exact Nat.le_refl _
    have h1 : (lits (H := H) k (zs.take len)).length + (lits (H := H) k (zs.drop len)).length = zs.length := by
      simp [lits]
      omega
    rw [h1] at z
    have z2 : zs.length * 1 ≤ zs.length * B := Nat.mul_le_mul_left _ hB0
    have z3 : reachBytes = 140737488351232 := by decide
    omega
end Go.Proofs.YticnjkdaccacaaaGreatDoor.Base
end
section
namespace Go.Proofs.YticnjkdaccacaaaGreatDoor.Base
open Go Go.RowKit Go.ChangeShapes Go.WideShapes
structure Rdr (α : Type) where
  sz : Nat
  R : World → List Value → α → Prop
  len : ∀ {w cs x}, R w cs x → cs.length = sz
  keep : ∀ {w w1 : World} {cs x}, Below w.heap.size w w1 → R w cs x → R w1 cs x
namespace Rdr
def int (k : IntKind) : Rdr Int where
  sz := 1
  R := fun _ cs x => cs = [.int k x] ∧ (Lit.int k x).wf = true
  len := by rintro w cs x ⟨rfl, _⟩; rfl
  keep := fun _ h => h
def bool : Rdr Bool where
  sz := 1
  R := fun _ cs x => cs = [.bool x]
  len := by rintro w cs x rfl; rfl
  keep := fun _ h => h
def str : Rdr ByteArray where
  sz := 1
  R := fun _ cs x => cs = [.string x] ∧ x.size ≤ maxLen
  len := by rintro w cs x ⟨rfl, _⟩; rfl
  keep := fun _ h => h
def unit : Rdr Unit where
  sz := 0
  R := fun _ cs _ => cs = []
  len := by rintro w cs x rfl; rfl
  keep := fun _ h => h
def pair {α β : Type} (r : Rdr α) (s : Rdr β) : Rdr (α × β) where
  sz := r.sz + s.sz
  R := fun w cs x => ∃ c d, cs = c ++ d ∧ r.R w c x.1 ∧ s.R w d x.2
  len := by
    rintro w cs x ⟨c, d, rfl, h1, h2⟩
    rw [List.length_append, r.len h1, s.len h2]
  keep := by
    rintro w w1 cs x hb ⟨c, d, rfl, h1, h2⟩
    exact ⟨c, d, rfl, r.keep hb h1, s.keep hb h2⟩
def arr {α : Type} (n : Nat) (r : Rdr α) : Rdr (List α) where
  sz := n * r.sz
  R := fun w cs x => cs.length = n * r.sz ∧ x.length = n ∧ ∀ i y, x[i]? = some y → r.R w ((cs.drop (i * r.sz)).take r.sz) y
  len := fun h => h.1
  keep := fun hb h => ⟨h.1, h.2.1, fun i y hy => r.keep hb (h.2.2 i y hy)⟩
def Row {α : Type} (r : Rdr α) (w : World) (A : Option Addr) (l : List α) : Prop :=
  l ≠ [] → ∃ ad, A = some ad ∧ (0 < r.sz → ad.block < w.heap.size) ∧ ∀ i y, l[i]? = some y → ∃ c, r.R w c y ∧ ∀ j u, c[j]? = some u → w.cell? (ad.add (i * r.sz + j)) = some u
theorem Row.keep {α : Type} {r : Rdr α} {w w1 : World} {A : Option Addr} {l : List α} (h : Row r w A l) (hb : Below w.heap.size w w1) : Row r w1 A l := fun hne => by
  obtain ⟨ad, e, h1, h2⟩ := h hne
  refine ⟨ad, e, fun hp => Nat.lt_of_lt_of_le (h1 hp) hb.size, fun i y hy => ?_⟩
  obtain ⟨c, h3, h4⟩ := h2 i y hy
  refine ⟨c, r.keep hb h3, fun j u hu => ?_⟩
  have h5 := h4 j u hu
  have h6 := World.block_lt_of_cell? w _ h5
  rw [hb.cell h6]; exact h5
def sl {α : Type} (r : Rdr α) : Rdr (List α) where
  sz := 1
  R := fun w cs x => ∃ A cap, cs = [.slice A x.length cap] ∧ x.length ≤ cap ∧ cap ≤ maxLen ∧ Row r w A x
  len := by rintro w cs x ⟨A, cap, rfl, _⟩; rfl
  keep := by
    rintro w w1 cs x hb ⟨A, cap, rfl, h1, h2, h3⟩
    exact ⟨A, cap, rfl, h1, h2, h3.keep hb⟩
theorem Row.rd {k : IntKind} {w : World} {A : Option Addr} {l : List Int} (h : Row (int k) w A l) : Rd k w A l ∧ ∀ x ∈ l, (Lit.int k x).wf = true := by
  refine ⟨fun hne => ?_, fun x hx => ?_⟩
  · obtain ⟨ad, e, h1, h2⟩ := h hne
    refine ⟨ad, e, h1 Nat.one_pos, fun j hj => ?_⟩
    obtain ⟨c, ⟨rfl, _⟩, h4⟩ := h2 j _ (List.getElem?_eq_getElem hj)
    have := h4 0 _ rfl
    rw [show j * (int k).sz + 0 = j from by show j * 1 + 0 = j; omega] at this
    rw [this, List.getD_eq_getElem?_getD, List.getElem?_eq_getElem hj]; rfl
  · obtain ⟨i, hi, rfl⟩ := List.getElem_of_mem hx
    obtain ⟨ad, e, h1, h2⟩ := h (by intro e; rw [e] at hi; exact absurd hi (Nat.not_lt_zero _))
    obtain ⟨c, ⟨rfl, h3⟩, _⟩ := h2 i _ (List.getElem?_eq_getElem hi)
    exact h3
theorem arr_int {k : IntKind} {n : Nat} {w : World} {cs : List Value} {l : List Int} (h : (arr n (int k)).R w cs l) : l.length = n ∧ cs = l.map (Value.int k) ∧ ∀ x ∈ l, (Lit.int k x).wf = true := by
  obtain ⟨h1, h2, h3⟩ := h
  refine ⟨h2, ?_, fun x hx => ?_⟩
  · apply List.ext_getElem?
    intro i
    by_cases hi : i < n
    · have h4 := (h3 i _ (List.getElem?_eq_getElem (by omega))).1
      rw [List.getElem?_map, List.getElem?_eq_getElem (show i < l.length by omega)]
      have h5 := congrArg (fun l : List Value => l[0]?) h4
      simp only [int, Nat.mul_one, List.getElem?_take, List.getElem?_drop] at h5
      simpa using h5
    · rw [List.getElem?_eq_none (by show cs.length ≤ i; rw [h1]; show n * 1 ≤ i; omega), List.getElem?_eq_none (by simp; omega)]
  · obtain ⟨i, hi, rfl⟩ := List.getElem_of_mem hx
    exact (h3 i _ (List.getElem?_eq_getElem hi)).2
def Of (P : Program) (t : TypeId) {α : Type} (r : Rdr α) : Prop :=
  P.cellsOf t = r.sz ∧ ∀ (H : Type) (enc : TypeId × Value → H) (w : World) (base : Nat) (spare : Nat → Bool) (held : Bool) (fuel : Nat) (cs : List Value) (x : DataW H × List MemPlace),
    DataW.trod enc P w base spare held fuel t cs = some x → ∃ y, r.R w cs y
section
variable {P : Program} {t : TypeId}
theorem of_int {k : IntKind} (ht : P.underlying t = some (.int k)) (hc : P.cellsOf t = 1) : Of P t (int k) := by
  refine ⟨hc, fun H enc w base spare held fuel cs x h => ?_⟩
  cases fuel with
  | zero => simp [DataW.trod] at h
  | succ n =>
    unfold DataW.trod at h
    rw [ht] at h
    split at h <;> simp_all
    rename_i k' n' _
    exact ⟨n', by simp [int, h.1]⟩
theorem of_bool (ht : P.underlying t = some .bool) (hc : P.cellsOf t = 1) : Of P t bool := by
  refine ⟨hc, fun H enc w base spare held fuel cs x h => ?_⟩
  obtain ⟨b, hcs, _⟩ := DataW.trod_bool ht h
  exact ⟨b, hcs⟩
theorem of_str (ht : P.underlying t = some .string) (hc : P.cellsOf t = 1) : Of P t str := by
  refine ⟨hc, fun H enc w base spare held fuel cs x h => ?_⟩
  obtain ⟨s, hcs, _, hs⟩ := DataW.trod_string ht h
  exact ⟨s, hcs, hs⟩
theorem of_arr {α : Type} {r : Rdr α} {e : TypeId} {n : Nat} (ht : P.underlying t = some (.array n e)) (hc : P.cellsOf t = n * r.sz) (he : Of P e r) : Of P t (arr n r) := by
  refine ⟨hc, fun H enc w base spare held fuel cs x h => ?_⟩
  obtain ⟨xs, m, rfl, rfl, hl, hn, hx⟩ := DataW.trod_array ht h
  have hex : ∀ i, i < n → ∃ y, r.R w ((cs.drop (i * r.sz)).take r.sz) y := by
    intro i hi
    have h1 := hx i hi
    rw [he.1, List.getElem?_eq_getElem (by omega)] at h1
    exact he.2 H enc w base spare held m _ _ h1
  obtain ⟨f, hf⟩ : ∃ f : Fin n → α, ∀ i : Fin n, r.R w ((cs.drop (i.val * r.sz)).take r.sz) (f i) :=
    ⟨fun i => (hex i.val i.isLt).choose, fun i => (hex i.val i.isLt).choose_spec⟩
  refine ⟨List.ofFn f, by rw [hl, hc], by simp, fun i y hy => ?_⟩
  have hi : i < n := by
    have := (List.getElem?_eq_some_iff.1 hy).1; simpa using this
  have h2 := (List.getElem?_eq_some_iff.1 hy).2
  rw [List.getElem_ofFn] at h2
  rw [← h2]; exact hf ⟨i, hi⟩
theorem of_sl {α : Type} {r : Rdr α} {e : TypeId} (ht : P.underlying t = some (.slice e)) (hc : P.cellsOf t = 1) (he : Of P e r) : Of P t (sl r) := by
  refine ⟨hc, fun H enc w base spare held fuel cs x h => ?_⟩
  rcases Deep.open_slice ht h with ⟨rfl, _⟩ | ⟨a, len, cap, m, n, D, Pl, rfl, hb, hl, hm, hmm, _, hx⟩
  · exact ⟨[], none, 0, rfl, Nat.le_refl _, Nat.zero_le _, fun h => absurd rfl h⟩
  · rw [he.1] at hx
    have hlm : len ≤ m := by rw [hmm]; split <;> omega
    have hex : ∀ i, i < len → ∃ y c, w.cells? base (a.add (i * r.sz)) r.sz = some c ∧ r.R w c y := by
      intro i hi
      obtain ⟨c, h1, h2⟩ := hx i (by omega)
      obtain ⟨y, hy⟩ := he.2 H enc w base spare held n _ _ h2
      exact ⟨y, c, h1, hy⟩
    obtain ⟨f, hf⟩ : ∃ f : Fin len → α, ∀ i : Fin len, ∃ c, w.cells? base (a.add (i.val * r.sz)) r.sz = some c ∧ r.R w c (f i) :=
      ⟨fun i => (hex i.val i.isLt).choose, fun i => (hex i.val i.isLt).choose_spec⟩
    refine ⟨List.ofFn f, some a, cap, by simp, by simp; exact hl, hm, fun hne => ⟨a, rfl, fun hp => ?_, fun i y hy => ?_⟩⟩
    · have hpos : 0 < len := by
        rcases Nat.eq_zero_or_pos len with h0 | h0
        · subst h0; simp at hne
        · exact h0
      obtain ⟨c, h1, h2⟩ := hf ⟨0, hpos⟩
      obtain ⟨_, hlen, hcell⟩ := World.cells?_some h1
      have h3 := hcell 0 (by omega)
      rw [List.getElem?_eq_getElem (by omega)] at h3
      have h4 := World.block_lt_of_cell? w _ h3
      rw [add_block, add_block] at h4
      exact h4
    · have hi : i < len := by
        have := (List.getElem?_eq_some_iff.1 hy).1; simpa using this
      have h2 := (List.getElem?_eq_some_iff.1 hy).2
      rw [List.getElem_ofFn] at h2
      obtain ⟨c, h3, h4⟩ := hf ⟨i, hi⟩
      rw [h2] at h4
      refine ⟨c, h4, fun j u hu => ?_⟩
      obtain ⟨_, hlen, hcell⟩ := World.cells?_some h3
      have hj : j < r.sz := by have := (List.getElem?_eq_some_iff.1 hu).1; omega
      have h5 := hcell j hj
      rw [add_add] at h5
      rw [h5]; exact hu
def OfF (P : Program) (fs : List Field) (off : Nat) {α : Type} (r : Rdr α) : Prop :=
  ∀ (H : Type) (enc : TypeId × Value → H) (w : World) (base : Nat) (spare : Nat → Bool) (held : Bool) (fuel : Nat) (cs : List Value) (xs : List (DataW H × List MemPlace)),
    cs.length = off + r.sz → (fs.mapM fun f => DataW.trod enc P w base spare held fuel f.type ((cs.drop f.offset).take (P.cellsOf f.type))) = some xs → ∃ y, r.R w (cs.drop off) y
theorem ofF_nil (off : Nat) : OfF P [] off unit := by
  intro H enc w base spare held fuel cs xs hl _
  exact ⟨(), List.drop_eq_nil_of_le (by rw [hl]; exact Nat.le_refl _)⟩
theorem ofF_cons {α β : Type} {r : Rdr α} {s : Rdr β} {f : Field} {fs : List Field} {off : Nat} (hf : f.offset = off) (hr : Of P f.type r) (hs : OfF P fs (off + r.sz) s) : OfF P (f :: fs) off (pair r s) := by
  intro H enc w base spare held fuel cs xs hl h
  have hl' : cs.length = off + (r.sz + s.sz) := hl
  simp only [List.mapM_cons, Option.bind_eq_bind, Option.bind_eq_some_iff] at h
  obtain ⟨x, h1, ys, h2, _⟩ := h
  rw [hf, hr.1] at h1
  obtain ⟨a, ha⟩ := hr.2 H enc w base spare held fuel _ _ h1
  obtain ⟨b, hb⟩ := hs H enc w base spare held fuel cs ys (by omega) h2
  refine ⟨(a, b), (cs.drop off).take r.sz, cs.drop (off + r.sz), ?_, ha, hb⟩
  rw [← List.drop_drop, List.take_append_drop]
theorem of_st {α : Type} {r : Rdr α} {fs : Array Field} (ht : P.underlying t = some (.struct fs)) (hc : P.cellsOf t = r.sz) (hF : OfF P fs.toList 0 r) : Of P t r := by
  refine ⟨hc, fun H enc w base spare held fuel cs x h => ?_⟩
  cases fuel with
  | zero => simp [DataW.trod] at h
  | succ n =>
    unfold DataW.trod at h
    rw [ht] at h
    simp only at h
    split at h
    · rename_i hl
      simp only [Option.map_eq_some_iff] at h
      obtain ⟨xs, hxs, _⟩ := h
      have := hF H enc w base spare held n cs xs (by rw [hl, hc]; omega) hxs
      simpa using this
    · cases h
theorem okWide_agg {w : World} {r : Reach} {base : Nat} {v : Value} (ht : (∃ fs, P.underlying t = some (.struct fs)) ∨ ∃ n e, P.underlying t = some (.array n e)) (hv : Value.okWide P w r base t v) : ∃ cs, v = .agg cs := by
  unfold Value.okWide at hv
  rcases ht with ⟨fs, ht⟩ | ⟨n, e, ht⟩ <;> rw [ht] at hv <;> obtain ⟨cs, h, _⟩ := hv <;> exact ⟨cs, h⟩
theorem of_slice_arg {α : Type} {r : Rdr α} {H : Type} {enc : TypeId × Value → H} {w : World} {base : Nat} {spare : Nat → Bool} {held : Bool} {A : Option Addr} {len cap : Nat} {d : DataW H} {ps : List MemPlace} (h : Of P t (sl r)) (hd : DataW.Trod enc P w base spare held t (.slice A len cap) d ps) :
    ∃ l : List α, l.length = len ∧ len ≤ cap ∧ cap ≤ maxLen ∧ Row r w A l := by
  obtain ⟨fuel, hf⟩ := hd
  obtain ⟨l, A', cap', e, h1, h2, h3⟩ := h.2 H enc w base spare held fuel _ _ hf
  simp only [Value.cells, List.cons.injEq, and_true] at e
  injection e with e1 e2 e3
  subst e1 e2 e3
  exact ⟨l, rfl, h1, h2, h3⟩
theorem of_agg_arg {α : Type} {r : Rdr α} {H : Type} {enc : TypeId × Value → H} {w : World} {base : Nat} {spare : Nat → Bool} {held : Bool} {cs : Array Value} {d : DataW H} {ps : List MemPlace} (h : Of P t r) (hd : DataW.Trod enc P w base spare held t (.agg cs) d ps) :
    ∃ x : α, r.R w cs.toList x := by
  obtain ⟨fuel, hf⟩ := hd
  exact h.2 H enc w base spare held fuel _ _ hf
end
end Rdr
end Go.Proofs.YticnjkdaccacaaaGreatDoor.Base
end
section
namespace Go.Proofs.YticnjkdaccacaaaGreatDoor.Sx
open Go Go.RowKit Base _root_.Go.Proofs.YticnjkdaccacaaaGreatDoor.Own Go.ChangeMaps
def iterA {α : Type} (k : IntKind) (f : α → Value) (b r : Nat) (m left : List (Int × α)) (cur : Option (Int × α)) : Asn where
  holds := fun w B F => (∃ es clock seen since c0, w.heap[b]? = some (.map es clock) ∧ Tells k f es clock m ∧ w.heap[r]? = some (.mapIter (some b) since seen c0) ∧ (∀ x ∈ es.toList, x.born < since) ∧ since ≤ c0 ∧ since ≤ clock ∧
      (leftOf es seen).toList.map (fun e => (e.key, e.val)) = left.map (fun p => (Value.int k p.1, f p.2)) ∧
      (∀ p, cur = some p → ∃ e ∈ es.toList, ∃ s0 : Array Nat, seen = s0.push e.born ∧ c0 = clock ∧ e.key = .int k p.1 ∧ e.val = f p.2)) ∧ B ≤ b ∧ B ≤ r ∧ r ≠ b ∧ ∀ g, F g ↔ g = b ∨ g = r
  keep := fun ⟨⟨es, cl, seen, si, c0, h1, h2, h3, h4⟩, g1, g2, g3, g4⟩ hc hF _ => ⟨⟨es, cl, seen, si, c0, by rw [hc.block _ (Array.getElem?_eq_some_iff.1 h1).1 (hF _ ((g4 _).2 (.inl rfl)))]; exact h1, h2, by rw [hc.block _ (Array.getElem?_eq_some_iff.1 h3).1 (hF _ ((g4 _).2 (.inr rfl)))]; exact h3, h4⟩, g1, g2, g3, g4⟩
  dom := fun ⟨⟨es, cl, seen, si, c0, h1, h2, h3, h4⟩, g1, g2, g3, g4⟩ g hg => by
    rcases (g4 g).1 hg with rfl | rfl
    · exact ⟨g1, (Array.getElem?_eq_some_iff.1 h1).1⟩
    · exact ⟨g2, (Array.getElem?_eq_some_iff.1 h3).1⟩
section
variable {α : Type} {P : Program} {T : Orc} {ops : Array Oper} {Q : Exit → Act → World → Prop} {Df : List Deferred} {N : Nat} {a : Act} {w w0 : World} {L : Env} {R : List Asn} {k : IntKind} {f : α → Value} {b r : Nat} {m left : List (Int × α)} {cur : Option (Int × α)}
theorem wl_range (hT : T.Ok P) {o : Oper} {rest : List Oper} {t kt et : TypeId} {x : Operand} {d : Nat} (fr : FrD Df N a L) (hw : wantL ops L o = some true) (hd : o.dst = some d) (hlt : Nat.blt d N = true) (ho : o.op = .range t x) (hx : ev L x = some (.map (some b))) (ht : T.ty.lookup t = some (.map kt et)) (S : Sat w0 w (mapA k f b m :: R))
    (h : ∀ w' r, Sat w0 w' (iterA k f b r m m none :: R) → ∀ a', FrD Df N a' ((d, .pointer (some ⟨r, 0, none⟩)) :: L) → wpList P ops Q rest a' w') : wpList P ops Q (o :: rest) a w := by
  obtain ⟨F, ⟨⟨es, cl, h1, h2⟩, h3, h4⟩, hF, hk⟩ := S.opened
  have hlb := (Array.getElem?_eq_some_iff.1 h1).1
  refine wl_val (v := .pointer (some ⟨w.heap.size, 0, none⟩)) (w' := w.alloc (.mapIter (some b) cl #[] cl)) fr hw hd hlt ?_ rfl (h _ _ ?_)
  · unfold execOp
    simp only [ho, (fr.ev hx).1]
    rw [Sem.run_bind, run_range_map w t kt et b es cl (hT.und ht) h1]
    rfl
  · refine hk (A' := iterA k f b w.heap.size m m none) (F' := fun g => g = b ∨ g = w.heap.size) (G := fun _ => False) ⟨⟨es, cl, #[], cl, cl, ?_, h2, heap_alloc_new _ _, h2.born.2, Nat.le_refl _, Nat.le_refl _, ?_, fun p hp => by cases hp⟩, h3, ?_, by omega, fun g => Iff.rfl⟩ (Chg.alloc w _) (fun _ _ h => h.elim) fun g hg => ?_
    · rw [Below.heap_alloc w _ b hlb]; exact h1
    · have : (leftOf es #[]).toList = es.toList := by simp [leftOf]
      rw [this]; exact h2.ents
    · have := (hF b ((h4 b).2 rfl)).1; omega
    · rcases hg with rfl | rfl
      · exact .inl ((h4 _).2 rfl)
      · exact .inr (Nat.le_refl _)
theorem filter_ne : ∀ {l : List MapEntry} {e : MapEntry}, (l.map (·.born)).Nodup → e ∈ l → ∃ l1 l2, l = l1 ++ e :: l2 ∧ l.filter (fun x => !(x.born == e.born)) = l1 ++ l2 := by
  intro l
  induction l with
  | nil => intro e _ he; cases he
  | cons y l ih =>
    intro e hn he
    rw [List.map_cons, List.nodup_cons] at hn
    by_cases hy : y.born = e.born
    · have : e = y := by
        rcases List.mem_cons.1 he with h | h
        · exact h
        · exact absurd (List.mem_map.2 ⟨e, h, hy.symm⟩) hn.1
      subst this
      refine ⟨[], l, rfl, ?_⟩
      rw [List.filter_cons]
      simp only [beq_self_eq_true, Bool.not_true, Bool.false_eq_true, if_false, List.nil_append]
      rw [List.filter_eq_self]
      intro z hz
      have : z.born ≠ e.born := fun q => hn.1 (List.mem_map.2 ⟨z, hz, q⟩)
      simp [this]
    · have hm : e ∈ l := by
        rcases List.mem_cons.1 he with h | h
        · subst h; exact absurd rfl hy
        · exact h
      obtain ⟨l1, l2, h1, h2⟩ := ih hn.2 hm
      refine ⟨y :: l1, l2, by rw [h1]; rfl, ?_⟩
      rw [List.filter_cons]
      simp only [show (y.born == e.born) = false from by simpa using hy, Bool.not_false, if_true, h2]
      rfl
theorem wl_next (hf : ∀ z, vokC (f z) = vok (f z)) {o : Oper} {rest : List Oper} {x : Operand} {d : Nat} (fr : FrD Df N a L) (hw : wantL ops L o = some true) (hd : o.dst = some d) (hlt : Nat.blt d N = true) (ho : o.op = .next x false) (hx : ev L x = some (.pointer (some ⟨r, 0, none⟩))) (S : Sat w0 w (iterA k f b r m left cur :: R))
    (h0 : left = [] → ∀ a', FrD Df N a' ((d, .tuple #[.bool false]) :: L) → wpList P ops Q rest a' w)
    (h1 : ∀ w' p l1 l2, left = l1 ++ p :: l2 → Sat w0 w' (iterA k f b r m (l1 ++ l2) (some p) :: R) → ∀ a', FrD Df N a' ((d, .tuple #[.bool true, .int k p.1, f p.2]) :: L) → wpList P ops Q rest a' w') : wpList P ops Q (o :: rest) a w := by
  obtain ⟨F, ⟨⟨es, cl, seen, si, c0, e1, e2, e3, e4, e5, e6, e7, e8⟩, g1, g2, g3, g4⟩, hF, hk⟩ := S.opened
  rcases run_next_at (P := P) w o.type r b si c0 seen es cl e3 e1 e4 e5 with ⟨h2, h3⟩ | ⟨e, he, w1, hal, h3⟩
  · refine wl_val (v := .tuple #[.bool false]) (w' := w) fr hw hd hlt ?_ rfl (h0 ?_)
    · unfold execOp
      simp only [ho, (fr.ev hx).1]
      rw [Sem.run_bind, h3]; rfl
    · have := congrArg List.length e7
      rw [List.length_map, List.length_map, Array.length_toList, h2] at this
      exact List.eq_nil_of_length_eq_zero this.symm
  · have hem : e ∈ es.toList := by
      have := he
      unfold leftOf at this
      simp at this
      simpa using this.1
    have hn : ((leftOf es seen).toList.map (·.born)).Nodup := by
      unfold leftOf
      rw [Array.toList_filter]
      exact e2.born.1.sublist ((List.filter_sublist).map _)
    obtain ⟨l1, l2, q1, q2⟩ := filter_ne hn he
    rw [q1, List.map_append, List.map_cons] at e7
    obtain ⟨m1, m2, rfl, q3, q4⟩ := List.map_eq_append_iff.1 e7.symm
    obtain ⟨p, m3, rfl, q5, q6⟩ := List.map_eq_cons_iff.1 q4
    injection q5 with q7 q8
    have hv : vok (.tuple #[.bool true, .int k p.1, f p.2]) = true := by
      have : (Value.int k p.1, f p.2) ∈ m.map (fun p => (Value.int k p.1, f p.2)) := by
        rw [← e2.ents, q7, q8]; exact List.mem_map.2 ⟨e, hem, rfl⟩
      obtain ⟨p', hp', q9⟩ := List.mem_map.1 this
      injection q9 with q10 q11
      have hw' := e2.wf p' hp'
      rw [q11] at hw'
      injection q10 with _ q12
      rw [q12] at hw'
      show [Value.bool true, .int k p.1, f p.2].all vokC = true
      simp only [List.all_cons, List.all_nil, hf, hw'.2, Bool.and_true]
      exact hw'.1
    refine wl_val (v := .tuple #[.bool true, .int k p.1, f p.2]) (w' := setBlock w1 r (.mapIter (some b) si (seen.push e.born) cl)) fr hw hd hlt ?_ hv (h1 _ p m1 m3 rfl ?_)
    · unfold execOp
      simp only [ho, (fr.ev hx).1]
      rw [Sem.run_bind, h3, q7, q8]; rfl
    · have hr1 : r < w1.heap.size := by rcases hal with rfl | rfl <;> exact (Array.getElem?_eq_some_iff.1 e3).1
      have hb1 : w1.heap[b]? = some (.map es cl) := by rcases hal with rfl | rfl <;> exact e1
      refine hk (A' := iterA k f b r m (m1 ++ m3) (some p)) (F' := F) (G := fun g => g = r) ⟨⟨es, cl, seen.push e.born, si, cl, ?_, e2, ?_, e4, e6, e6, ?_, fun p' hp' => ?_⟩, g1, g2, g3, g4⟩ ?_ (fun g _ hg => (g4 g).2 (.inr hg)) fun g hg => .inl hg
      · simp only [setBlock]; rw [Array.getElem?_setIfInBounds_ne g3]; exact hb1
      · simp [setBlock, hr1]
      · have : (leftOf es (seen.push e.born)).toList = (leftOf es seen).toList.filter (fun x => !(x.born == e.born)) := by
          unfold leftOf
          rw [Array.toList_filter, Array.toList_filter, List.filter_filter]
          congr 1
          funext x
          rw [contains_push]
          cases seen.contains x.born <;> cases (x.born == e.born) <;> rfl
        rw [this, q2, List.map_append, List.map_append, q3, q6]
      · injection hp' with hp'; subst hp'
        exact ⟨e, hem, seen, rfl, rfl, q7.symm, q8.symm⟩
      · rcases hal with rfl | rfl
        · exact ⟨rfl, rfl, rfl, by simp [setBlock], fun g _ hg => by simp only [setBlock]; rw [Array.getElem?_setIfInBounds_ne (fun q => hg q.symm)]⟩
        · exact ⟨rfl, rfl, rfl, by show _ ≤ (w.heap.setIfInBounds _ _).size; simp, fun g _ hg => by show (w.heap.setIfInBounds _ _)[g]? = _; rw [Array.getElem?_setIfInBounds_ne (fun q => hg q.symm)]⟩
theorem wl_entry (hf : ∀ z, vokC (f z) = vok (f z)) {o : Oper} {rest : List Oper} {x : Operand} {d : Nat} {p : Int × α} (fr : FrD Df N a L) (hw : wantL ops L o = some true) (hd : o.dst = some d) (hlt : Nat.blt d N = true) (ho : o.op = .entry x) (hx : ev L x = some (.pointer (some ⟨r, 0, none⟩))) (S : Sat w0 w (iterA k f b r m left (some p) :: R))
    (h : ∀ a', FrD Df N a' ((d, .tuple #[.int k p.1, f p.2]) :: L) → wpList P ops Q rest a' w) : wpList P ops Q (o :: rest) a w := by
  obtain ⟨F, ⟨⟨es, cl, seen, si, c0, e1, e2, e3, e4, e5, e6, e7, e8⟩, g1, g2, g3, g4⟩, hF, hk⟩ := S.opened
  obtain ⟨e, he, s0, rfl, rfl, q1, q2⟩ := e8 p rfl
  refine wl_val (v := .tuple #[.int k p.1, f p.2]) (w' := w) fr hw hd hlt ?_ ?_ h
  · unfold execOp
    simp only [ho, (fr.ev hx).1]
    rw [Sem.run_bind, run_entry_at w r b si s0 es c0 e e3 e1 he e2.born.1, q1, q2]; rfl
  · have : (Value.int k p.1, f p.2) ∈ m.map (fun p => (Value.int k p.1, f p.2)) := by
      rw [← e2.ents]; exact List.mem_map.2 ⟨e, he, by rw [q1, q2]⟩
    obtain ⟨p', hp', q9⟩ := List.mem_map.1 this
    injection q9 with q10 q11
    have hw' := e2.wf p' hp'
    rw [q11] at hw'
    injection q10 with _ q12
    rw [q12] at hw'
    show [.int k p.1, f p.2].all vokC = true
    simp only [List.all_cons, List.all_nil, hf, hw'.2, Bool.and_true]
    exact hw'.1
theorem wl_callv {o : Oper} {rest : List Oper} {d : Nat} {g : FuncId} {x : Operand} {xs : List Value} {c : Call} {E : Ending → World → Prop} (fr : FrD Df N a L) (hw : wantL ops L o = some true) (hd : o.dst = some d) (hlt : Nat.blt d N = true) (ho : o.op = .call c) (hc : c.callee = .value x) (hx : ev L x = some (.func (.func g) #[] #[])) (hxs : evs L c.args.toList = some xs) (hin : Enters P g) (hcon : Calls P g xs.toArray w E)
    (h : ∀ e w', E e w' → ∃ v, e = .returned v ∧ vok v = true ∧ ∀ a', FrD Df N a' ((d, v) :: L) → wpList P ops Q rest a' w') : wpList P ops Q (o :: rest) a w := by
  have e : c.args.map a.eval = xs.toArray := by
    apply Array.toList_inj.1
    rw [Array.toList_map, (evs_run fr hxs).1]
  have hrun : (execOp a.eval o).run P w = .ok (.enter g xs.toArray) w := by
    unfold execOp
    simp only [ho, resolve, hc, (fr.ev hx).1, Deferred.ofValue]
    rw [Sem.run_bind, Sem.run_pure, Result.andThen_ok]
    simp only [invoke]
    have e3 := hin xs.toArray w
    rw [← e] at e3 ⊢
    simpa using e3
  refine wl_op fr hw fun K hK => wp_call hrun (hcon.mono fun e' w' hR => ?_)
  obtain ⟨v, he, hv, hk⟩ := h e' w' hR
  exact ⟨v, he, hK _ _ (by rw [hd]; exact hk _ (fr.put (blt_lt hlt) hv))⟩
theorem Sat.iterEnd (S : Sat w0 w (iterA k f b r m left cur :: R)) : Sat w0 w (mapA k f b m :: R) := by
  obtain ⟨F, ⟨⟨es, cl, seen, si, c0, e1, e2, e3, e4⟩, g1, g2, g3, g4⟩, hF, hk⟩ := S.opened
  exact hk (A' := mapA k f b m) (F' := fun g => g = b) (G := fun _ => False) ⟨⟨es, cl, e1, e2⟩, g1, fun g => Iff.rfl⟩ (Chg.refl _ _) (fun _ _ h => h.elim) fun g hg => .inl ((g4 g).2 (.inl hg))
end
end Go.Proofs.YticnjkdaccacaaaGreatDoor.Sx
end
