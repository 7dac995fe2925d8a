/- Texts of this work, one behind the other. -/
import Derived.Test.YticnjkdaccacaaaGreatDoorVSectorsPlay5
import Derived.IntWalk
import Derived.Test.YticnjkdaccacaaaGreatDoorProg
section
/- Lists of numbers that are held, each with what grew out of it and its number. -/
namespace Go.Proofs.YticnjkdaccacaaaGreatDoor.Sx
open Go Go.RowKit Base Own OwnV

section
variable {P : Program} {T : Orc} {ops : Array Oper} {Q : Exit → Act → World → Prop} {S' : World → Prop} {Df : List Deferred} {N : Nat} {a : Act} {w w0 : World} {L : Env} {R M : List Asn} {k : IntKind} {e : Nat}
theorem gw_reads {A A' : Option Addr} {c' : Nat} {l ys : List Int} (S : Sat w0 w M) (i : Nat) (hi : M[i]? = some (gwA e 1 A (l.map (Value.int k)) A' c' ys.length (ys.map (Value.int k)))) : Rk k w A l ∧ Rk k w A' ys ∧ (ys.length ≤ c' ∧ c' ≤ maxLen) := by
  obtain ⟨F, h0, h1, h2, h3, ⟨t, h4⟩, h5⟩ := (S.frontAt i hi).hd
  have hw : ∀ z ∈ ys, (Lit.int k z).wf = true := fun z hz => h3 (.int k z) (List.mem_map.2 ⟨z, hz, rfl⟩)
  have hwl : ∀ z ∈ l, (Lit.int k z).wf = true := fun z hz => h3 (.int k z) (by rw [h4]; exact List.mem_append_left _ (List.mem_map.2 ⟨z, hz, rfl⟩))
  have hown : OwnI k w w0.heap.size e (.slice A' ys.length c') ys := h2
  obtain ⟨A2, c2, he, q1, q2, q3, q4⟩ := hown.slice
  injection he with e1 e2 e3
  subst e1 e3
  refine ⟨⟨fun hne => ?_, hwl⟩, ⟨q3, hw⟩, q1, q2⟩
  cases A with
  | none => exact absurd (List.map_eq_nil_iff.1 (h0 rfl)) hne
  | some ad =>
    obtain ⟨r1, r2, r3, r4⟩ := h1 ad rfl
    refine ⟨ad, rfl, r3, fun j hj => ?_⟩
    have := r4 j (.int k (l.getD j 0)) (by simp [List.getElem?_eq_getElem hj, List.getD_eq_getElem?_getD])
    rw [r1, addr0]
    rwa [Nat.zero_add] at this
/-- One number more behind a row. -/
theorem wl_gwnum {t : TypeId} (RT : RowTy P t e k) {o : Oper} {rest : List Oper} {d : Nat} {x y : Operand} {A A' Y : Option Addr} {n' c' cy : Nat} {ys : List Int} {xs : List Value} {q : Int} (fr : FrD Df N a L) (hw : wantL ops L o = some true) (hd : o.dst = some d) (hlt : Nat.blt d N = true) (ho : o.op = .call { callee := .builtin .append, args := #[x, y], argTypes := #[t, t] })
    (hx : ev L x = some (.slice A' n' c')) (hy : ev L y = some (.slice Y 1 cy)) (hn : n' = ys.length) (hb : n' ≤ 1000000000000) (S : Sat w0 w (ownA k e Y cy [q] :: gwA e 1 A xs A' c' n' (ys.map (Value.int k)) :: R))
    (h : ∀ w' A2 c2, Sat w0 w' (gwA e 1 A xs A2 c2 (n' + 1) ((ys ++ [q]).map (Value.int k)) :: R) → ∀ a', FrD Df N a' ((d, .slice A2 (n' + 1) c2) :: L) → wpList P ops Q rest a' w') : wpList P ops Q (o :: rest) a w := by
  obtain ⟨⟨hr, hwf⟩, -, -⟩ := S.own
  obtain ⟨ad, rfl, hc⟩ := hr.cell (j := 0) (by simp)
  obtain ⟨bytes, hle, hinfo⟩ := RT.hi
  obtain ⟨A2, c2, w', h1, h2, h3⟩ := gw_app (P := P) (ty := o.type) (bytes := bytes) (cy := cy) RT.ht (by
    obtain ⟨i, hi, hzz⟩ := Option.map_eq_some_iff.1 hinfo
    simp only [Prod.mk.injEq] at hzz
    obtain ⟨q1, q2, q3⟩ := hzz
    rw [hi]
    simp [q1, q2, q3, Value.cells]) Nat.one_pos (by omega) S.tl (news := [.int k q]) rfl (fun j u hu => by
      cases j with
      | zero => injection hu with hu; subst hu; exact hc.2
      | succ j => cases hu) (fun u hu => by rw [List.mem_singleton] at hu; subst hu; exact ⟨rfl, hwf q (by simp)⟩) hb
  refine wl_val fr hw hd hlt (app_op fr ho hx hy h1) (vok_sl h2) (h w' A2 c2 ?_)
  rw [List.map_append]
  exact h3
/-- A struct's variable. -/
theorem wl_allocg {o : Oper} {rest : List Oper} {t : TypeId} {d : Nat} {zs : List Value} (fr : FrD Df N a L) (hw : wantL ops L o = some true) (hd : o.dst = some d) (hlt : Nat.blt d N = true) (ho : o.op = .alloc t) (hz : ∀ W, (zeroValue t).run P W = .ok (.agg zs.toArray) W) (hok : zs.all vok = true) (S : Sat w0 w R)
    (h : ∀ w' b, Sat w0 w' (stA t b zs :: R) → ∀ a', FrD Df N a' ((d, .pointer (some ⟨b, 0, none⟩)) :: L) → wpList P ops Q rest a' w') : wpList P ops Q (o :: rest) a w := by
  refine wl_val (v := .pointer (some ⟨w.heap.size, 0, none⟩)) (w' := w.alloc (.cells zs.toArray t)) fr hw hd hlt ?_ rfl (h _ _ ?_)
  · unfold execOp
    simp only [ho, Instr.alloc]
    rw [Sem.run_bind, Sem.run_bind, hz, Result.andThen_ok]
    rfl
  · exact S.add (F := fun g => g = w.heap.size) ((Below.refl _ _).alloc (Nat.le_refl _) _) ⟨heap_alloc_new _ _, hok, S.below.size, fun g => Iff.rfl⟩ fun g hg => Nat.le_of_eq hg.symm
/-- .. written over whole. -/
theorem wl_stg (hT : T.Ok P) {o : Oper} {rest : List Oper} {te : TypeId} {p v : Operand} {b e' : Nat} {cs vs : List Value} (fr : FrD Df N a L) (hw : wantL ops L o = some true) (hd : o.dst = none) (ho : o.op = .store te p v) (hp : ev L p = some (.pointer (some ⟨b, 0, none⟩))) (hv : ev L v = some (.agg vs.toArray)) (hs : T.sz.lookup te = some vs.length)
    (hl : cs.length = vs.length) (h1 : vs.all (fun v => v.oneCell' && vok v) = true) (S : Sat w0 w (stA e' b cs :: R)) (h : ∀ w', Sat w0 w' (stA e' b vs :: R) → wpList P ops Q rest a w') : wpList P ops Q (o :: rest) a w := by
  obtain ⟨F, ⟨g1, g2, g4, g5⟩, hF, hk⟩ := S.opened
  rw [List.all_eq_true] at h1
  have hst := run_storeCells_cells (P := P) b 0 vs 0 w (fun j hj => by
    rw [cell_of_row _ _ _ _ _ _ g1]
    simp
    omega) (fun j hj => frozen_of_row w b _ _ _ g1) (fun u hu => by have := h1 u hu; simp at this; exact this.1)
  have hheap := heap_setCells b vs 0 w cs.toArray e' g1 (by simp; omega)
  refine wl_skip (w' := w.setCells b 0 vs) fr hw hd ?_ (h _ ?_)
  · unfold execOp
    simp only [ho, (fr.ev hp).1, (fr.ev hv).1, Instr.storeAt, Instr.sureAddr, storeVar, Value.cells]
    simp [size_run hT hs]
    have hst' : (storeCells (⟨b, 0, none⟩ : Addr) vs).run P w = .ok () (w.setCells b 0 vs) := by simpa using hst
    rw [hst']
    rfl
  · refine hk (A' := stA e' b vs) (F' := F) (G := fun g => g = b) ⟨?_, ?_, g4, g5⟩ (chg_setCells b vs 0 w) (fun g _ hg => (g5 g).2 hg) fun g hg => .inl hg
    · rw [hheap]
      congr 2
      apply Array.toList_inj.1
      simp [splice, hl]
    · rw [List.all_eq_true]
      intro u hu
      have := h1 u hu
      simp at this
      exact this.2
/-- A cell of an element of a row is written. -/
theorem wl_strv (hT : T.Ok P) {o : Oper} {rest : List Oper} {te : TypeId} {p v : Operand} {g j c n e' z : Nat} {xs : List Value} {u : Value} (fr : FrD Df N a L) (hw : wantL ops L o = some true) (hd : o.dst = none) (ho : o.op = .store te p v) (hp : ev L p = some (.pointer (some ⟨g, j, none⟩))) (hv : ev L v = some u) (hs : T.sz.lookup te = some 1)
    (hc : u.cells = #[u]) (h1 : u.oneCell' = true) (h2 : vok1 u = true) (S : Sat w0 w (rvA e' z (some ⟨g, 0, none⟩) c n xs :: R)) (hj : j < n * z) (h : ∀ w', Sat w0 w' (rvA e' z (some ⟨g, 0, none⟩) c n (splice xs j [u]) :: R) → wpList P ops Q rest a w') : wpList P ops Q (o :: rest) a w := by
  have hset := rv_set S rfl j [u] (by simp; omega) (fun v hv => by rw [List.mem_singleton] at hv; subst hv; exact h2)
  refine wl_skip (w' := w.setCells g j [u]) fr hw hd ?_ (h _ hset)
  obtain ⟨F, q1, q2, q3⟩ := S.hd
  obtain ⟨A2, c2, he, r1, r2, r3, r4⟩ := q1.slice
  injection he with e1 e2 e3
  subst e1
  obtain ⟨g', s1, s2, s3, s4, s5⟩ := r4 _ rfl
  injection s1 with s1
  subst s1
  have hst := run_storeCells_cells (P := P) g j [u] 0 w (fun i hi => by
    have hi : i = 0 := by simpa using hi
    subst hi
    have := (s5 j hj).1
    simpa using this) (fun i hi => by
    have hi : i = 0 := by simpa using hi
    subst hi
    have := (s5 j hj).2
    simpa using this) (fun v hv => by rw [List.mem_singleton] at hv; subst hv; exact h1)
  have hst' : (storeCells (⟨g, j, none⟩ : Addr) [u]).run P w = .ok () (w.setCells g j [u]) := by simpa using hst
  unfold execOp
  simp only [ho, (fr.ev hp).1, (fr.ev hv).1, Instr.storeAt, Instr.sureAddr, storeVar, hc]
  simp [size_run hT hs, hst']
/-- A struct that is built, in a drawn region. -/
theorem sl_build {s : SOp} {rest : List Itm} {t : TypeId} {ps : Array (Nat × Operand)} {d : Nat} {L2 : List (Nat × Value)} {cs : List Value} (fr : FrD Df N a L) (hw : wantS L s = some true) (hq : s.q = true) (hd : s.dst = some d) (hlt : Nat.blt d N = true) (ho : s.op = .build t ps) (hp : (ps.map fun (i, x) => (i, a.eval x)).toList = L2) (hb : P.built t L2 = some cs.toArray) (hv : vok (.agg cs.toArray) = true)
    (h : ∀ a', FrD Df N a' ((d, .agg cs.toArray) :: L) → SL P Q S' rest a' w) : SL P Q S' (.one s :: rest) a w := by
  refine sl_q (v := .agg cs.toArray) fr hw hq hd hlt (fun w' _ => ?_) hv h
  unfold execOp
  simp only [SOp.oper, ho]
  rw [Sem.run_bind, run_build w' t _ cs.toArray (by rw [hp]; exact hb)]; rfl
theorem lit1_exec {t z : Nat} (hu : P.underlying t = some (.slice e)) (hi : (P.info? e).map (fun i => (i.zero.isSome, i.size)) = some (true, z)) (h0 : (Nat.blt 0 z && Nat.ble z 1000) = true) (fr : FrD Df N a L) {o : Oper} {x : Operand} {cs : List Value} (ho : o.op = .buildSlice t 1 #[(0, x)]) (hx : ev L x = some (.agg cs.toArray)) (hl : cs.length = z) (hv : cs.all vok1 = true) (S : Sat w0 w R) :
    ∃ A c w', (execOp a.eval o).run P w = .ok (.value (.slice A 1 c)) w' ∧ vok (.slice A 1 c) = true ∧ Sat w0 w' (rvA e z A c 1 cs :: R) := by
  simp only [Bool.and_eq_true, Nat.ble_eq] at h0
  have h0' := blt_lt h0.1
  refine ⟨some ⟨w.heap.size, 0, none⟩, 1, w.alloc (.cells cs.toArray e), ?_, vok_sl ⟨Nat.le_refl _, by unfold maxLen; omega⟩, ?_⟩
  · have h := exec_one_slice (P := P) (a := a) (w := w) (N := o.dst) (tt := o.type) t e x cs.toArray z (fr.ev hx).1 (by simpa using hl) hu hi h0' (by omega)
    unfold execOp at h ⊢
    simp only [ho] at h ⊢
    exact h
  · have hm := RowV.made w e z 1 cs.toArray S.below.size (by simp [hl]) (by unfold maxLen; omega)
    rw [List.all_eq_true] at hv
    exact S.add (F := fun g => (Value.slice (some ⟨w.heap.size, 0, none⟩) 1 1).ownBlock = some g) ((Below.refl _ _).alloc (Nat.le_refl _) _) ⟨hm, hv, fun g => Iff.rfl⟩ fun g hg => by
      have : w.heap.size = g := by simpa [Value.ownBlock] using hg
      omega
theorem sl_lit1 {t z : Nat} (hu : P.underlying t = some (.slice e)) (hi : (P.info? e).map (fun i => (i.zero.isSome, i.size)) = some (true, z)) (h0 : (Nat.blt 0 z && Nat.ble z 1000) = true) {s : SOp} {rest : List Itm} {d : Nat} {x : Operand} {cs : List Value} (fr : FrD Df N a L) (hw : wantS L s = some true) (hq : s.q = false) (hd : s.dst = some d) (hlt : Nat.blt d N = true)
    (ho : s.op = .buildSlice t 1 #[(0, x)]) (hx : ev L x = some (.agg cs.toArray)) (hl : cs.length = z) (hv : cs.all vok1 = true) (S : Sat w0 w R) (h : ∀ w' A c, Sat w0 w' (rvA e z A c 1 cs :: R) → S' w' ∧ ∀ a', FrD Df N a' ((d, .slice A 1 c) :: L) → SL P Q S' rest a' w') : SL P Q S' (.one s :: rest) a w := by
  obtain ⟨A, c, w', h1, h2, h3⟩ := lit1_exec (P := P) hu hi h0 fr (o := s.oper) ho hx hl hv S
  exact sl_val fr hw hq hd hlt h1 (h w' A c h3).1 h2 (h w' A c h3).2
theorem wl_lit1 {t z : Nat} (hu : P.underlying t = some (.slice e)) (hi : (P.info? e).map (fun i => (i.zero.isSome, i.size)) = some (true, z)) (h0 : (Nat.blt 0 z && Nat.ble z 1000) = true) {o : Oper} {rest : List Oper} {d : Nat} {x : Operand} {cs : List Value} (fr : FrD Df N a L) (hw : wantL ops L o = some true) (hd : o.dst = some d) (hlt : Nat.blt d N = true)
    (ho : o.op = .buildSlice t 1 #[(0, x)]) (hx : ev L x = some (.agg cs.toArray)) (hl : cs.length = z) (hv : cs.all vok1 = true) (S : Sat w0 w R) (h : ∀ w' A c, Sat w0 w' (rvA e z A c 1 cs :: R) → ∀ a', FrD Df N a' ((d, .slice A 1 c) :: L) → wpList P ops Q rest a' w') : wpList P ops Q (o :: rest) a w := by
  obtain ⟨A, c, w', h1, h2, h3⟩ := lit1_exec (P := P) hu hi h0 fr ho hx hl hv S
  exact wl_val fr hw hd hlt h1 h2 (h w' A c h3)
/-- One element of several cells more behind a row of one's own. -/
theorem rvapp_exec {t z bytes : Nat} (ht : P.underlying t = some (.slice e)) (hinfo : (P.info? e).map (fun i => (i.zero.map (·.cells.size), i.size, i.bytes)) = some (some z, z, bytes)) (hz0 : Nat.blt 0 z = true) (hby : Nat.ble bytes 128 = true) (fr : FrD Df N a L) {o : Oper} {x y : Operand} {A Y : Option Addr} {n c cy : Nat} {xs news : List Value}
    (ho : o.op = .call { callee := .builtin .append, args := #[x, y], argTypes := #[t, t] }) (hx : ev L x = some (.slice A n c)) (hy : ev L y = some (.slice Y 1 cy)) (h1 : news.all (fun u => u.oneCell') = true) (hb : n ≤ 1000000000000) (S : Sat w0 w (rvA e z Y cy 1 news :: rvA e z A c n xs :: R)) :
    ∃ A2 c2 w', (execOp a.eval o).run P w = .ok (.value (.slice A2 (n + 1) c2)) w' ∧ vok (.slice A2 (n + 1) c2) = true ∧ Sat w0 w' (rvA e z A2 c2 (n + 1) (xs ++ news) :: R) := by
  obtain ⟨q1, q2, q3, q4, q5⟩ := rv_facts S
  cases Y with
  | none => have := q3 rfl; omega
  | some ad =>
    obtain ⟨g, rfl, hr⟩ := q5 ad rfl
    rw [List.all_eq_true] at h1
    obtain ⟨A2, c2, w', r1, r2, r3⟩ := rv_app (P := P) (ty := o.type) (ad := ⟨g, 0, none⟩) (cy := cy) ht hinfo (blt_lt hz0) (Nat.le_of_ble_eq_true hby) S.tl (by omega) (fun j u hu => by rw [addr0]; have := hr j u hu; rwa [Nat.zero_add] at this) (fun u hu => ⟨h1 u hu, q4 u hu⟩) hb
    exact ⟨A2, c2, w', app_op fr ho hx hy r1, vok_sl r2, r3⟩
theorem sl_rvapp {t z bytes : Nat} (ht : P.underlying t = some (.slice e)) (hinfo : (P.info? e).map (fun i => (i.zero.map (·.cells.size), i.size, i.bytes)) = some (some z, z, bytes)) (hz0 : Nat.blt 0 z = true) (hby : Nat.ble bytes 128 = true) {s : SOp} {rest : List Itm} {d : Nat} {x y : Operand} {A Y : Option Addr} {n c cy : Nat} {xs news : List Value} (fr : FrD Df N a L) (hw : wantS L s = some true) (hq : s.q = false) (hd : s.dst = some d) (hlt : Nat.blt d N = true)
    (ho : s.op = .call { callee := .builtin .append, args := #[x, y], argTypes := #[t, t] }) (hx : ev L x = some (.slice A n c)) (hy : ev L y = some (.slice Y 1 cy)) (h1 : news.all (fun u => u.oneCell') = true) (hb : n ≤ 1000000000000) (S : Sat w0 w (rvA e z Y cy 1 news :: rvA e z A c n xs :: R))
    (h : ∀ w' A2 c2, Sat w0 w' (rvA e z A2 c2 (n + 1) (xs ++ news) :: R) → S' w' ∧ ∀ a', FrD Df N a' ((d, .slice A2 (n + 1) c2) :: L) → SL P Q S' rest a' w') : SL P Q S' (.one s :: rest) a w := by
  obtain ⟨A2, c2, w', r1, r2, r3⟩ := rvapp_exec (P := P) ht hinfo hz0 hby fr (o := s.oper) ho hx hy h1 hb S
  exact sl_val fr hw hq hd hlt r1 (h w' A2 c2 r3).1 r2 (h w' A2 c2 r3).2
theorem wl_rvapp {t z bytes : Nat} (ht : P.underlying t = some (.slice e)) (hinfo : (P.info? e).map (fun i => (i.zero.map (·.cells.size), i.size, i.bytes)) = some (some z, z, bytes)) (hz0 : Nat.blt 0 z = true) (hby : Nat.ble bytes 128 = true) {o : Oper} {rest : List Oper} {d : Nat} {x y : Operand} {A Y : Option Addr} {n c cy : Nat} {xs news : List Value} (fr : FrD Df N a L) (hw : wantL ops L o = some true) (hd : o.dst = some d) (hlt : Nat.blt d N = true)
    (ho : o.op = .call { callee := .builtin .append, args := #[x, y], argTypes := #[t, t] }) (hx : ev L x = some (.slice A n c)) (hy : ev L y = some (.slice Y 1 cy)) (h1 : news.all (fun u => u.oneCell') = true) (hb : n ≤ 1000000000000) (S : Sat w0 w (rvA e z Y cy 1 news :: rvA e z A c n xs :: R))
    (h : ∀ w' A2 c2, Sat w0 w' (rvA e z A2 c2 (n + 1) (xs ++ news) :: R) → ∀ a', FrD Df N a' ((d, .slice A2 (n + 1) c2) :: L) → wpList P ops Q rest a' w') : wpList P ops Q (o :: rest) a w := by
  obtain ⟨A2, c2, w', r1, r2, r3⟩ := rvapp_exec (P := P) ht hinfo hz0 hby fr ho hx hy h1 hb S
  exact wl_val fr hw hd hlt r1 r2 (h w' A2 c2 r3)
end
/-! ### What is held -/
structure Hd where
  A : Option Addr
  c : Nat
  l : List Int
  g : Option (Option Addr × Nat × List Int)
  k : Int
def Hd.lv (h : Hd) : Value := match h.g with
  | none => .slice none 0 0
  | some p => .slice p.1 p.2.2.length p.2.1
def hdV (h : Hd) : List Value := [.slice h.A h.l.length h.c, h.lv, .int .i64 h.k]
def hdsV (hs : List Hd) : List Value := hs.flatMap hdV
def hdA (k : IntKind) (e : Nat) (h : Hd) : Asn := match h.g with
  | none => ownA k e h.A h.c h.l
  | some p => gwA e 1 h.A (h.l.map (Value.int k)) p.1 p.2.1 p.2.2.length (p.2.2.map (Value.int k))
theorem hdsV_len (hs : List Hd) : (hdsV hs).length = hs.length * 3 := by
  induction hs with
  | nil => rfl
  | cons h r ih =>
    have : hdsV (h :: r) = hdV h ++ hdsV r := by simp [hdsV]
    rw [this, List.length_append, ih, List.length_cons]
    show 3 + _ = _
    omega
theorem hdsV_at : ∀ (hs : List Hd) (i j : Nat) (u : Value) (hi : i < hs.length), (hdV hs[i])[j]? = some u → (hdsV hs)[i * 3 + j]? = some u := by
  intro hs
  induction hs with
  | nil => intro i j u hi; exact absurd hi (Nat.not_lt_zero _)
  | cons h r ih =>
    intro i j u hi hu
    have e : hdsV (h :: r) = hdV h ++ hdsV r := by simp [hdsV]
    have hl : (hdV h).length = 3 := rfl
    rw [e]
    cases i with
    | zero =>
      have hj : j < 3 := (List.getElem?_eq_some_iff.1 hu).1
      rw [List.getElem?_append_left (by omega), Nat.zero_mul, Nat.zero_add]
      exact hu
    | succ i =>
      rw [List.getElem?_append_right (by omega), show (i + 1) * 3 + j - (hdV h).length = i * 3 + j by omega]
      exact ih i j u (by simpa using hi) hu
theorem hdsV_set : ∀ (hs : List Hd) (i : Nat) (h' : Hd) (v : Value) (hi : i < hs.length), hdV h' = (hdV hs[i]).set 1 v → splice (hdsV hs) (i * 3 + 1) [v] = hdsV (hs.set i h') := by
  intro hs
  induction hs with
  | nil => intro i h' v hi; exact absurd hi (Nat.not_lt_zero _)
  | cons h r ih =>
    intro i h' v hi hv
    have e : hdsV (h :: r) = hdV h ++ hdsV r := by simp [hdsV]
    have hl : (hdV h).length = 3 := rfl
    cases i with
    | zero =>
      have e2 : hdsV ((h :: r).set 0 h') = hdV h' ++ hdsV r := by simp [hdsV]
      rw [e, e2, hv]
      simp [splice, hdV]
    | succ i =>
      have e2 : hdsV ((h :: r).set (i + 1) h') = hdV h ++ hdsV (r.set i h') := by simp [hdsV]
      rw [e, e2, ← ih i h' v (by simpa using hi) hv]
      unfold splice
      rw [show (i + 1) * 3 + 1 = (hdV h).length + (i * 3 + 1) by omega, List.take_length_add_append, List.append_assoc]
      congr 1
      rw [show (hdV h).length + (i * 3 + 1) + [v].length = (hdV h).length + (i * 3 + 1 + [v].length) by omega, List.drop_length_add_append]
theorem hdsV_same (hs : List Hd) (f : Hd → Hd) (h : ∀ x ∈ hs, hdV (f x) = hdV x) : hdsV (hs.map f) = hdsV hs := by
  induction hs with
  | nil => rfl
  | cons x r ih =>
    have e : ∀ (x : Hd) r, hdsV (x :: r) = hdV x ++ hdsV r := fun x r => by simp [hdsV]
    rw [List.map_cons, e, e, h x List.mem_cons_self, ih fun y hy => h y (List.mem_cons_of_mem _ hy)]
section
variable {w w0 : World} {R M X : List Asn} {k : IntKind} {e eo c : Nat} {A : Option Addr} {hs : List Hd} {i : Nat}
theorem held_at (S : Sat w0 w M) (j : Nat) (hj : M[j]? = some (rvA eo 3 A c hs.length (hdsV hs))) (hi : i < hs.length) : (∃ g, A = some ⟨g, 0, none⟩) ∧ (∀ ad, A = some ad → ∃ g, ad = ⟨g, 0, none⟩ ∧ w.rangeAt g (i * 3) (hdV hs[i])) ∧ ∀ v ∈ hdV hs[i], vok1 v = true := by
  obtain ⟨h1, h2, h3, h4, h5⟩ := S.rvAt j hj
  refine ⟨?_, fun ad he => ?_, fun v hv => ?_⟩
  · cases A with
    | none => have := h3 rfl; omega
    | some ad =>
      obtain ⟨g, rfl, _⟩ := h5 ad rfl
      exact ⟨g, rfl⟩
  · obtain ⟨g, rfl, hr⟩ := h5 ad he
    refine ⟨g, rfl, fun q u hu => ?_⟩
    have := hr (i * 3 + q) u (hdsV_at hs i q u hi hu)
    rwa [Nat.zero_add] at this
  · obtain ⟨q, hq⟩ := List.getElem?_of_mem hv
    exact h4 v (List.mem_of_getElem? (hdsV_at hs i q v hi hq))
theorem erase_parts {α : Type} (hs : List α) (hi : i < hs.length) (x : α) : hs = hs.take i ++ hs[i] :: hs.drop (i + 1) ∧ hs.eraseIdx i = hs.take i ++ hs.drop (i + 1) ∧ hs.set i x = hs.take i ++ x :: hs.drop (i + 1) :=
  ⟨by rw [List.getElem_cons_drop]; exact (List.take_append_drop i hs).symm, List.eraseIdx_eq_take_drop_succ hs i, List.set_eq_take_append_cons_drop.trans (by rw [if_pos hi])⟩
theorem mid_perm {a : Asn} {X Y Z W : List Asn} : (X ++ ((Y ++ a :: Z) ++ W)).Perm (a :: (X ++ ((Y ++ Z) ++ W))) := by
  have h1 : (X ++ ((Y ++ a :: Z) ++ W)) = (X ++ Y) ++ a :: (Z ++ W) := by simp
  have h2 : (a :: (X ++ ((Y ++ Z) ++ W))) = a :: ((X ++ Y) ++ (Z ++ W)) := by simp
  rw [h1, h2]
  exact List.perm_middle
theorem hds_out (X : List Asn) (S : Sat w0 w (X ++ (hs.map (hdA k e) ++ R))) (hi : i < hs.length) : Sat w0 w (hdA k e hs[i] :: (X ++ ((hs.eraseIdx i).map (hdA k e) ++ R))) := by
  obtain ⟨e1, e2, -⟩ := erase_parts hs hi hs[i]
  have e1' : hs.map (hdA k e) = (hs.take i).map (hdA k e) ++ hdA k e hs[i] :: (hs.drop (i + 1)).map (hdA k e) := by
    conv => lhs; rw [e1]
    rw [List.map_append, List.map_cons]
  rw [e2, List.map_append]
  rw [e1'] at S
  exact S.perm mid_perm
theorem hds_in (X : List Asn) {h' : Hd} (S : Sat w0 w (hdA k e h' :: (X ++ ((hs.eraseIdx i).map (hdA k e) ++ R)))) (hi : i < hs.length) : Sat w0 w (X ++ ((hs.set i h').map (hdA k e) ++ R)) := by
  obtain ⟨e1, e2, e3⟩ := erase_parts hs hi h'
  rw [e3, List.map_append, List.map_cons]
  rw [e2, List.map_append] at S
  exact S.perm mid_perm.symm
end
theorem i64_next {i n : Nat} (h : i < n) (hn : n ≤ 9223372036854775807) : IntKind.wrap .i64 ((i : Int) + 1) = ((i + 1 : Nat) : Int) := by rw [show IntKind.wrap .i64 ((i : Int) + 1) = (i : Int) + 1 from IntWalk.i64_in _ ⟨by omega, by omega⟩]; omega
/-- The first ones are turned. -/
def partL {α : Type} (f : α → α) (i : Nat) (l : List α) : List α := (l.take i).map f ++ l.drop i
section
variable {α : Type} {f : α → α} {l : List α} {i : Nat}
theorem partL_0 : partL f 0 l = l := by simp [partL]
theorem partL_all : partL f l.length l = l.map f := by simp [partL]
theorem partL_len : (partL f i l).length = l.length := by simp [partL]; omega
theorem partL_get (hi : i < l.length) : (partL f i l)[i]? = some l[i] := by
  unfold partL
  rw [List.getElem?_append_right (by simp; omega), List.length_map, List.length_take, Nat.min_eq_left (by omega), Nat.sub_self, List.getElem?_drop, Nat.add_zero, List.getElem?_eq_getElem hi]
theorem partL_get' (hi : i < l.length) (h : i < (partL f i l).length) : (partL f i l)[i] = l[i] := by
  have := partL_get (f := f) hi
  rw [List.getElem?_eq_getElem h] at this
  injection this
theorem partL_set (hi : i < l.length) : (partL f i l).set i (f l[i]) = partL f (i + 1) l := by
  unfold partL
  rw [List.set_append_right _ _ (by simp; omega), List.length_map, List.length_take, Nat.min_eq_left (by omega), Nat.sub_self, List.take_succ_eq_append_getElem hi, List.map_append, List.append_assoc]
  congr 1
  have e : l.drop i = l[i] :: l.drop (i + 1) := List.drop_eq_getElem_cons hi
  rw [e, List.set_cons_zero]
  rfl
end
end Go.Proofs.YticnjkdaccacaaaGreatDoor.Sx
end
section
/- Rows of one's own of elements of several cells, as lists of what the elements are. -/
namespace Go.Proofs.YticnjkdaccacaaaGreatDoor.Sx
open Go Go.RowKit Base Own OwnV

section
variable {α : Type} {f : α → List Value} {z : Nat}
theorem el_len (hf : ∀ x, (f x).length = z) (l : List α) : (l.flatMap f).length = l.length * z := by
  induction l with
  | nil => simp
  | cons x l ih => rw [List.flatMap_cons, List.length_append, hf, ih, List.length_cons, Nat.add_mul, Nat.one_mul, Nat.add_comm]
theorem el_get (hf : ∀ x, (f x).length = z) : ∀ (l : List α) (i j : Nat) (u : Value) (hi : i < l.length), (f l[i])[j]? = some u → (l.flatMap f)[i * z + j]? = some u := by
  intro l
  induction l with
  | nil => intro i j u hi; exact absurd hi (Nat.not_lt_zero _)
  | cons x l ih =>
    intro i j u hi hu
    rw [List.flatMap_cons]
    cases i with
    | zero =>
      have hj := (List.getElem?_eq_some_iff.1 hu).1
      rw [List.getElem?_append_left (by simpa using hj), Nat.zero_mul, Nat.zero_add]
      exact hu
    | succ i =>
      have h1 := hf x
      rw [List.getElem?_append_right (by rw [h1, Nat.add_mul]; omega), h1, show (i + 1) * z + j - z = i * z + j by rw [Nat.add_mul]; omega]
      exact ih i j u (by simpa using hi) hu
theorem el_take (hf : ∀ x, (f x).length = z) : ∀ (l : List α) (k : Nat), (l.take k).flatMap f = (l.flatMap f).take (k * z) := by
  intro l
  induction l with
  | nil => intro k; simp
  | cons x l ih =>
    intro k
    cases k with
    | zero => simp
    | succ k => rw [List.take_succ_cons, List.flatMap_cons, List.flatMap_cons, ih, Nat.add_mul, Nat.one_mul, Nat.add_comm, ← hf x, List.take_length_add_append]
theorem el_drop (hf : ∀ x, (f x).length = z) : ∀ (l : List α) (k : Nat), (l.drop k).flatMap f = (l.flatMap f).drop (k * z) := by
  intro l
  induction l with
  | nil => intro k; simp
  | cons x l ih =>
    intro k
    cases k with
    | zero => simp
    | succ k => rw [List.drop_succ_cons, List.flatMap_cons, ih, Nat.add_mul, Nat.one_mul, Nat.add_comm, ← hf x, List.drop_length_add_append]
theorem el_snoc (l : List α) (x : α) : (l ++ [x]).flatMap f = l.flatMap f ++ f x := by simp
end
section
variable {P : Program} {T : Orc} {ops : Array Oper} {Q : Exit → Act → World → Prop} {S' : World → Prop} {Df : List Deferred} {N : Nat} {a : Act} {w w0 : World} {L : Env} {R M : List Asn} {e z : Nat} {A : Option Addr} {c n : Nat} {xs : List Value}
theorem rv_append_none {P : Program} (w : World) {t ty : Nat} (ht : P.underlying t = some (.slice e)) {bytes : Nat} (hinfo : (P.info? e).map (fun i => (i.zero.map (·.cells.size), i.size, i.bytes)) = some (some z, z, bytes)) (A : Option Addr) (n c cy : Nat) (hn : n ≤ c) :
    (Builtin.append_ #[t, t] ty #[.slice A n c, .slice none 0 cy]).run P w = .ok (.slice A n c) w := by
  obtain ⟨i, hi, hzz⟩ := Option.map_eq_some_iff.1 hinfo
  simp only [Builtin.append_, Sem.run_bind, run_underlying ht, Result.andThen_ok]
  simp [sizeOf, typeInfo, hi, Builtin.lenOf, hn, Builtin.firstCells, run_underlying ht]
  cases A <;> simp [storeCells]
/-- Some elements more behind a row of one's own. -/
theorem rv_appm {t ty bytes m : Nat} (ht : P.underlying t = some (.slice e)) (hinfo : (P.info? e).map (fun i => (i.zero.map (·.cells.size), i.size, i.bytes)) = some (some z, z, bytes)) (hz0 : 0 < z) (hby : bytes ≤ 128) (S : Sat w0 w (rvA e z A c n xs :: R))
    {Y : Option Addr} {cy : Nat} {news : List Value} (hl : news.length = m * z) (hY : Y = none → m = 0) (hc : ∀ ad, Y = some ad → ∀ j u, news[j]? = some u → w.cell? (ad.add j) = some u) (h1 : ∀ u ∈ news, u.oneCell' = true ∧ vok1 u = true) (hb : n + m ≤ 1000000000000) :
    ∃ A2 c2 w', (Builtin.append_ #[t, t] ty #[.slice A n c, .slice Y m cy]).run P w = .ok (.slice A2 (n + m) c2) w' ∧ (n + m ≤ c2 ∧ c2 ≤ maxLen) ∧ Sat w0 w' (rvA e z A2 c2 (n + m) (xs ++ news) :: R) := by
  cases Y with
  | none =>
    have hm := hY rfl
    subst hm
    have hn : news = [] := List.eq_nil_of_length_eq_zero (by simpa using hl)
    subst hn
    obtain ⟨-, h2, -⟩ := rv_facts S
    exact ⟨A, c, w, rv_append_none w ht hinfo A n c cy h2.1, h2, by rw [List.append_nil]; exact S⟩
  | some ad =>
    obtain ⟨F, ⟨g2, g3, g5⟩, hF, hk⟩ := S.opened
    obtain ⟨i, hi, hzz⟩ := Option.map_eq_some_iff.1 hinfo
    simp only [Prod.mk.injEq] at hzz
    obtain ⟨hz1, hsz, hbi⟩ := hzz
    obtain ⟨z0, hz, hzc⟩ := Option.map_eq_some_iff.1 hz1
    have hmul : (n + m) * bytes ≤ (n + m) * 128 := Nat.mul_le_mul_left _ hby
    obtain ⟨v', w', hr, k1, k2⟩ := append_two (P := P) w w0.heap.size t ty e i z0 z bytes ht hi hz hsz hbi hzc hz0 (.slice A n c) n xs g2 ad m cy news hl (hc ad rfl) (fun u hu => (h1 u hu).1) (by unfold maxLen; omega) (by omega) S.below.size
    have k1' : RowV w' w0.heap.size e z v' (n + m) (xs ++ news) := k1
    obtain ⟨A2, c2, rfl, q1, q2, q3, q4⟩ := k1'.slice
    refine ⟨A2, c2, w', hr, ⟨q1, q2⟩, ?_⟩
    have hv : ∀ v ∈ xs ++ news, vok1 v = true := fun v hv => by
      rcases List.mem_append.1 hv with hv | hv
      · exact g3 v hv
      · exact (h1 v hv).2
    rcases k2 with ⟨k2, k3⟩ | ⟨k2, k3⟩
    · exact hk (A' := rvA e z A2 c2 (n + m) (xs ++ news)) (F' := F) ⟨k1', hv, fun g => by rw [g5 g, k3]⟩ (Chg.of_grown k2) (fun g _ hg => (g5 g).2 hg.symm) fun g hg => .inl hg
    · refine hk (A' := rvA e z A2 c2 (n + m) (xs ++ news)) (F' := fun g => (Value.slice A2 (n + m) c2).ownBlock = some g) ⟨k1', hv, fun g => Iff.rfl⟩ (G := fun _ => False) ((Chg.of_grown k2).mono fun g _ h => by cases h) (fun g _ hg => hg.elim) fun g hg => ?_
      rw [k3] at hg
      injection hg with hg
      exact .inr (Nat.le_of_eq hg)
theorem wl_rvappm {t bytes m : Nat} (ht : P.underlying t = some (.slice e)) (hinfo : (P.info? e).map (fun i => (i.zero.map (·.cells.size), i.size, i.bytes)) = some (some z, z, bytes)) (hz0 : Nat.blt 0 z = true) (hby : Nat.ble bytes 128 = true) {o : Oper} {rest : List Oper} {d : Nat} {x y : Operand} {Y : Option Addr} {cy : Nat} {news : List Value} (fr : FrD Df N a L) (hw : wantL ops L o = some true) (hd : o.dst = some d) (hlt : Nat.blt d N = true)
    (ho : o.op = .call { callee := .builtin .append, args := #[x, y], argTypes := #[t, t] }) (hx : ev L x = some (.slice A n c)) (hy : ev L y = some (.slice Y m cy)) (hl : news.length = m * z) (hY : Y = none → m = 0) (hc : ∀ ad, Y = some ad → ∀ j u, news[j]? = some u → w.cell? (ad.add j) = some u) (h1 : ∀ u ∈ news, u.oneCell' = true ∧ vok1 u = true) (hb : n + m ≤ 1000000000000) (S : Sat w0 w (rvA e z A c n xs :: R))
    (h : ∀ w' A2 c2, Sat w0 w' (rvA e z A2 c2 (n + m) (xs ++ news) :: R) → ∀ a', FrD Df N a' ((d, .slice A2 (n + m) c2) :: L) → wpList P ops Q rest a' w') : wpList P ops Q (o :: rest) a w := by
  obtain ⟨A2, c2, w', r1, r2, r3⟩ := rv_appm (P := P) (ty := o.type) (cy := cy) ht hinfo (blt_lt hz0) (Nat.le_of_ble_eq_true hby) S hl hY hc h1 hb
  exact wl_val fr hw hd hlt (app_op fr ho hx hy r1) (vok_sl r2) (h w' A2 c2 r3)
/-- A slice up to somewhere, whatever its elements are. -/
theorem wl_takev (hT : T.Ok P) {o : Oper} {rest : List Oper} {t s : TypeId} {x y : Operand} {d : Nat} {ki : IntKind} {i : Nat} (fr : FrD Df N a L) (hw : wantL ops L o = some true) (ho : o.op = .slice t x none (some y) none) (hd : o.dst = some d) (hlt : Nat.blt d N = true)
    (hx : ev L x = some (.slice A n c)) (hy : ev L y = some (.int ki (i : Int))) (ht : T.ty.lookup t = some (.slice e)) (hs : T.sz.lookup e = some s) (hb : i ≤ n)
    (h : ∀ a', FrD Df N a' ((d, .slice A i c) :: L) → wpList P ops Q rest a' w) : wpList P ops Q (o :: rest) a w := by
  have hv : n ≤ c ∧ c ≤ maxLen := by simpa [vok, vokC, vok1] using (fr.ev hx).2
  have h1 := take_run hT fr ho hx hy ht hs ⟨by omega, by omega⟩ w
  rw [Int.toNat_natCast] at h1
  exact wl_val fr hw hd hlt h1 (vok_sl ⟨by omega, hv.2⟩) h
/-- .. and from somewhere on. -/
def dropV (z : Nat) (A : Option Addr) (c j : Nat) : Option Addr := if c = j then A else A.map (·.add (j * z))
theorem wl_dropv (hT : T.Ok P) {o : Oper} {rest : List Oper} {t : TypeId} {x y : Operand} {d : Nat} {ki : IntKind} {i : Nat} (fr : FrD Df N a L) (hw : wantL ops L o = some true) (ho : o.op = .slice t x (some y) none none) (hd : o.dst = some d) (hlt : Nat.blt d N = true)
    (hx : ev L x = some (.slice A n c)) (hy : ev L y = some (.int ki (i : Int))) (ht : T.ty.lookup t = some (.slice e)) (hs : T.sz.lookup e = some z) (hb : i ≤ n)
    (h : ∀ a', FrD Df N a' ((d, .slice (dropV z A c i) (n - i) (c - i)) :: L) → wpList P ops Q rest a' w) : wpList P ops Q (o :: rest) a w := by
  have hv : n ≤ c ∧ c ≤ maxLen := by simpa [vok, vokC, vok1] using (fr.ev hx).2
  refine wl_val fr hw hd hlt (slice_run hT fr ho hx (vlo := some (.int ki (i : Int))) (vhi := none) (vmx := none) (congrArg some (fr.ev hy).1) rfl rfl ht (fun W => ?_) w) (vok_sl ⟨by omega, by omega⟩) h
  simp only [Instr.slice, Sem.run_bind, run_underlying (hT.und ht), Result.andThen_ok, Instr.sliceBounds, Instr.sliceBound, asIntOf, Sem.run_pure, Option.isSome]
  rw [if_pos ⟨by omega, by omega⟩]
  simp [size_run hT hs, dropV]
theorem dropV_reads {w : World} {A : Option Addr} {c i z : Nat} {xs : List Value} (hA : ∀ ad, A = some ad → ∃ g, ad = ⟨g, 0, none⟩ ∧ w.rangeAt g 0 xs) (hl : xs.length ≤ c * z) : ∀ ad, dropV z A c i = some ad → ∀ j u, (xs.drop (i * z))[j]? = some u → w.cell? (ad.add j) = some u := by
  intro ad he j u hu
  rw [List.getElem?_drop] at hu
  have hlt := (List.getElem?_eq_some_iff.1 hu).1
  unfold dropV at he
  by_cases hc : c = i
  · subst hc; omega
  · rw [if_neg hc] at he
    obtain ⟨a0, ha, rfl⟩ := Option.map_eq_some_iff.1 he
    obtain ⟨g, rfl, hr⟩ := hA a0 ha
    have := hr _ u hu
    rw [add_add, addr0]
    rwa [Nat.zero_add] at this
theorem dropV_none {A : Option Addr} {c i z n : Nat} (h : A = none → n = 0) : dropV z A c i = none → n - i = 0 := by
  intro he
  unfold dropV at he
  split at he
  · rw [h he]; exact Nat.zero_sub _
  · cases A with
    | none => rw [h rfl]; exact Nat.zero_sub _
    | some ad => cases he
/-- The place of a cell of an element. -/
theorem elem_cell {w : World} {g i z j : Nat} {f : List Value} {u : Value} (hr : w.rangeAt g (i * z) f) (hu : f[j]? = some u) : w.cell? (((⟨g, 0, none⟩ : Addr).add ((i : Int).toNat * z)).add j) = some u := by
  rw [add_add, addr0, Int.toNat_natCast]
  exact hr j u hu
end
end Go.Proofs.YticnjkdaccacaaaGreatDoor.Sx
end
section
/- A region that draws its order, some operations of which may come up in several orders: by what holds when so many of them have come up. -/
namespace Go.Proofs.YticnjkdaccacaaaGreatDoor.Sx
open Go Go.RowKit Base Own

/-- So many of them have come up: which, and which may come up next (each with what it leads to). -/
structure Pn where
  key : Nat
  fl : Array Bool
  js : List (Nat × Option Tmp × Nat)
def cntF (l : Array Bool) : Nat := l.toList.count false
def endI (I : Act → World → Prop) (e : Exit) (a : Act) (w : World) : Prop := e = .normal ∧ I a w
section
variable {P : Program} {ops : Array Oper} {Q : Exit → Act → World → Prop} {S : World → Prop}
def okNode (ops : Array Oper) (all : List Pn) (lf : Array Bool) (kf : Nat) (nd : Pn) : Bool :=
  (Region.ready .any ops nd.fl == nd.js.map (·.1)) && !nd.js.isEmpty && nd.js.all fun x =>
    (cntF nd.fl == cntF (nd.fl.setIfInBounds x.1 true) + 1) && ((x.2.2 == kf && nd.fl.setIfInBounds x.1 true == lf) || all.any fun m => m.key == x.2.2 && m.fl == nd.fl.setIfInBounds x.1 true)
def stripJ (ops : Array Oper) : List (Nat × Option Tmp × Nat) → Option (List (SOp × Nat))
  | [] => some []
  | (j, N, k) :: r => (strip ops (j, false, N)).bind fun s => if s.g.isNone && ((ops[j]?).map (·.dst) == some N) then (stripJ ops r).map ((s, k) :: ·) else none
def stripP (ops : Array Oper) : List Pn → Option (List (Nat × List (SOp × Nat)))
  | [] => some []
  | nd :: r => (stripJ ops nd.js).bind fun l => (stripP ops r).map ((nd.key, l) :: ·)
def PJ (P : Program) (S : World → Prop) (I : Nat → Act → World → Prop) (k : Nat) : List (SOp × Nat) → Prop
  | [] => True
  | (s, k') :: r => (∀ a w, S w → I k a w → SL P (endI (I k')) S [.one s] a w) ∧ PJ P S I k r
def PSteps (P : Program) (S : World → Prop) (I : Nat → Act → World → Prop) : List (Nat × List (SOp × Nat)) → Prop
  | [] => True
  | (k, l) :: r => PJ P S I k l ∧ PSteps P S I r
theorem pj_at {I : Nat → Act → World → Prop} {k : Nat} : ∀ {js : List (Nat × Option Tmp × Nat)} {l : List (SOp × Nat)}, stripJ ops js = some l → PJ P S I k l → ∀ x ∈ js, ∃ o, ops[x.1]? = some o ∧ (∀ t, Region.wanted o t = true) ∧
    ∀ a w, S w → I k a w → ∀ K : Act → World → Prop, (∀ a' w', S w' → I x.2.2 a' w' → K a' w') → Oper.wp P o a w K (fun _ _ _ => False) := by
  intro js
  induction js with
  | nil => intro l _ _ x hx; cases hx
  | cons y js ih =>
    obtain ⟨j, N, k'⟩ := y
    intro l hl hp x hx
    simp only [stripJ, Option.bind_eq_some_iff] at hl
    obtain ⟨s, hs, hl⟩ := hl
    split at hl
    case isFalse => cases hl
    rename_i hg
    rw [Option.map_eq_some_iff] at hl
    obtain ⟨l', hl', rfl⟩ := hl
    simp only [Bool.and_eq_true, Option.isNone_iff_eq_none, beq_iff_eq] at hg
    rcases List.mem_cons.1 hx with rfl | hx
    · cases ho : ops[j]? with
      | none => rw [ho] at hg; simp at hg
      | some o =>
        rw [ho] at hg
        have hd : o.dst = N := by simpa using hg.2
        have hgo : o.guard = none := by
          have hs' := hs
          unfold strip at hs'
          rw [ho] at hs'
          simp only [Option.bind_some] at hs'
          cases hgg : o.guard with
          | none => rfl
          | some g =>
            rw [hgg] at hs'
            simp only [Option.map_eq_some_iff] at hs'
            obtain ⟨t', _, rfl⟩ := hs'
            exact absurd hg.1 (by simp)
        refine ⟨o, rfl, fun t => by simp [Region.wanted, hgo], fun a w hS hI K hK => ?_⟩
        obtain ⟨_, hq, hsd, hop, hty⟩ := strip_wanted (x := (j, false, N)) ho hs a.tmps
        rcases hp.1 a w hS hI with ⟨h1, _, _⟩ | ⟨_, h2, _⟩ | ⟨_, _, h3⟩
        · have : s.wanted a.tmps = true := by simp [SOp.wanted, hg.1]
          rw [this] at h1; cases h1
        · have h2' : s.q = true := h2
          rw [hq] at h2'; cases h2'
        · exact oper_same hop hty (hsd.trans hd.symm) (h3 K fun a' w' hS' hh => hK a' w' hS' hh.2)
    · exact ih hl' hp.2 x hx
theorem psteps_at {I : Nat → Act → World → Prop} : ∀ {nodes : List Pn} {L : List (Nat × List (SOp × Nat))}, stripP ops nodes = some L → PSteps P S I L → ∀ nd ∈ nodes, ∃ l, stripJ ops nd.js = some l ∧ PJ P S I nd.key l := by
  intro nodes
  induction nodes with
  | nil => intro L _ _ nd h; cases h
  | cons n nodes ih =>
    intro L hL hp nd hnd
    simp only [stripP, Option.bind_eq_some_iff, Option.map_eq_some_iff] at hL
    obtain ⟨l, hl, L', hL', rfl⟩ := hL
    rcases List.mem_cons.1 hnd with rfl | hnd
    · exact ⟨l, hl, hp.1⟩
    · exact ih hL' hp.2 nd hnd
theorem pool_held {I : Nat → Act → World → Prop} {nodes : List Pn} {lf : Array Bool} {kf : Nat} {L : List (Nat × List (SOp × Nat))} (hall : nodes.all (okNode ops nodes lf kf) = true) (hL : stripP ops nodes = some L) (hs : PSteps P S I L)
    (hfin : ∀ a w, S w → I kf a w → wpAnyH P .any ops (np Q) S (cntF lf) lf a w) : ∀ (n : Nat) (nd : Pn), nd ∈ nodes → cntF nd.fl = n → ∀ a w, S w → I nd.key a w → wpAnyH P .any ops (np Q) S n nd.fl a w := by
  intro n
  induction n with
  | zero =>
    intro nd hnd hc a w hS hI
    have hok := List.all_eq_true.1 hall nd hnd
    unfold okNode at hok
    simp only [Bool.and_eq_true, List.all_eq_true, beq_iff_eq, Bool.not_eq_true', List.isEmpty_eq_false_iff] at hok
    obtain ⟨⟨h1, h2⟩, h3⟩ := hok
    obtain ⟨x, hx⟩ := List.exists_mem_of_ne_nil _ h2
    have := (h3 x hx).1
    omega
  | succ n ih =>
    intro nd hnd hc a w hS hI
    have hok := List.all_eq_true.1 hall nd hnd
    unfold okNode at hok
    simp only [Bool.and_eq_true, List.all_eq_true, beq_iff_eq, Bool.not_eq_true', List.isEmpty_eq_false_iff] at hok
    obtain ⟨⟨h1, h2⟩, h3⟩ := hok
    obtain ⟨l, hl, hj⟩ := psteps_at hL hs nd hnd
    refine wpAnyH_all h1 (by simpa using h2) fun i hi => ?_
    obtain ⟨x, hx, rfl⟩ := List.mem_map.1 hi
    obtain ⟨o, ho, hw, hstep⟩ := pj_at hl hj x hx
    have h4 := h3 x hx
    simp only [Bool.or_eq_true, Bool.and_eq_true, beq_iff_eq, List.any_eq_true] at h4
    obtain ⟨h5, h6⟩ := h4
    refine wpOp_of ho hw (hstep a w hS hI _ fun a' w' hS' hI' => ⟨hS', ?_⟩)
    rcases h6 with ⟨h7, h8⟩ | ⟨m, hm, h7, h8⟩
    · rw [h8]
      rw [h8] at h5
      have := hfin a' w' hS' (by rw [← h7]; exact hI')
      rwa [show cntF lf = n by omega] at this
    · rw [← h8]
      rw [← h8] at h5
      exact ih m hm (by omega) a' w' hS' (by rw [h7]; exact hI')
def flagsB : Array Bool → List Sg → Array Bool
  | l, [] => l
  | l, .one (i, _, _) :: r => flagsB (l.setIfInBounds i true) r
  | l, .two i j _ _ :: r => flagsB ((l.setIfInBounds i true).setIfInBounds j true) r
def okPre (ops : Array Oper) : Array Bool → List Sg → Bool
  | _, [] => true
  | l, .one (i, true, _) :: r => Region.free .any ops l i && (Region.ready .any ops l).contains i && okPre ops (l.setIfInBounds i true) r
  | _, _ => false
theorem pre_held (hsel : Region.noSelect ops = true) {Q0 : Exit → Act → World → Prop} {n : Nat} : ∀ (σ : List Sg) (l : Array Bool) (a : Act) (w : World), okPre ops l σ = true → S w → (∀ a w, S w → Q0 .normal a w → wpAnyH P .any ops (np Q) S n (flagsB l σ) a w) → Sched P ops Q0 S σ a w →
    wpAnyH P .any ops (np Q) S (n + cost σ) l a w := by
  intro σ
  induction σ with
  | nil => intro l a w _ hS hf h; exact hf a w hS h
  | cons x r ih =>
    intro l a w hok hS hf h
    cases x with
    | two i j N M => simp [okPre] at hok
    | one x =>
      obtain ⟨i, b, N⟩ := x
      cases b with
      | false => simp [okPre] at hok
      | true =>
        obtain ⟨o, v, ho, rfl, hy, h⟩ := h
        simp only [okPre, Bool.and_eq_true] at hok
        exact wpAnyH_take ho hsel hok.1.1 hok.1.2 (fun _ _ _ hp => hp) hy hS (ih _ _ _ hok.2 hS hf h)
/-- The beginning: what only yields; the pool; what stands behind it. -/
theorem wp_region_pool {id : Nat} {a : Act} {w : World} (I : Nat → Act → World → Prop) (σ0 : List Sg) (L0 : List Itm) (nodes : List Pn) (n0 : Pn) (L : List (Nat × List (SOp × Nat))) (lf : Array Bool) (kf : Nat) (σ1 : List Sg) (L1 : List Itm) (S : World → Prop) (hm : P.follows .mixedOrders = true)
    (hok : (Region.noSelect ops && okPre ops (Array.replicate ops.size false) σ0 && (flagsB (Array.replicate ops.size false) σ0 == n0.fl) && (ops.size == cntF n0.fl + cost σ0) && (cntF lf == cost σ1) && okS ops lf σ1 && dstsOk ops σ0 && dstsOk ops σ1) = true)
    (hn0 : n0 ∈ nodes) (hall : nodes.all (okNode ops nodes lf kf) = true) (hL0 : strips ops σ0 = some L0) (hL : stripP ops nodes = some L) (hL1 : strips ops σ1 = some L1) (hS : S w.drew)
    (h0 : SL P (endI (I n0.key)) S L0 a w.drew) (hs : PSteps P S I L) (h1 : ∀ a w, S w → I kf a w → SL P Q S L1 a w) : (Code.region id ops true).wp P Q a w := by
  simp only [Bool.and_eq_true, beq_iff_eq] at hok
  obtain ⟨⟨⟨⟨⟨⟨⟨q1, q2⟩, q3⟩, q4⟩, q5⟩, q6⟩, q7⟩, q8⟩ := hok
  refine np_mono (wp_region_held (S := S) hm ?_)
  rw [q4] at *
  have key := pre_held (P := P) (S := S) (Q := Q) (n := cntF n0.fl) q1 σ0 (Array.replicate (cntF n0.fl + cost σ0) false) a w.drew (by rw [← q4] at q2 ⊢; exact q2) hS (Q0 := endI (I n0.key)) (fun a' w' hS' hq => by
    have e : flagsB (Array.replicate (cntF n0.fl + cost σ0) false) σ0 = n0.fl := q3
    rw [e]
    refine pool_held hall hL hs (fun a'' w'' hS'' hI => ?_) _ n0 hn0 rfl a' w' hS' hq.2
    rw [q5]
    exact sched_held q1 σ1 lf a'' w'' q6 hS'' (sl_sched σ1 L1 a'' w'' hL1 q8 (h1 a'' w'' hS'' hI))) (sl_sched σ0 L0 a _ hL0 q7 h0)
  exact key
end
end Go.Proofs.YticnjkdaccacaaaGreatDoor.Sx
end
section
/- A book's lists of Byte: kept, written over, grown, looked at. -/
namespace Go.Proofs.YticnjkdaccacaaaGreatDoor.Sx
open Go Go.RowKit Base Own OwnV

def orcByte : Orc := ⟨[(3, .int .i64), (4, .bool), (5, .int .u8), (45, .slice 5), (246, .struct #[Go.Field.mk "l" 45 0 false "" "concordat/concordatlaw01" 0, Go.Field.mk "long" 45 1 false "" "concordat/concordatlaw01" 24, Go.Field.mk "n" 3 2 false "" "concordat/concordatlaw01" 48]), (31, .slice 246), (153, .pointer 44), (44, .struct #[Go.Field.mk "n" 3 0 false "" "concordat/concordatlaw01" 0, Go.Field.mk "bytes" 31 1 false "" "concordat/concordatlaw01" 8, Go.Field.mk "ids" 32 2 false "" "concordat/concordatlaw01" 32, Go.Field.mk "ints" 33 3 false "" "concordat/concordatlaw01" 56, Go.Field.mk "texts" 34 4 false "" "concordat/concordatlaw01" 80, Go.Field.mk "rows" 35 5 false "" "concordat/concordatlaw01" 104, Go.Field.mk "ops" 36 6 false "" "concordat/concordatlaw01" 128, Go.Field.mk "spans" 37 7 false "" "concordat/concordatlaw01" 152, Go.Field.mk "changes" 38 8 false "" "concordat/concordatlaw01" 176, Go.Field.mk "results" 39 9 false "" "concordat/concordatlaw01" 200, Go.Field.mk "msgs" 40 10 false "" "concordat/concordatlaw01" 224, Go.Field.mk "parts" 41 11 false "" "concordat/concordatlaw01" 248, Go.Field.mk "deeds" 42 12 false "" "concordat/concordatlaw01" 272])],
  [(3, 1), (4, 1), (5, 1), (45, 1), (246, 3), (31, 1), (153, 1), (44, 13)]⟩
theorem orcByte_ok : orcByte.Ok Tryz.prog := ⟨⟨Tryz.underlying3, Tryz.underlying4, Tryz.underlying5, Tryz.underlying45, Tryz.underlying246, Tryz.underlying31, Tryz.underlying153, Tryz.underlying44, trivial⟩, ⟨by kernel_rfl, by kernel_rfl, by kernel_rfl, by kernel_rfl, by kernel_rfl, by kernel_rfl, by kernel_rfl, by kernel_rfl, trivial⟩⟩
theorem rowByte : RowTy Tryz.prog 45 5 .u8 := ⟨Tryz.underlying45, 1, by decide, by kernel_rfl⟩
theorem zeroByte : ∀ W, (zeroValue 246).run Tryz.prog W = .ok (.agg ([.slice none 0 0, .slice none 0 0, .int .i64 0] : List Value).toArray) W := fun _ => by kernel_rfl
def mkByte (n : Int) : Int := IntKind.wrap .u8 (IntKind.wrap .i64 (1 + n.tmod 250))
theorem mkByte_wf (n : Int) : (Lit.int .u8 (mkByte n)).wf = true := wf_wrap _ _
theorem enMkByte : Enters Tryz.prog 185 := fun _ _ => by kernel_rfl
theorem enIsByte : Enters Tryz.prog 197 := fun _ _ => by kernel_rfl
theorem enKeepByte : Enters Tryz.prog 81 := fun _ _ => by kernel_rfl
section
variable {w w0 : World} {R : List Asn}
theorem markByte_call {n : Int} (hv : (Lit.int .i64 n).wf = true) (S : Sat w0 w R) : Calls Tryz.prog 185 #[.int .i64 n] w fun e w' => e = .returned (.int .u8 (mkByte n)) ∧ Sat w0 w' R := by
  refine calls_start (N := 7) [.int .i64 n] Tryz.func185 rfl rfl rfl (vok_c hv rfl) fun a fr => ?_
  skip; (repeat (with_reducible refine wp_seq ?_)); refine wp_region_lit ?_
  refine wl_run orcByte_ok 1 rfl fr fun a fr => ?_
  refine wpList_nil ?_; (repeat (with_reducible refine then_n ?_))
  skip; (repeat (with_reducible refine wp_seq ?_)); refine wp_region_lit ?_
  refine wl_run orcByte_ok 5 rfl fr fun a fr => ?_
  refine wpList_nil ?_; (repeat (with_reducible refine then_n ?_))
  refine wp_ret ?_
  refine ret1 fr rfl rfl ?_
  exact ⟨rfl, S⟩
theorem isByte_call {x n : Int} (hx : (Lit.int .u8 x).wf = true) (hv : (Lit.int .i64 n).wf = true) (S : Sat w0 w R) : Calls Tryz.prog 197 #[.int .u8 x, .int .i64 n] w fun e w' => e = .returned (.bool (x == mkByte n)) ∧ Sat w0 w' R := by
  refine calls_start (N := 11) [.int .u8 x, .int .i64 n] Tryz.func197 rfl rfl rfl (vok_c hx (vok_c hv rfl)) fun a fr => ?_
  skip; (repeat (with_reducible refine wp_seq ?_)); refine wp_region_lit ?_
  refine wl_run orcByte_ok 1 rfl fr fun a fr => ?_
  refine wpList_nil ?_; (repeat (with_reducible refine then_n ?_))
  skip; (repeat (with_reducible refine wp_seq ?_)); refine wp_region_lit ?_
  refine wl_run orcByte_ok 7 rfl fr fun a fr => ?_
  refine wpList_nil ?_; (repeat (with_reducible refine then_n ?_))
  refine wp_ret ?_
  refine ret1 fr rfl rfl ?_
  exact ⟨rfl, S⟩
variable {b c : Nat} {A : Option Addr} {cells : List Value} {hs : List Hd}
set_option maxRecDepth 100000 in
set_option maxHeartbeats 1000000 in
theorem keepByte_call {r : Rw} {n : Int} (hm : r.2.2.length ≤ r.2.1 ∧ r.2.1 ≤ maxLen) (hn : n + 1 ≤ 1000000000 ∧ 0 ≤ n) (h0 : cells[0]? = some (.int .i64 n)) (hj : cells[1]? = some (.slice A hs.length c)) (hh : hs.length ≤ 1000000000)
    (S : Sat w0 w (ownA .u8 5 r.1 r.2.1 r.2.2 :: stA 44 b cells :: rvA 246 3 A c hs.length (hdsV hs) :: R)) :
    Calls Tryz.prog 81 #[.pointer (some ⟨b, 0, none⟩), rwV r] w fun e w' => ∃ A' c', e = .returned (.tuple #[]) ∧ Sat w0 w' (ownA .u8 5 r.1 r.2.1 r.2.2 :: stA 44 b ((cells.set 0 (.int .i64 (n + 1))).set 1 (.slice A' (hs.length + 1) c')) :: rvA 246 3 A' c' (hs.length + 1) (hdsV (hs ++ [⟨r.1, r.2.1, r.2.2, none, n + 1⟩])) :: R) := by
  refine calls_start (N := 26) [.pointer (some ⟨b, 0, none⟩), rwV r] Tryz.func81 rfl rfl rfl (vok_c rfl (vok_c (vok_sl (A := r.1) hm) rfl)) fun a fr => ?_
  skip; (repeat (with_reducible refine wp_seq ?_)); refine wp_region_lit ?_
  refine wl_run orcByte_ok 3 rfl fr fun a fr => ?_
  refine wl_ldf orcByte_ok (Sat.stAt S 1 rfl h0) fr rfl rfl rfl rfl rfl rfl rfl fun a fr => ?_
  refine wl_run orcByte_ok 3 rfl fr fun a fr => ?_
  have hw : IntKind.wrap .i64 (n + 1) = n + 1 := IntWalk.i64_in _ ⟨by omega, by omega⟩
  have fr := fr.spell (d := 8) rfl (congrArg (Value.int .i64) hw)
  have S := S.frontAt 1 rfl
  have hl0 : 0 < cells.length := (List.getElem?_eq_some_iff.1 h0).1
  have hlj : 1 < cells.length := (List.getElem?_eq_some_iff.1 hj).1
  refine wl_stf (j := 0) orcByte_ok fr rfl rfl rfl rfl rfl rfl rfl rfl S (Nat.ble_eq_true_of_le hl0) ?_
  intro w2 S
  refine wpList_nil ?_; (repeat (with_reducible refine then_n ?_))
  have q0 : (cells.set 0 (.int .i64 (n + 1)))[0]? = some (.int .i64 (n + 1)) := by simp [hl0]
  have qj : (cells.set 0 (.int .i64 (n + 1)))[1]? = some (.slice A hs.length c) := by rw [List.getElem?_set_ne (by decide)]; exact hj
  have S : Sat w0 w2 (stA 44 b (cells.set 0 (.int .i64 (n + 1))) :: rvA 246 3 A c hs.length (hdsV hs) :: ownA .u8 5 r.1 r.2.1 r.2.2 :: R) := (S.frontAt 2 rfl).frontAt 1 rfl
  skip; (repeat (with_reducible refine wp_seq ?_))
  refine wp_region_ph [] [13, 14, 15] [] [] [.one (0, true, some 11), .one (1, true, some 12), .one (2, true, some 13), .one (3, true, some 14), .one (4, true, some 15), .one (5, true, some 16), .one (6, true, some 17), .one (7, true, some 18), .one (8, true, some 19), .one (9, true, some 20), .one (10, true, some 21), .one (11, false, some 22), .one (12, false, some 23)] [.one ⟨true, some 11, (Go.Op.move (Go.Operand.tmp 0)), 153, none⟩,
    .one ⟨true, some 12, (Go.Op.move (Go.Operand.tmp 0)), 153, none⟩,
    .one ⟨true, some 13, (Go.Op.nilCheck (Go.Operand.tmp 12)), 0, none⟩,
    .one ⟨true, some 14, (Go.Op.fieldAddr 44 (Go.Operand.tmp 13) 1), 0, none⟩,
    .one ⟨true, some 15, (Go.Op.load 31 (Go.Operand.tmp 14)), 31, none⟩,
    .one ⟨true, some 16, (Go.Op.move (Go.Operand.tmp 1)), 45, none⟩,
    .one ⟨true, some 17, (Go.Op.move (Go.Operand.tmp 0)), 153, none⟩,
    .one ⟨true, some 18, (Go.Op.nilCheck (Go.Operand.tmp 17)), 0, none⟩,
    .one ⟨true, some 19, (Go.Op.fieldAddr 44 (Go.Operand.tmp 18) 0), 0, none⟩,
    .one ⟨true, some 20, (Go.Op.load 3 (Go.Operand.tmp 19)), 3, none⟩,
    .one ⟨true, some 21, (Go.Op.build 246 #[(0, (Go.Operand.tmp 16)), (2, (Go.Operand.tmp 20))]), 246, none⟩,
    .one ⟨false, some 22, (Go.Op.buildSlice 31 1 #[(0, (Go.Operand.tmp 21))]), 31, none⟩,
    .one ⟨false, some 23, (Go.Op.call { callee := (Go.Callee.builtin Go.Builtin.append), args := #[(Go.Operand.tmp 15), (Go.Operand.tmp 22)], argTypes := #[31, 31] }), 31, none⟩] [.one (13, true, some 24), .one (14, true, some 25), .one (15, false, none)] [.one ⟨true, some 24, (Go.Op.nilCheck (Go.Operand.tmp 11)), 0, none⟩,
    .one ⟨true, some 25, (Go.Op.fieldAddr 44 (Go.Operand.tmp 24) 1), 0, none⟩,
    .one ⟨false, none, (Go.Op.store 31 (Go.Operand.tmp 25) (Go.Operand.tmp 23)), 0, none⟩] (fun v => Sat w0 v [stA 44 b (cells.set 0 (.int .i64 (n + 1)))]) (fun v => Sat w0 v []) rfl (by kernel_rfl) (by kernel_rfl) (by kernel_rfl) (by kernel_rfl) (S.drew.firsts [_]) (fun _ S => S.firsts []) ?_
  have S := S.drew
  refine sl_next ?_
  refine sl_run orcByte_ok 4 rfl fr fun a fr => ?_
  refine sl_ldf orcByte_ok (fun _ S => Sat.stAt S 0 rfl qj) fr rfl rfl rfl rfl rfl rfl rfl rfl (S.firsts [_]) fun a fr => ?_
  refine sl_run orcByte_ok 4 rfl fr fun a fr => ?_
  refine sl_ldf orcByte_ok (fun _ S => Sat.stAt S 0 rfl q0) fr rfl rfl rfl rfl rfl rfl rfl rfl (S.firsts [_]) fun a fr => ?_
  have hwf : (Lit.int .i64 (n + 1)).wf = true := fr.int (d := 20) rfl
  refine sl_build (cs := [rwV r, .slice none 0 0, .int .i64 (n + 1)]) (L2 := [(0, rwV r), (2, .int .i64 (n + 1))]) fr rfl rfl rfl rfl rfl (by
    have e1 := (fr.ev (o := .tmp 16) rfl).1
    have e2 := (fr.ev (o := .tmp 20) rfl).1
    simp [e1, e2]) (by kernel_rfl) (vok_agg fun v hv => by
    simp only [List.mem_cons, List.not_mem_nil, or_false] at hv
    rcases hv with rfl | rfl | rfl
    · exact vok_sl (A := r.1) hm
    · rfl
    · exact hwf) fun a fr => ?_
  refine sl_lit1 (z := 3) (cs := [rwV r, .slice none 0 0, .int .i64 (n + 1)]) Tryz.underlying31 (by kernel_rfl) rfl fr rfl rfl rfl rfl rfl rfl rfl (by simp only [List.all_cons, List.all_nil, Bool.and_true, Bool.and_eq_true]; exact ⟨vok_sl (A := r.1) hm, rfl, hwf⟩) S ?_
  intro w3 A3 c3 S
  refine ⟨(S.frontAt 1 rfl).firsts [_], fun a fr => ?_⟩
  have S := (S.frontAt 2 rfl).frontAt 1 rfl
  refine sl_rvapp (z := 3) (bytes := 56) Tryz.underlying31 (by kernel_rfl) rfl rfl fr rfl rfl rfl rfl rfl rfl rfl rfl (by omega) S ?_
  intro w4 A4 c4 S
  refine ⟨(S.frontAt 1 rfl).firsts [_], fun a fr => ?_⟩
  refine sl_next ?_
  refine sl_run orcByte_ok 2 rfl fr fun a fr => ?_
  have S := S.frontAt 1 rfl
  refine sl_stf (j := 1) orcByte_ok fr rfl rfl rfl rfl rfl rfl rfl rfl rfl S (Nat.ble_eq_true_of_le (by rw [List.length_set]; exact hlj)) ?_
  intro w5 S
  refine ⟨S.firsts [], ?_⟩
  refine sl_end ?_
  refine end_ret ?_
  refine ret0 fr rfl ?_
  refine ⟨A4, c4, rfl, ?_⟩
  have e : hdsV (hs ++ [⟨r.1, r.2.1, r.2.2, none, n + 1⟩]) = hdsV hs ++ [rwV r, .slice none 0 0, .int .i64 (n + 1)] := by simp [hdsV, hdV, Hd.lv, rwV]
  rw [e]
  exact S.frontAt 2 rfl
def fillByte (h : Hd) : Hd := { h with l := List.replicate h.l.length (mkByte h.k) }
theorem fillByte_V (h : Hd) : hdV (fillByte h) = hdV h := by simp [hdV, fillByte, Hd.lv]
set_option maxRecDepth 100000 in
set_option maxHeartbeats 1000000 in
theorem fillByte_call (hg : ∀ h ∈ hs, h.g = none) (hj : cells[1]? = some (.slice A hs.length c)) (hh : hs.length ≤ 1000000000)
    (S : Sat w0 w (stA 44 b cells :: rvA 246 3 A c hs.length (hdsV hs) :: (hs.map (hdA .u8 5) ++ R))) :
    Calls Tryz.prog 84 #[.pointer (some ⟨b, 0, none⟩)] w fun e w' => e = .returned (.tuple #[]) ∧ Sat w0 w' (stA 44 b cells :: rvA 246 3 A c hs.length (hdsV hs) :: ((hs.map fillByte).map (hdA .u8 5) ++ R)) := by
  refine calls_start (N := 35) [.pointer (some ⟨b, 0, none⟩)] Tryz.func84 rfl rfl rfl (vok_c rfl rfl) fun a fr => ?_
  skip; (repeat (with_reducible refine wp_seq ?_)); refine wp_region_lit ?_
  refine wl_run orcByte_ok 1 rfl fr fun a fr => ?_
  refine wpList_nil ?_; (repeat (with_reducible refine then_n ?_))
  skip; (repeat (with_reducible refine wp_seq ?_))
  refine wp_block ?_
  refine cw_loop (fun q a w1 => ∃ i : Nat, i + q = hs.length + 1 ∧ i ≤ hs.length ∧ Fr 35 a [(0, .pointer (some ⟨b, 0, none⟩)), (2, .int .i64 (i : Int))] ∧ Sat w0 w1 (stA 44 b cells :: rvA 246 3 A c hs.length (hdsV hs) :: ((partL fillByte i hs).map (hdA .u8 5) ++ R))) (hs.length + 1)
    ⟨0, by omega, by omega, fr.sub ⟨rfl, rfl, trivial⟩, by rw [partL_0]; exact S⟩ ?_ ?_
  · rintro a w1 ⟨i, h, h', -⟩
    omega
  clear fr S
  rintro q a w1 ⟨i, hi, hi', fr, S⟩
  skip; (repeat (with_reducible refine wp_seq ?_)); refine wp_region_lit ?_
  refine wl_run orcByte_ok 4 rfl fr fun a fr => ?_
  refine wl_ldf orcByte_ok (Sat.stAt S 0 rfl hj) fr rfl rfl rfl rfl rfl rfl rfl fun a fr => ?_
  refine wl_run orcByte_ok 2 rfl fr fun a fr => ?_
  refine wpList_nil ?_; (repeat (with_reducible refine then_n ?_))
  by_cases hlt : i < hs.length
  rotate_left
  · have fr := fr.bool (d := 11) rfl (decide_eq_false (show ¬ (i : Int) < (hs.length : Int) by omega))
    skip; (repeat (with_reducible refine wp_seq ?_))
    refine cw_f fr rfl ?_
    refine wp_exit ?_
    skip; (repeat (first | (with_reducible refine then_e ?_) | (with_reducible refine ng_e ?_) | (with_reducible refine blk_e (by decide) ?_))); (with_reducible refine blk_y ?_); (repeat (with_reducible refine then_n ?_))
    refine end_ret ?_
    refine ret0 fr rfl ?_
    have e : i = hs.length := by omega
    subst e
    rw [partL_all] at S
    exact ⟨rfl, S⟩
  have fr := fr.bool (d := 11) rfl (decide_eq_true (show (i : Int) < (hs.length : Int) by omega))
  skip; (repeat (with_reducible refine wp_seq ?_))
  refine cw_t fr rfl ?_
  refine wp_skip ?_
  (with_reducible refine then_n ?_)
  skip; (repeat (with_reducible refine wp_seq ?_))
  refine wp_block ?_
  skip; (repeat (with_reducible refine wp_seq ?_)); refine wp_region_lit ?_
  refine wl_run orcByte_ok 3 rfl fr fun a fr => ?_
  refine wl_ldf orcByte_ok (Sat.stAt S 0 rfl hj) fr rfl rfl rfl rfl rfl rfl rfl fun a fr => ?_
  refine wl_run orcByte_ok 1 rfl fr fun a fr => ?_
  obtain ⟨⟨g, hA⟩, hr, hv⟩ := held_at S 1 rfl hlt
  obtain ⟨h, hhd⟩ : ∃ h, hs[i] = h := ⟨_, rfl⟩
  have hgn := hg hs[i] (List.getElem_mem hlt)
  rw [hhd] at hr hv hgn
  refine wl_ldv orcByte_ok (z := 3) (i := (i : Int)) (cs := hdV h) (fun ad he => by obtain ⟨g, h1, h2⟩ := hr ad he; exact ⟨g, h1, h2⟩) (by rw [hA]; simp) hv fr rfl rfl rfl rfl rfl rfl rfl rfl rfl rfl rfl rfl rfl rfl rfl rfl ⟨by omega, by omega⟩ fun a fr => ?_
  refine wl_allocg fr rfl rfl rfl rfl zeroByte rfl S ?_
  intro w2 bh S a fr
  refine wl_stg orcByte_ok (cs := [.slice none 0 0, .slice none 0 0, .int .i64 0]) (vs := hdV h) fr rfl rfl rfl rfl rfl rfl rfl (by rw [List.all_eq_true]; intro v hm; have := hv v hm; unfold hdV Hd.lv at hm; rw [hgn] at hm; simp only [List.mem_cons, List.not_mem_nil, or_false] at hm; rcases hm with rfl | rfl | rfl <;> simp_all [Value.oneCell', vok, vokC]) S ?_
  intro w3 S
  refine wpList_nil ?_; (repeat (with_reducible refine then_n ?_))
  skip; (repeat (with_reducible refine wp_seq ?_)); refine wp_region_lit ?_
  refine wl_run orcByte_ok 1 rfl fr fun a fr => ?_
  refine wpList_nil ?_; (repeat (with_reducible refine then_n ?_))
  have hpl : i < (partL fillByte i hs).length := by rw [partL_len]; exact hlt
  have S := hds_out [stA 246 bh (hdV h), stA 44 b cells, rvA 246 3 A c hs.length (hdsV hs)] S hpl
  rw [partL_get' hlt hpl, hhd] at S
  obtain ⟨A1, c1, l1, g1, k1⟩ := h
  simp only at hgn
  subst hgn
  have S : Sat w0 w3 (ownA .u8 5 A1 c1 (List.replicate 0 (mkByte k1) ++ l1.drop 0) :: stA 246 bh [.slice A1 l1.length c1, .slice none 0 0, .int .i64 k1] :: stA 44 b cells :: rvA 246 3 A c hs.length (hdsV hs) :: (((partL fillByte i hs).eraseIdx i).map (hdA .u8 5) ++ R)) := S
  have hk1 : (Lit.int .i64 k1).wf = true := hv (.int .i64 k1) (by simp [hdV])
  have hl1 := S.own.2
  simp only [List.replicate_zero, List.nil_append, List.drop_zero] at hl1
  skip; (repeat (with_reducible refine wp_seq ?_))
  refine wp_block ?_
  refine cw_loop (fun q a w1 => ∃ j : Nat, j + q = l1.length + 1 ∧ j ≤ l1.length ∧ Fr 35 a [(0, .pointer (some ⟨b, 0, none⟩)), (2, .int .i64 (i : Int)), (3, .pointer (some ⟨bh, 0, none⟩)), (4, .int .i64 (j : Int))] ∧ Sat w0 w1 (ownA .u8 5 A1 c1 (List.replicate j (mkByte k1) ++ l1.drop j) :: stA 246 bh [.slice A1 l1.length c1, .slice none 0 0, .int .i64 k1] :: stA 44 b cells :: rvA 246 3 A c hs.length (hdsV hs) :: (((partL fillByte i hs).eraseIdx i).map (hdA .u8 5) ++ R))) (l1.length + 1)
    ⟨0, by omega, by omega, fr.sub ⟨rfl, rfl, rfl, rfl, trivial⟩, S⟩ ?_ ?_
  · rintro a w1 ⟨j, h, h', -⟩
    omega
  clear fr S hr hv
  rintro q2 a w4 ⟨j, hj1, hj2, fr, S⟩
  skip; (repeat (with_reducible refine wp_seq ?_)); refine wp_region_lit ?_
  refine wl_run orcByte_ok 2 rfl fr fun a fr => ?_
  refine wl_ldf orcByte_ok (Sat.stAt S 1 rfl (j := 0) rfl) fr rfl rfl rfl rfl rfl rfl rfl fun a fr => ?_
  refine wl_run orcByte_ok 2 rfl fr fun a fr => ?_
  refine wpList_nil ?_; (repeat (with_reducible refine then_n ?_))
  by_cases hlj : j < l1.length
  rotate_left
  · have fr := fr.bool (d := 25) rfl (decide_eq_false (show ¬ (j : Int) < (l1.length : Int) by omega))
    skip; (repeat (with_reducible refine wp_seq ?_))
    refine cw_f fr rfl ?_
    refine wp_exit ?_
    skip; (repeat (first | (with_reducible refine then_e ?_) | (with_reducible refine ng_e ?_) | (with_reducible refine blk_e (by decide) ?_))); (with_reducible refine blk_y ?_); (repeat (with_reducible refine then_n ?_))
    (repeat (first | (with_reducible refine then_n ?_) | (with_reducible refine blk_n ?_) | (with_reducible refine ng_n ?_)))
    skip; (repeat (with_reducible refine wp_seq ?_)); refine wp_region_lit ?_
    refine wl_run orcByte_ok 3 rfl fr fun a fr => ?_
    refine wpList_nil ?_; (repeat (with_reducible refine then_n ?_))
    have fr := fr.spell (d := 2) rfl (congrArg (Value.int .i64) (i64_next hlt (by omega)))
    have e : j = l1.length := by omega
    subst e
    rw [List.drop_length, List.append_nil] at S
    have S := S.frontAt 1 rfl
    have S := S.tl
    have S := hds_in (h' := fillByte ⟨A1, c1, l1, none, k1⟩) [stA 44 b cells, rvA 246 3 A c hs.length (hdsV hs)] S hpl
    rw [← hhd, partL_set hlt] at S
    exact ⟨i + 1, by omega, by omega, fr.sub ⟨rfl, rfl, trivial⟩, S⟩
  have fr := fr.bool (d := 25) rfl (decide_eq_true (show (j : Int) < (l1.length : Int) by omega))
  skip; (repeat (with_reducible refine wp_seq ?_))
  refine cw_t fr rfl ?_
  refine wp_skip ?_
  (with_reducible refine then_n ?_)
  skip; (repeat (with_reducible refine wp_seq ?_))
  refine wp_block ?_
  skip; (repeat (with_reducible refine wp_seq ?_))
  refine wp_region_sl [.one (0, true, some 28), .one (1, true, some 29), .one (2, true, some 30), .one (3, true, some 31), .one (4, true, some 32), .one (5, false, some 33), .one (6, true, some 34), .one (7, false, none)]
                [.one ⟨true, some 28, (Go.Op.fieldAddr 246 (Go.Operand.tmp 3) 0), 0, none⟩,
                .one ⟨true, some 29, (Go.Op.load 45 (Go.Operand.tmp 28)), 45, none⟩,
                .one ⟨true, some 30, (Go.Op.move (Go.Operand.tmp 4)), 3, none⟩,
                .one ⟨true, some 31, (Go.Op.fieldAddr 246 (Go.Operand.tmp 3) 2), 0, none⟩,
                .one ⟨true, some 32, (Go.Op.load 3 (Go.Operand.tmp 31)), 3, none⟩,
                .one ⟨false, some 33, (Go.Op.call { callee := (Go.Callee.value (Go.Operand.func 185)), args := #[(Go.Operand.tmp 32)], argTypes := #[3] }), 5, none⟩,
                .one ⟨true, some 34, (Go.Op.indexAddr 45 (Go.Operand.tmp 29) (Go.Operand.tmp 30)), 0, none⟩,
                .one ⟨false, none, (Go.Op.store 5 (Go.Operand.tmp 34) (Go.Operand.tmp 33)), 0, none⟩]
                (fun w' => Sat w0 w' [stA 246 bh [.slice A1 l1.length c1, .slice none 0 0, .int .i64 k1]]) rfl (by kernel_rfl) (by kernel_rfl) ?_ ?_
  · exact (S.drew.frontAt 1 rfl).firsts [_]
  have S := S.drew
  refine sl_run orcByte_ok 1 rfl fr fun a fr => ?_
  refine sl_ldf orcByte_ok (fun _ S => Sat.stAt S 0 rfl (j := 0) rfl) fr rfl rfl rfl rfl rfl rfl rfl rfl ((S.frontAt 1 rfl).firsts [_]) fun a fr => ?_
  refine sl_run orcByte_ok 2 rfl fr fun a fr => ?_
  refine sl_ldf orcByte_ok (fun _ S => Sat.stAt S 0 rfl (j := 2) rfl) fr rfl rfl rfl rfl rfl rfl rfl rfl ((S.frontAt 1 rfl).firsts [_]) fun a fr => ?_
  refine sl_call fr rfl rfl rfl rfl rfl enMkByte (markByte_call hk1 S) ?_
  rintro _ w5 ⟨rfl, S⟩
  refine ⟨_, rfl, mkByte_wf _, (S.frontAt 1 rfl).firsts [_], fun a fr => ?_⟩
  have hlen : (List.replicate j (mkByte k1) ++ l1.drop j).length = l1.length := by simp; omega
  refine sl_pe orcByte_ok (l := List.replicate j (mkByte k1) ++ l1.drop j) (i := (j : Int)) S.own.1 fr rfl rfl rfl rfl rfl rfl rfl rfl rfl hlen.symm ⟨by omega, by omega⟩ fun a fr => ?_
  refine sl_ste orcByte_ok (i := (j : Int)) fr rfl rfl rfl rfl rfl rfl rfl S ⟨by omega, by omega⟩ ?_
  intro w6 S
  refine ⟨(S.frontAt 1 rfl).firsts [_], ?_⟩
  refine sl_end ?_
  (repeat (first | (with_reducible refine then_n ?_) | (with_reducible refine blk_n ?_) | (with_reducible refine ng_n ?_)))
  skip; (repeat (with_reducible refine wp_seq ?_)); refine wp_region_lit ?_
  refine wl_run orcByte_ok 3 rfl fr fun a fr => ?_
  refine wpList_nil ?_; (repeat (with_reducible refine then_n ?_))
  have fr := fr.spell (d := 4) rfl (congrArg (Value.int .i64) (i64_next hlj (by unfold maxLen at hl1; omega)))
  have e : (List.replicate j (mkByte k1) ++ l1.drop j).set (j : Int).toNat (mkByte k1) = List.replicate (j + 1) (mkByte k1) ++ l1.drop (j + 1) := by
    rw [Int.toNat_natCast, List.set_append_right _ _ (by simp), List.length_replicate, Nat.sub_self, List.replicate_succ', List.append_assoc]
    congr 1
    rw [List.drop_eq_getElem_cons hlj, List.set_cons_zero]; rfl
  rw [e] at S
  exact ⟨j + 1, by omega, by omega, fr.sub ⟨rfl, rfl, rfl, rfl, trivial⟩, S⟩
/-- What has grown: the first i ones, each with 40 marks more. -/
def GrewByte (i : Nat) (hs hs' : List Hd) : Prop := hs'.length = hs.length ∧ ∀ j (hj : j < hs.length), if j < i then ∃ A c, hs'[j]? = some { hs[j] with g := some (A, c, hs[j].l ++ List.replicate 40 (mkByte hs[j].k)) } else hs'[j]? = some hs[j]
set_option maxRecDepth 100000 in
set_option maxHeartbeats 1000000 in
theorem growByte_call (hg : ∀ h ∈ hs, h.g = none) (hb : ∀ h ∈ hs, h.l.length ≤ 100000000000) (hj : cells[1]? = some (.slice A hs.length c)) (hh : hs.length ≤ 1000000000)
    (S : Sat w0 w (stA 44 b cells :: rvA 246 3 A c hs.length (hdsV hs) :: (hs.map (hdA .u8 5) ++ R))) :
    Calls Tryz.prog 96 #[.pointer (some ⟨b, 0, none⟩)] w fun e w' => ∃ hs', GrewByte hs.length hs hs' ∧ e = .returned (.tuple #[]) ∧ Sat w0 w' (stA 44 b cells :: rvA 246 3 A c hs'.length (hdsV hs') :: (hs'.map (hdA .u8 5) ++ R)) := by
  refine calls_start (N := 42) [.pointer (some ⟨b, 0, none⟩)] Tryz.func96 rfl rfl rfl (vok_c rfl rfl) fun a fr => ?_
  skip; (repeat (with_reducible refine wp_seq ?_)); refine wp_region_lit ?_
  refine wl_run orcByte_ok 1 rfl fr fun a fr => ?_
  refine wpList_nil ?_; (repeat (with_reducible refine then_n ?_))
  skip; (repeat (with_reducible refine wp_seq ?_))
  refine wp_block ?_
  refine cw_loop (fun q a w1 => ∃ (i : Nat) (hs' : List Hd), i + q = hs.length + 1 ∧ i ≤ hs.length ∧ GrewByte i hs hs' ∧ Fr 42 a [(0, .pointer (some ⟨b, 0, none⟩)), (2, .int .i64 (i : Int))] ∧ Sat w0 w1 (stA 44 b cells :: rvA 246 3 A c hs'.length (hdsV hs') :: (hs'.map (hdA .u8 5) ++ R))) (hs.length + 1)
    ⟨0, hs, by omega, by omega, ⟨rfl, fun j hj => by rw [if_neg (by omega)]; exact List.getElem?_eq_getElem hj⟩, fr.sub ⟨rfl, rfl, trivial⟩, S⟩ ?_ ?_
  · rintro a w1 ⟨i, hs', h, h', -⟩
    omega
  clear fr S
  rintro q a w1 ⟨i, hs', hi, hi', hgr, fr, S⟩
  obtain ⟨hgl, hgr⟩ := hgr
  skip; (repeat (with_reducible refine wp_seq ?_)); refine wp_region_lit ?_
  refine wl_run orcByte_ok 4 rfl fr fun a fr => ?_
  refine wl_ldf orcByte_ok (Sat.stAt S 0 rfl hj) fr rfl rfl rfl rfl rfl rfl rfl fun a fr => ?_
  refine wl_run orcByte_ok 2 rfl fr fun a fr => ?_
  refine wpList_nil ?_; (repeat (with_reducible refine then_n ?_))
  by_cases hlt : i < hs.length
  rotate_left
  · have fr := fr.bool (d := 12) rfl (decide_eq_false (show ¬ (i : Int) < (hs.length : Int) by omega))
    skip; (repeat (with_reducible refine wp_seq ?_))
    refine cw_f fr rfl ?_
    refine wp_exit ?_
    skip; (repeat (first | (with_reducible refine then_e ?_) | (with_reducible refine ng_e ?_) | (with_reducible refine blk_e (by decide) ?_))); (with_reducible refine blk_y ?_); (repeat (with_reducible refine then_n ?_))
    refine end_ret ?_
    refine ret0 fr rfl ?_
    have e : i = hs.length := by omega
    subst e
    exact ⟨hs', ⟨hgl, hgr⟩, rfl, S⟩
  have fr := fr.bool (d := 12) rfl (decide_eq_true (show (i : Int) < (hs.length : Int) by omega))
  skip; (repeat (with_reducible refine wp_seq ?_))
  refine cw_t fr rfl ?_
  refine wp_skip ?_
  (with_reducible refine then_n ?_)
  skip; (repeat (with_reducible refine wp_seq ?_))
  refine wp_block ?_
  have hlt' : i < hs'.length := by omega
  obtain ⟨⟨g, hA⟩, hr, hv⟩ := held_at S 1 rfl hlt'
  have hcur := hgr i hlt
  rw [if_neg (by omega), List.getElem?_eq_getElem hlt'] at hcur
  injection hcur with hcur
  obtain ⟨h, hhd⟩ : ∃ h, hs[i] = h := ⟨_, rfl⟩
  have hgn := hg hs[i] (List.getElem_mem hlt)
  have hbn := hb hs[i] (List.getElem_mem hlt)
  rw [hcur] at hr hv
  rw [hhd] at hr hv hgn hbn
  skip; (repeat (with_reducible refine wp_seq ?_)); refine wp_region_lit ?_
  refine wl_run orcByte_ok 3 rfl fr fun a fr => ?_
  refine wl_ldf orcByte_ok (Sat.stAt S 0 rfl hj) fr rfl rfl rfl rfl rfl rfl rfl fun a fr => ?_
  refine wl_run orcByte_ok 1 rfl fr fun a fr => ?_
  refine wl_ldv orcByte_ok (z := 3) (i := (i : Int)) (cs := hdV h) (fun ad he => by obtain ⟨g, h1, h2⟩ := hr ad he; exact ⟨g, h1, h2⟩) (by rw [hA]; simp) hv fr rfl rfl rfl rfl rfl rfl rfl rfl rfl rfl rfl rfl rfl rfl rfl rfl ⟨by omega, by omega⟩ fun a fr => ?_
  refine wl_allocg fr rfl rfl rfl rfl zeroByte rfl S ?_
  intro w2 bh S a fr
  refine wl_stg orcByte_ok (cs := [.slice none 0 0, .slice none 0 0, .int .i64 0]) (vs := hdV h) fr rfl rfl rfl rfl rfl rfl rfl (by rw [List.all_eq_true]; intro v hm; have := hv v hm; unfold hdV Hd.lv at hm; rw [hgn] at hm; simp only [List.mem_cons, List.not_mem_nil, or_false] at hm; rcases hm with rfl | rfl | rfl <;> simp_all [Value.oneCell', vok, vokC]) S ?_
  intro w3 S
  refine wpList_nil ?_; (repeat (with_reducible refine then_n ?_))
  have S := hds_out [stA 246 bh (hdV h), stA 44 b cells, rvA 246 3 A c hs'.length (hdsV hs')] S hlt'
  rw [hcur, hhd] at S
  obtain ⟨A1, c1, l1, g1, k1⟩ := h
  simp only at hgn hbn
  subst hgn
  have S : Sat w0 w3 (ownA .u8 5 A1 c1 l1 :: stA 246 bh [.slice A1 l1.length c1, .slice none 0 0, .int .i64 k1] :: stA 44 b cells :: rvA 246 3 A c hs'.length (hdsV hs') :: ((hs'.eraseIdx i).map (hdA .u8 5) ++ R)) := S
  have hk1 : (Lit.int .i64 k1).wf = true := hv (.int .i64 k1) (by simp [hdV])
  have S := gw_start (rv_of_own S)
  skip; (repeat (with_reducible refine wp_seq ?_)); refine wp_region_lit ?_
  refine wl_run orcByte_ok 1 rfl fr fun a fr => ?_
  refine wl_ldf orcByte_ok (Sat.stAt S 1 rfl (j := 0) rfl) fr rfl rfl rfl rfl rfl rfl rfl fun a fr => ?_
  refine wl_run orcByte_ok 1 rfl fr fun a fr => ?_
  refine wpList_nil ?_; (repeat (with_reducible refine then_n ?_))
  skip; (repeat (with_reducible refine wp_seq ?_)); refine wp_region_lit ?_
  refine wl_run orcByte_ok 1 rfl fr fun a fr => ?_
  refine wpList_nil ?_; (repeat (with_reducible refine then_n ?_))
  have S : Sat w0 w3 (gwA 5 1 A1 (l1.map (Value.int .u8)) A1 c1 (l1.length + 0) ((l1 ++ List.replicate 0 (mkByte k1)).map (Value.int .u8)) :: stA 246 bh [.slice A1 l1.length c1, .slice none 0 0, .int .i64 k1] :: stA 44 b cells :: rvA 246 3 A c hs'.length (hdsV hs') :: ((hs'.eraseIdx i).map (hdA .u8 5) ++ R)) := by
    rw [List.replicate_zero, List.append_nil]; exact S
  skip; (repeat (with_reducible refine wp_seq ?_))
  refine wp_block ?_
  refine cw_loop (fun q a w1 => ∃ (j : Nat) (A2 : Option Addr) (c2 : Nat), j + q = 41 ∧ j ≤ 40 ∧ Fr 42 a [(0, .pointer (some ⟨b, 0, none⟩)), (2, .int .i64 (i : Int)), (3, .pointer (some ⟨bh, 0, none⟩)), (4, .slice A2 (l1.length + j) c2), (5, .int .i64 (j : Int))] ∧ Sat w0 w1 (gwA 5 1 A1 (l1.map (Value.int .u8)) A2 c2 (l1.length + j) ((l1 ++ List.replicate j (mkByte k1)).map (Value.int .u8)) :: stA 246 bh [.slice A1 l1.length c1, .slice none 0 0, .int .i64 k1] :: stA 44 b cells :: rvA 246 3 A c hs'.length (hdsV hs') :: ((hs'.eraseIdx i).map (hdA .u8 5) ++ R))) 41
    ⟨0, A1, c1, by omega, by omega, fr.sub ⟨rfl, rfl, rfl, rfl, rfl, trivial⟩, S⟩ ?_ ?_
  · rintro a w1 ⟨j, A2, c2, h, h', -⟩
    omega
  clear fr S hr hv
  rintro q2 a w4 ⟨j, A2, c2, hj1, hj2, fr, S⟩
  skip; (repeat (with_reducible refine wp_seq ?_)); refine wp_region_lit ?_
  refine wl_run orcByte_ok 2 rfl fr fun a fr => ?_
  refine wpList_nil ?_; (repeat (with_reducible refine then_n ?_))
  by_cases hlj : j < 40
  rotate_left
  · have fr := fr.bool (d := 25) rfl (decide_eq_false (show ¬ (j : Int) < (40 : Int) by omega))
    skip; (repeat (with_reducible refine wp_seq ?_))
    refine cw_f fr rfl ?_
    refine wp_exit ?_
    skip; (repeat (first | (with_reducible refine then_e ?_) | (with_reducible refine ng_e ?_) | (with_reducible refine blk_e (by decide) ?_))); (with_reducible refine blk_y ?_); (repeat (with_reducible refine then_n ?_))
    skip; (repeat (with_reducible refine wp_seq ?_)); refine wp_region_lit ?_
    refine wl_run orcByte_ok 3 rfl fr fun a fr => ?_
    refine wl_ldf orcByte_ok (Sat.stAt S 2 rfl hj) fr rfl rfl rfl rfl rfl rfl rfl fun a fr => ?_
    refine wl_run orcByte_ok 2 rfl fr fun a fr => ?_
    subst hA
    refine wl_val fr rfl rfl rfl (indexAddr_run orcByte_ok fr rfl rfl rfl rfl rfl (Int.natCast_nonneg _) (show (i : Int) < ((hs.length : Nat) : Int) by omega) _) rfl fun a fr => ?_
    refine wl_run orcByte_ok 1 rfl fr fun a fr => ?_
    have S := S.frontAt 3 rfl
    have hv2 : vok (.slice A2 (l1.length + j) c2) = true := fr.vok (d := 39) rfl
    have fr := fr.spell (d := 41) rfl (show Value.pointer (some (((⟨g, 0, none⟩ : Addr).add ((i : Int).toNat * 3)).add 1)) = Value.pointer (some ⟨g, (i : Int).toNat * 3 + 1, none⟩) by rw [add_add, addr0])
    refine wl_strv (j := (i : Int).toNat * 3 + 1) (n := hs'.length) (z := 3) orcByte_ok fr rfl rfl rfl rfl rfl rfl rfl rfl hv2 S (by rw [Int.toNat_natCast]; omega) ?_
    intro w5 S
    refine wpList_nil ?_; (repeat (with_reducible refine then_n ?_))
    (repeat (first | (with_reducible refine then_n ?_) | (with_reducible refine blk_n ?_) | (with_reducible refine ng_n ?_)))
    skip; (repeat (with_reducible refine wp_seq ?_)); refine wp_region_lit ?_
    refine wl_run orcByte_ok 3 rfl fr fun a fr => ?_
    refine wpList_nil ?_; (repeat (with_reducible refine then_n ?_))
    have fr := fr.spell (d := 2) rfl (congrArg (Value.int .i64) (i64_next hlt (by omega)))
    have e : j = 40 := by omega
    subst e
    have e2 : (i : Int).toNat * 3 + 1 = i * 3 + 1 := by rw [Int.toNat_natCast]
    have hll : (l1 ++ List.replicate 40 (mkByte k1)).length = l1.length + 40 := by simp
    rw [e2, hdsV_set hs' i ⟨A1, c1, l1, some (A2, c2, l1 ++ List.replicate 40 (mkByte k1)), k1⟩ _ hlt' (by rw [hcur, hhd]; simp [hdV, Hd.lv])] at S
    rw [← hll] at S
    have S := (S.frontAt 2 rfl).tl
    have S := (S.frontAt 2 rfl).frontAt 2 rfl
    have S := hds_in (k := .u8) (e := 5) (h' := ⟨A1, c1, l1, some (A2, c2, l1 ++ List.replicate 40 (mkByte k1)), k1⟩) [stA 44 b cells, rvA 246 3 (some ⟨g, 0, none⟩) c hs'.length (hdsV (hs'.set i ⟨A1, c1, l1, some (A2, c2, l1 ++ List.replicate 40 (mkByte k1)), k1⟩))] S hlt'
    refine ⟨i + 1, hs'.set i ⟨A1, c1, l1, some (A2, c2, l1 ++ List.replicate 40 (mkByte k1)), k1⟩, by omega, by omega, ⟨by rw [List.length_set]; exact hgl, fun p hp => ?_⟩, fr.sub ⟨rfl, rfl, trivial⟩, by rw [List.length_set]; exact S⟩
    by_cases hpi : p = i
    · subst hpi
      rw [if_pos (by omega), List.getElem?_set_self hlt', hhd]
      exact ⟨A2, c2, rfl⟩
    · have := hgr p hp
      rw [List.getElem?_set_ne (fun e => hpi e.symm)]
      by_cases hpl : p < i
      · rw [if_pos hpl] at this; rw [if_pos (by omega)]; exact this
      · rw [if_neg hpl] at this; rw [if_neg (by omega)]; exact this
  have fr := fr.bool (d := 25) rfl (decide_eq_true (show (j : Int) < (40 : Int) by omega))
  skip; (repeat (with_reducible refine wp_seq ?_))
  refine cw_t fr rfl ?_
  refine wp_skip ?_
  (with_reducible refine then_n ?_)
  skip; (repeat (with_reducible refine wp_seq ?_))
  refine wp_block ?_
  skip; (repeat (with_reducible refine wp_seq ?_)); refine wp_region_lit ?_
  refine wl_run orcByte_ok 2 rfl fr fun a fr => ?_
  refine wl_ldf orcByte_ok (Sat.stAt S 1 rfl (j := 2) rfl) fr rfl rfl rfl rfl rfl rfl rfl fun a fr => ?_
  refine wl_call fr rfl rfl rfl rfl enMkByte (markByte_call hk1 S) ?_
  rintro _ w5 ⟨rfl, S⟩
  refine ⟨_, rfl, mkByte_wf _, fun a fr => ?_⟩
  refine wl_lit (xs := [mkByte k1]) orcByte_ok rowByte fr rfl rfl rfl rfl ⟨rfl, rfl, trivial⟩ rfl rfl S ?_
  intro w6 A3 c3 S a fr
  refine wl_gwnum rowByte fr rfl rfl rfl rfl rfl rfl (by simp) (by omega) S ?_
  intro w7 A4 c4 S a fr
  refine wl_run orcByte_ok 1 rfl fr fun a fr => ?_
  refine wpList_nil ?_; (repeat (with_reducible refine then_n ?_))
  (repeat (first | (with_reducible refine then_n ?_) | (with_reducible refine blk_n ?_) | (with_reducible refine ng_n ?_)))
  skip; (repeat (with_reducible refine wp_seq ?_)); refine wp_region_lit ?_
  refine wl_run orcByte_ok 3 rfl fr fun a fr => ?_
  refine wpList_nil ?_; (repeat (with_reducible refine then_n ?_))
  have fr := fr.spell (d := 5) rfl (congrArg (Value.int .i64) (i64_next hlj (by decide)))
  rw [List.append_assoc, ← List.replicate_succ'] at S
  exact ⟨j + 1, A4, c4, by omega, by omega, fr.sub ⟨rfl, rfl, rfl, rfl, rfl, trivial⟩, S⟩
set_option maxRecDepth 100000 in
set_option maxHeartbeats 1000000 in
theorem lookByte_call (hl : ∀ h ∈ hs, (∀ z ∈ h.l, z = mkByte h.k) ∧ h.l.length ≤ 100000000000 ∧ ∃ A c, h.g = some (A, c, h.l ++ List.replicate 40 (mkByte h.k))) (hj : cells[1]? = some (.slice A hs.length c)) (hh : hs.length ≤ 1000000000)
    (S : Sat w0 w (stA 44 b cells :: rvA 246 3 A c hs.length (hdsV hs) :: (hs.map (hdA .u8 5) ++ R))) :
    Calls Tryz.prog 108 #[.pointer (some ⟨b, 0, none⟩)] w fun e w' => e = .returned (.bool true) ∧ Sat w0 w' (stA 44 b cells :: rvA 246 3 A c hs.length (hdsV hs) :: (hs.map (hdA .u8 5) ++ R)) := by
  refine calls_start (N := 64) [.pointer (some ⟨b, 0, none⟩)] Tryz.func108 rfl rfl rfl (vok_c rfl rfl) fun a fr => ?_
  skip; (repeat (with_reducible refine wp_seq ?_)); refine wp_region_lit ?_
  refine wl_run orcByte_ok 1 rfl fr fun a fr => ?_
  refine wpList_nil ?_; (repeat (with_reducible refine then_n ?_))
  skip; (repeat (with_reducible refine wp_seq ?_)); refine wp_region_lit ?_
  refine wl_run orcByte_ok 1 rfl fr fun a fr => ?_
  refine wpList_nil ?_; (repeat (with_reducible refine then_n ?_))
  skip; (repeat (with_reducible refine wp_seq ?_))
  refine wp_block ?_
  refine cw_loop (fun q a w1 => ∃ i : Nat, i + q = hs.length + 1 ∧ i ≤ hs.length ∧ Fr 64 a [(0, .pointer (some ⟨b, 0, none⟩)), (3, .int .i64 (i : Int))] ∧ Sat w0 w1 (stA 44 b cells :: rvA 246 3 A c hs.length (hdsV hs) :: (hs.map (hdA .u8 5) ++ R))) (hs.length + 1)
    ⟨0, by omega, by omega, fr.sub ⟨rfl, rfl, trivial⟩, S⟩ ?_ ?_
  · rintro a w1 ⟨i, h, h', -⟩
    omega
  clear fr S
  rintro q a w1 ⟨i, hi, hi', fr, S⟩
  skip; (repeat (with_reducible refine wp_seq ?_)); refine wp_region_lit ?_
  refine wl_run orcByte_ok 4 rfl fr fun a fr => ?_
  refine wl_ldf orcByte_ok (Sat.stAt S 0 rfl hj) fr rfl rfl rfl rfl rfl rfl rfl fun a fr => ?_
  refine wl_run orcByte_ok 2 rfl fr fun a fr => ?_
  refine wpList_nil ?_; (repeat (with_reducible refine then_n ?_))
  by_cases hlt : i < hs.length
  rotate_left
  · have fr := fr.bool (d := 12) rfl (decide_eq_false (show ¬ (i : Int) < (hs.length : Int) by omega))
    skip; (repeat (with_reducible refine wp_seq ?_))
    refine cw_f fr rfl ?_
    refine wp_exit ?_
    skip; (repeat (first | (with_reducible refine then_e ?_) | (with_reducible refine ng_e ?_) | (with_reducible refine blk_e (by decide) ?_))); (with_reducible refine blk_y ?_); (repeat (with_reducible refine then_n ?_))
    skip; (repeat (with_reducible refine wp_seq ?_)); refine wp_region_lit ?_
    refine wl_run orcByte_ok 1 rfl fr fun a fr => ?_
    refine wpList_nil ?_; (repeat (with_reducible refine then_n ?_))
    refine wp_ret ?_
    skip; (repeat (first | (with_reducible refine then_r ?_) | (with_reducible refine blk_r ?_) | (with_reducible refine ng_r ?_)))
    refine ret1 fr rfl rfl ?_
    exact ⟨rfl, S⟩
  have fr := fr.bool (d := 12) rfl (decide_eq_true (show (i : Int) < (hs.length : Int) by omega))
  skip; (repeat (with_reducible refine wp_seq ?_))
  refine cw_t fr rfl ?_
  refine wp_skip ?_
  (with_reducible refine then_n ?_)
  skip; (repeat (with_reducible refine wp_seq ?_))
  refine wp_block ?_
  obtain ⟨⟨g, hA⟩, hr, hv⟩ := held_at S 1 rfl hlt
  obtain ⟨h, hhd⟩ : ∃ h, hs[i] = h := ⟨_, rfl⟩
  obtain ⟨hz, hb, A2, c2, hgn⟩ := hl hs[i] (List.getElem_mem hlt)
  rw [hhd] at hr hv hz hb hgn
  skip; (repeat (with_reducible refine wp_seq ?_)); refine wp_region_lit ?_
  refine wl_run orcByte_ok 3 rfl fr fun a fr => ?_
  refine wl_ldf orcByte_ok (Sat.stAt S 0 rfl hj) fr rfl rfl rfl rfl rfl rfl rfl fun a fr => ?_
  refine wl_run orcByte_ok 1 rfl fr fun a fr => ?_
  refine wl_ldv orcByte_ok (z := 3) (i := (i : Int)) (cs := hdV h) (fun ad he => by obtain ⟨g, h1, h2⟩ := hr ad he; exact ⟨g, h1, h2⟩) (by rw [hA]; simp) hv fr rfl rfl rfl rfl rfl rfl rfl rfl rfl rfl rfl rfl rfl rfl rfl rfl ⟨by omega, by omega⟩ fun a fr => ?_
  refine wl_allocg fr rfl rfl rfl rfl zeroByte rfl S ?_
  intro w2 bh S a fr
  refine wl_stg orcByte_ok (cs := [.slice none 0 0, .slice none 0 0, .int .i64 0]) (vs := hdV h) fr rfl rfl rfl rfl rfl rfl rfl (by rw [List.all_eq_true]; intro v hm; have := hv v hm; unfold hdV Hd.lv at hm; rw [hgn] at hm; simp only [List.mem_cons, List.not_mem_nil, or_false] at hm; rcases hm with rfl | rfl | rfl <;> simp_all [Value.oneCell', vok, vokC, hdV, Hd.lv]) S ?_
  intro w3 S
  refine wpList_nil ?_; (repeat (with_reducible refine then_n ?_))
  have S := hds_out [stA 246 bh (hdV h), stA 44 b cells, rvA 246 3 A c hs.length (hdsV hs)] S hlt
  rw [hhd] at S
  obtain ⟨A1, c1, l1, g1, k1⟩ := h
  simp only at hgn hz hb
  subst hgn
  have hk1 : (Lit.int .i64 k1).wf = true := hv (.int .i64 k1) (by simp [hdV])
  obtain ⟨ys, hys⟩ : ∃ ys, l1 ++ List.replicate 40 (mkByte k1) = ys := ⟨_, rfl⟩
  have hyl : ys.length = l1.length + 40 := by rw [← hys]; simp
  have hyz : ∀ z ∈ ys, z = mkByte k1 := fun z hm => by
    rw [← hys] at hm
    rcases List.mem_append.1 hm with hm | hm
    · exact hz z hm
    · exact List.eq_of_mem_replicate hm
  rw [hys] at S hhd
  have S : Sat w0 w3 (gwA 5 1 A1 (l1.map (Value.int .u8)) A2 c2 ys.length (ys.map (Value.int .u8)) :: stA 246 bh [.slice A1 l1.length c1, .slice A2 ys.length c2, .int .i64 k1] :: stA 44 b cells :: rvA 246 3 A c hs.length (hdsV hs) :: ((hs.eraseIdx i).map (hdA .u8 5) ++ R)) := S
  clear hv hr
  skip; (repeat (with_reducible refine wp_seq ?_)); refine wp_region_lit ?_
  refine wl_run orcByte_ok 1 rfl fr fun a fr => ?_
  refine wl_ldf orcByte_ok (Sat.stAt S 1 rfl (j := 1) rfl) fr rfl rfl rfl rfl rfl rfl rfl fun a fr => ?_
  refine wl_run orcByte_ok 2 rfl fr fun a fr => ?_
  refine wl_ldf orcByte_ok (Sat.stAt S 1 rfl (j := 0) rfl) fr rfl rfl rfl rfl rfl rfl rfl fun a fr => ?_
  refine wl_run orcByte_ok 3 rfl fr fun a fr => ?_
  refine wpList_nil ?_; (repeat (with_reducible refine then_n ?_))
  have fr := fr.bool (d := 29) rfl (show ((ys.length : Int) != IntKind.wrap .i64 ((l1.length : Int) + 40)) = false by
    rw [show IntKind.wrap .i64 ((l1.length : Int) + 40) = (l1.length : Int) + 40 from IntWalk.i64_in _ ⟨by omega, by omega⟩, hyl]; simp)
  skip; (repeat (with_reducible refine wp_seq ?_))
  refine cw_f fr rfl ?_
  refine wp_skip ?_
  (with_reducible refine then_n ?_)
  skip; (repeat (with_reducible refine wp_seq ?_)); refine wp_region_lit ?_
  refine wl_run orcByte_ok 1 rfl fr fun a fr => ?_
  refine wpList_nil ?_; (repeat (with_reducible refine then_n ?_))
  skip; (repeat (with_reducible refine wp_seq ?_))
  refine wp_block ?_
  refine cw_loop (fun q a w1 => ∃ j : Nat, j + q = ys.length + 1 ∧ j ≤ ys.length ∧ Fr 64 a [(0, .pointer (some ⟨b, 0, none⟩)), (3, .int .i64 (i : Int)), (4, .pointer (some ⟨bh, 0, none⟩)), (5, .int .i64 (j : Int))] ∧ Sat w0 w1 (gwA 5 1 A1 (l1.map (Value.int .u8)) A2 c2 ys.length (ys.map (Value.int .u8)) :: stA 246 bh [.slice A1 l1.length c1, .slice A2 ys.length c2, .int .i64 k1] :: stA 44 b cells :: rvA 246 3 A c hs.length (hdsV hs) :: ((hs.eraseIdx i).map (hdA .u8 5) ++ R))) (ys.length + 1)
    ⟨0, by omega, by omega, fr.sub ⟨rfl, rfl, rfl, rfl, trivial⟩, S⟩ ?_ ?_
  · rintro a w1 ⟨j, h, h', -⟩
    omega
  clear fr S
  rintro q2 a w4 ⟨j, hj1, hj2, fr, S⟩
  skip; (repeat (with_reducible refine wp_seq ?_)); refine wp_region_lit ?_
  refine wl_run orcByte_ok 2 rfl fr fun a fr => ?_
  refine wl_ldf orcByte_ok (Sat.stAt S 1 rfl (j := 1) rfl) fr rfl rfl rfl rfl rfl rfl rfl fun a fr => ?_
  refine wl_run orcByte_ok 2 rfl fr fun a fr => ?_
  refine wpList_nil ?_; (repeat (with_reducible refine then_n ?_))
  by_cases hlj : j < ys.length
  rotate_left
  · have fr := fr.bool (d := 34) rfl (decide_eq_false (show ¬ (j : Int) < (ys.length : Int) by omega))
    skip; (repeat (with_reducible refine wp_seq ?_))
    refine cw_f fr rfl ?_
    refine wp_exit ?_
    skip; (repeat (first | (with_reducible refine then_e ?_) | (with_reducible refine ng_e ?_) | (with_reducible refine blk_e (by decide) ?_))); (with_reducible refine blk_y ?_); (repeat (with_reducible refine then_n ?_))
    (repeat (first | (with_reducible refine then_n ?_) | (with_reducible refine blk_n ?_) | (with_reducible refine ng_n ?_)))
    skip; (repeat (with_reducible refine wp_seq ?_)); refine wp_region_lit ?_
    refine wl_run orcByte_ok 3 rfl fr fun a fr => ?_
    refine wpList_nil ?_; (repeat (with_reducible refine then_n ?_))
    have fr := fr.spell (d := 3) rfl (congrArg (Value.int .i64) (i64_next hlt (by omega)))
    have S := (S.frontAt 1 rfl).tl
    have S := hds_in (k := .u8) (e := 5) (h' := ⟨A1, c1, l1, some (A2, c2, ys), k1⟩) [stA 44 b cells, rvA 246 3 A c hs.length (hdsV hs)] S hlt
    rw [← hhd, List.set_getElem_self] at S
    exact ⟨i + 1, by omega, by omega, fr.sub ⟨rfl, rfl, trivial⟩, S⟩
  have fr := fr.bool (d := 34) rfl (decide_eq_true (show (j : Int) < (ys.length : Int) by omega))
  skip; (repeat (with_reducible refine wp_seq ?_))
  refine cw_t fr rfl ?_
  refine wp_skip ?_
  (with_reducible refine then_n ?_)
  skip; (repeat (with_reducible refine wp_seq ?_))
  refine wp_block ?_
  skip; (repeat (with_reducible refine wp_seq ?_))
  refine wp_region_sl [.one (0, true, some 37), .one (1, true, some 38), .one (2, true, some 39), .one (3, true, some 40), .one (4, true, some 41), .one (5, true, some 42), .one (6, true, some 43), .one (7, false, some 44), .one (8, true, some 45), .one (9, true, some 46), .one (10, true, some 47), .one (11, true, some 48), .one (12, true, some 49), .one (13, true, some 50), .one (14, true, some 51), .one (15, true, some 52), .one (16, true, some 53), .one (17, true, some 54), .one (18, true, some 55), .one (19, true, some 56), .one (20, true, some 57), .one (21, true, some 58), .one (22, true, some 59), .one (23, false, some 60), .one (24, true, some 61), .one (25, true, some 62), .one (26, true, some 63)]
                [.one ⟨true, some 37, (Go.Op.fieldAddr 246 (Go.Operand.tmp 4) 1), 0, none⟩,
                .one ⟨true, some 38, (Go.Op.load 45 (Go.Operand.tmp 37)), 45, none⟩,
                .one ⟨true, some 39, (Go.Op.move (Go.Operand.tmp 5)), 3, none⟩,
                .one ⟨true, some 40, (Go.Op.indexAddr 45 (Go.Operand.tmp 38) (Go.Operand.tmp 39)), 0, none⟩,
                .one ⟨true, some 41, (Go.Op.load 5 (Go.Operand.tmp 40)), 5, none⟩,
                .one ⟨true, some 42, (Go.Op.fieldAddr 246 (Go.Operand.tmp 4) 2), 0, none⟩,
                .one ⟨true, some 43, (Go.Op.load 3 (Go.Operand.tmp 42)), 3, none⟩,
                .one ⟨false, some 44, (Go.Op.call { callee := (Go.Callee.value (Go.Operand.func 197)), args := #[(Go.Operand.tmp 41), (Go.Operand.tmp 43)], argTypes := #[5, 3] }), 4, none⟩,
                .one ⟨true, some 45, (Go.Op.unOp Go.UnOp.not 4 (Go.Operand.tmp 44)), 4, none⟩,
                .one ⟨true, some 46, (Go.Op.move (Go.Operand.tmp 45)), 4, none⟩,
                .one ⟨true, some 47, (Go.Op.move (Go.Operand.tmp 5)), 3, some (46, false)⟩,
                .one ⟨true, some 48, (Go.Op.fieldAddr 246 (Go.Operand.tmp 4) 0), 0, some (46, false)⟩,
                .one ⟨true, some 49, (Go.Op.load 45 (Go.Operand.tmp 48)), 45, some (46, false)⟩,
                .one ⟨true, some 50, (Go.Op.call { callee := (Go.Callee.builtin Go.Builtin.len), args := #[(Go.Operand.tmp 49)], argTypes := #[45] }), 3, some (46, false)⟩,
                .one ⟨true, some 51, (Go.Op.binOp Go.BinOp.lss 3 (Go.Operand.tmp 47) (Go.Operand.tmp 50) 3), 4, some (46, false)⟩,
                .one ⟨true, some 52, (Go.Op.move (Go.Operand.tmp 51)), 4, some (46, false)⟩,
                .one ⟨true, some 53, (Go.Op.fieldAddr 246 (Go.Operand.tmp 4) 0), 0, some (52, true)⟩,
                .one ⟨true, some 54, (Go.Op.load 45 (Go.Operand.tmp 53)), 45, some (52, true)⟩,
                .one ⟨true, some 55, (Go.Op.move (Go.Operand.tmp 5)), 3, some (52, true)⟩,
                .one ⟨true, some 56, (Go.Op.indexAddr 45 (Go.Operand.tmp 54) (Go.Operand.tmp 55)), 0, some (52, true)⟩,
                .one ⟨true, some 57, (Go.Op.load 5 (Go.Operand.tmp 56)), 5, some (52, true)⟩,
                .one ⟨true, some 58, (Go.Op.fieldAddr 246 (Go.Operand.tmp 4) 2), 0, some (52, true)⟩,
                .one ⟨true, some 59, (Go.Op.load 3 (Go.Operand.tmp 58)), 3, some (52, true)⟩,
                .one ⟨false, some 60, (Go.Op.call { callee := (Go.Callee.value (Go.Operand.func 197)), args := #[(Go.Operand.tmp 57), (Go.Operand.tmp 59)], argTypes := #[5, 3] }), 4, some (52, true)⟩,
                .one ⟨true, some 61, (Go.Op.unOp Go.UnOp.not 4 (Go.Operand.tmp 60)), 4, some (52, true)⟩,
                .one ⟨true, some 62, (Go.Op.pick (Go.Operand.tmp 52) (Go.Operand.tmp 61) (Go.Operand.const (Go.Value.bool false))), 4, some (46, false)⟩,
                .one ⟨true, some 63, (Go.Op.pick (Go.Operand.tmp 46) (Go.Operand.const (Go.Value.bool true)) (Go.Operand.tmp 62)), 4, none⟩]
                (fun w' => Sat w0 w' [gwA 5 1 A1 (l1.map (Value.int .u8)) A2 c2 ys.length (ys.map (Value.int .u8)), stA 246 bh [.slice A1 l1.length c1, .slice A2 ys.length c2, .int .i64 k1]]) rfl (by kernel_rfl) (by kernel_rfl) ?_ ?_
  · exact S.drew.firsts [_, _]
  have S := S.drew
  have hyj : ys.getD j 0 = mkByte k1 := by rw [List.getD_eq_getElem?_getD, List.getElem?_eq_getElem hlj]; exact hyz _ (List.getElem_mem hlj)
  refine sl_run orcByte_ok 1 rfl fr fun a fr => ?_
  refine sl_ldf orcByte_ok (fun _ S => Sat.stAt S 1 rfl (j := 1) rfl) fr rfl rfl rfl rfl rfl rfl rfl rfl (S.firsts [_, _]) fun a fr => ?_
  refine sl_run orcByte_ok 1 rfl fr fun a fr => ?_
  refine sl_ld orcByte_ok (fun _ S => (gw_reads S 0 rfl).2.1) fr rfl rfl rfl rfl rfl rfl rfl rfl rfl rfl rfl rfl rfl rfl rfl rfl rfl rfl ⟨by omega, by omega⟩ (S.firsts [_, _]) fun a fr => ?_
  refine sl_run orcByte_ok 1 rfl fr fun a fr => ?_
  refine sl_ldf orcByte_ok (fun _ S => Sat.stAt S 1 rfl (j := 2) rfl) fr rfl rfl rfl rfl rfl rfl rfl rfl (S.firsts [_, _]) fun a fr => ?_
  refine sl_call fr rfl rfl rfl rfl rfl enIsByte (isByte_call (fr.int (d := 41) rfl) hk1 S) ?_
  rintro _ w5 ⟨rfl, S⟩
  refine ⟨_, rfl, rfl, S.firsts [_, _], fun a fr => ?_⟩
  have fr := fr.bool (d := 44) rfl (show (ys.getD (j : Int).toNat 0 == mkByte k1) = true by rw [Int.toNat_natCast, hyj]; simp)
  refine sl_run orcByte_ok 4 rfl fr fun a fr => ?_
  refine sl_ldf orcByte_ok (fun _ S => Sat.stAt S 1 rfl (j := 0) rfl) fr rfl rfl rfl rfl rfl rfl rfl rfl (S.firsts [_, _]) fun a fr => ?_
  refine sl_run orcByte_ok 3 rfl fr fun a fr => ?_
  have hend : ∀ {a : Act} {w5 : World} {L : Env}, Fr 64 a L → L.lookup 0 = some (.pointer (some ⟨b, 0, none⟩)) → L.lookup 3 = some (.int .i64 (i : Int)) → L.lookup 4 = some (.pointer (some ⟨bh, 0, none⟩)) → L.lookup 5 = some (.int .i64 (j : Int)) → L.lookup 63 = some (.bool false) → Sat w0 w5 (gwA 5 1 A1 (l1.map (Value.int .u8)) A2 c2 ys.length (ys.map (Value.int .u8)) :: stA 246 bh [.slice A1 l1.length c1, .slice A2 ys.length c2, .int .i64 k1] :: stA 44 b cells :: rvA 246 3 A c hs.length (hdsV hs) :: ((hs.eraseIdx i).map (hdA .u8 5) ++ R)) →
      Fr 64 a [(0, .pointer (some ⟨b, 0, none⟩)), (3, .int .i64 (i : Int)), (4, .pointer (some ⟨bh, 0, none⟩)), (5, .int .i64 (j : Int)), (63, .bool false)] := fun fr h0 h3 h4 h5 h63 _ => fr.sub ⟨h0, h3, h4, h5, h63, trivial⟩
  by_cases hjl : j < l1.length
  · have fr := fr.bool (d := 52) rfl (decide_eq_true (show (j : Int) < (l1.length : Int) by omega))
    have hlj2 : l1.getD j 0 = mkByte k1 := by rw [List.getD_eq_getElem?_getD, List.getElem?_eq_getElem hjl]; exact hz _ (List.getElem_mem hjl)
    refine sl_run orcByte_ok 1 rfl fr fun a fr => ?_
    refine sl_ldf orcByte_ok (fun _ S => Sat.stAt S 1 rfl (j := 0) rfl) fr rfl rfl rfl rfl rfl rfl rfl rfl (S.firsts [_, _]) fun a fr => ?_
    refine sl_run orcByte_ok 1 rfl fr fun a fr => ?_
    refine sl_ld orcByte_ok (fun _ S => (gw_reads S 0 rfl).1) fr rfl rfl rfl rfl rfl rfl rfl rfl rfl rfl rfl rfl rfl rfl rfl rfl rfl rfl ⟨by omega, by omega⟩ (S.firsts [_, _]) fun a fr => ?_
    refine sl_run orcByte_ok 1 rfl fr fun a fr => ?_
    refine sl_ldf orcByte_ok (fun _ S => Sat.stAt S 1 rfl (j := 2) rfl) fr rfl rfl rfl rfl rfl rfl rfl rfl (S.firsts [_, _]) fun a fr => ?_
    refine sl_call fr rfl rfl rfl rfl rfl enIsByte (isByte_call (fr.int (d := 57) rfl) hk1 S) ?_
    rintro _ w6 ⟨rfl, S⟩
    refine ⟨_, rfl, rfl, S.firsts [_, _], fun a fr => ?_⟩
    have fr := fr.bool (d := 60) rfl (show (l1.getD (j : Int).toNat 0 == mkByte k1) = true by rw [Int.toNat_natCast, hlj2]; simp)
    refine sl_run orcByte_ok 3 rfl fr fun a fr => ?_
    refine sl_end ?_
    have fr := hend fr rfl rfl rfl rfl rfl S
    (repeat (with_reducible refine then_n ?_))
    skip; (repeat (with_reducible refine wp_seq ?_))
    refine cw_f fr rfl ?_
    refine wp_skip ?_
    (repeat (first | (with_reducible refine then_n ?_) | (with_reducible refine blk_n ?_) | (with_reducible refine ng_n ?_)))
    skip; (repeat (with_reducible refine wp_seq ?_)); refine wp_region_lit ?_
    refine wl_run orcByte_ok 3 rfl fr fun a fr => ?_
    refine wpList_nil ?_; (repeat (with_reducible refine then_n ?_))
    have fr := fr.spell (d := 5) rfl (congrArg (Value.int .i64) (i64_next hlj (by omega)))
    exact ⟨j + 1, by omega, by omega, fr.sub ⟨rfl, rfl, rfl, rfl, trivial⟩, S⟩
  · have fr := fr.bool (d := 52) rfl (decide_eq_false (show ¬ (j : Int) < (l1.length : Int) by omega))
    refine sl_run orcByte_ok 7 rfl fr fun a fr => ?_
    refine sl_no fr rfl (S.firsts [_, _]) rfl rfl fun a fr => ?_
    refine sl_run orcByte_ok 3 rfl fr fun a fr => ?_
    refine sl_end ?_
    have fr := hend fr rfl rfl rfl rfl rfl S
    (repeat (with_reducible refine then_n ?_))
    skip; (repeat (with_reducible refine wp_seq ?_))
    refine cw_f fr rfl ?_
    refine wp_skip ?_
    (repeat (first | (with_reducible refine then_n ?_) | (with_reducible refine blk_n ?_) | (with_reducible refine ng_n ?_)))
    skip; (repeat (with_reducible refine wp_seq ?_)); refine wp_region_lit ?_
    refine wl_run orcByte_ok 3 rfl fr fun a fr => ?_
    refine wpList_nil ?_; (repeat (with_reducible refine then_n ?_))
    have fr := fr.spell (d := 5) rfl (congrArg (Value.int .i64) (i64_next hlj (by omega)))
    exact ⟨j + 1, by omega, by omega, fr.sub ⟨rfl, rfl, rfl, rfl, trivial⟩, S⟩
end
end Go.Proofs.YticnjkdaccacaaaGreatDoor.Sx
end
