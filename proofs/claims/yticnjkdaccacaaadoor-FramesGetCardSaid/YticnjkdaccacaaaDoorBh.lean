/- Lists of numbers that are held, each with what grew out of it and its number. -/
import Derived.Test.YticnjkdaccacaaaDoorBk
namespace Go.Proofs.YticnjkdaccacaaaDoor.Sx
open Go Go.RowKit Base Own OwnV

section
variable {P : Program} {T : Orc} {ops : Array Oper} {Q : Exit → Act → World → Prop} {S' : World → Prop} {Df : List Deferred} {N : Nat} {a : Act} {w w0 : World} {L : Env} {R M : List Asn} {k : IntKind} {e : Nat}
theorem gw_reads {A A' : Option Addr} {c' : Nat} {l ys : List Int} (S : Sat w0 w M) (i : Nat) (hi : M[i]? = some (gwA e 1 A (l.map (Value.int k)) A' c' ys.length (ys.map (Value.int k)))) : Rk k w A l ∧ Rk k w A' ys ∧ (ys.length ≤ c' ∧ c' ≤ maxLen) := by
  obtain ⟨F, h0, h1, h2, h3, ⟨t, h4⟩, h5⟩ := (S.frontAt i hi).hd
  have hw : ∀ z ∈ ys, (Lit.int k z).wf = true := fun z hz => h3 (.int k z) (List.mem_map.2 ⟨z, hz, rfl⟩)
  have hwl : ∀ z ∈ l, (Lit.int k z).wf = true := fun z hz => h3 (.int k z) (by rw [h4]; exact List.mem_append_left _ (List.mem_map.2 ⟨z, hz, rfl⟩))
  have hown : OwnI k w w0.heap.size e (.slice A' ys.length c') ys := h2
  obtain ⟨A2, c2, he, q1, q2, q3, q4⟩ := hown.slice
  injection he with e1 e2 e3
  subst e1 e3
  refine ⟨⟨fun hne => ?_, hwl⟩, ⟨q3, hw⟩, q1, q2⟩
  cases A with
  | none => exact absurd (List.map_eq_nil_iff.1 (h0 rfl)) hne
  | some ad =>
    obtain ⟨r1, r2, r3, r4⟩ := h1 ad rfl
    refine ⟨ad, rfl, r3, fun j hj => ?_⟩
    have := r4 j (.int k (l.getD j 0)) (by simp [List.getElem?_eq_getElem hj, List.getD_eq_getElem?_getD])
    rw [r1, addr0]
    rwa [Nat.zero_add] at this
/-- One number more behind a row. -/
theorem wl_gwnum {t : TypeId} (RT : RowTy P t e k) {o : Oper} {rest : List Oper} {d : Nat} {x y : Operand} {A A' Y : Option Addr} {n' c' cy : Nat} {ys : List Int} {xs : List Value} {q : Int} (fr : FrD Df N a L) (hw : wantL ops L o = some true) (hd : o.dst = some d) (hlt : Nat.blt d N = true) (ho : o.op = .call { callee := .builtin .append, args := #[x, y], argTypes := #[t, t] })
    (hx : ev L x = some (.slice A' n' c')) (hy : ev L y = some (.slice Y 1 cy)) (hn : n' = ys.length) (hb : n' ≤ 1000000000000) (S : Sat w0 w (ownA k e Y cy [q] :: gwA e 1 A xs A' c' n' (ys.map (Value.int k)) :: R))
    (h : ∀ w' A2 c2, Sat w0 w' (gwA e 1 A xs A2 c2 (n' + 1) ((ys ++ [q]).map (Value.int k)) :: R) → ∀ a', FrD Df N a' ((d, .slice A2 (n' + 1) c2) :: L) → wpList P ops Q rest a' w') : wpList P ops Q (o :: rest) a w := by
  obtain ⟨⟨hr, hwf⟩, -, -⟩ := S.own
  obtain ⟨ad, rfl, hc⟩ := hr.cell (j := 0) (by simp)
  obtain ⟨bytes, hle, hinfo⟩ := RT.hi
  obtain ⟨A2, c2, w', h1, h2, h3⟩ := gw_app (P := P) (ty := o.type) (bytes := bytes) (cy := cy) RT.ht (by
    obtain ⟨i, hi, hzz⟩ := Option.map_eq_some_iff.1 hinfo
    simp only [Prod.mk.injEq] at hzz
    obtain ⟨q1, q2, q3⟩ := hzz
    rw [hi]
    simp [q1, q2, q3, Value.cells]) Nat.one_pos (by omega) S.tl (news := [.int k q]) rfl (fun j u hu => by
      cases j with
      | zero => injection hu with hu; subst hu; exact hc.2
      | succ j => cases hu) (fun u hu => by rw [List.mem_singleton] at hu; subst hu; exact ⟨rfl, hwf q (by simp)⟩) hb
  refine wl_val fr hw hd hlt (app_op fr ho hx hy h1) (vok_sl h2) (h w' A2 c2 ?_)
  rw [List.map_append]
  exact h3
/-- A struct's variable. -/
theorem wl_allocg {o : Oper} {rest : List Oper} {t : TypeId} {d : Nat} {zs : List Value} (fr : FrD Df N a L) (hw : wantL ops L o = some true) (hd : o.dst = some d) (hlt : Nat.blt d N = true) (ho : o.op = .alloc t) (hz : ∀ W, (zeroValue t).run P W = .ok (.agg zs.toArray) W) (hok : zs.all vok = true) (S : Sat w0 w R)
    (h : ∀ w' b, Sat w0 w' (stA t b zs :: R) → ∀ a', FrD Df N a' ((d, .pointer (some ⟨b, 0, none⟩)) :: L) → wpList P ops Q rest a' w') : wpList P ops Q (o :: rest) a w := by
  refine wl_val (v := .pointer (some ⟨w.heap.size, 0, none⟩)) (w' := w.alloc (.cells zs.toArray t)) fr hw hd hlt ?_ rfl (h _ _ ?_)
  · unfold execOp
    simp only [ho, Instr.alloc]
    rw [Sem.run_bind, Sem.run_bind, hz, Result.andThen_ok]
    rfl
  · exact S.add (F := fun g => g = w.heap.size) ((Below.refl _ _).alloc (Nat.le_refl _) _) ⟨heap_alloc_new _ _, hok, S.below.size, fun g => Iff.rfl⟩ fun g hg => Nat.le_of_eq hg.symm
/-- .. written over whole. -/
theorem wl_stg (hT : T.Ok P) {o : Oper} {rest : List Oper} {te : TypeId} {p v : Operand} {b e' : Nat} {cs vs : List Value} (fr : FrD Df N a L) (hw : wantL ops L o = some true) (hd : o.dst = none) (ho : o.op = .store te p v) (hp : ev L p = some (.pointer (some ⟨b, 0, none⟩))) (hv : ev L v = some (.agg vs.toArray)) (hs : T.sz.lookup te = some vs.length)
    (hl : cs.length = vs.length) (h1 : vs.all (fun v => v.oneCell' && vok v) = true) (S : Sat w0 w (stA e' b cs :: R)) (h : ∀ w', Sat w0 w' (stA e' b vs :: R) → wpList P ops Q rest a w') : wpList P ops Q (o :: rest) a w := by
  obtain ⟨F, ⟨g1, g2, g4, g5⟩, hF, hk⟩ := S.opened
  rw [List.all_eq_true] at h1
  have hst := run_storeCells_cells (P := P) b 0 vs 0 w (fun j hj => by
    rw [cell_of_row _ _ _ _ _ _ g1]
    simp
    omega) (fun j hj => frozen_of_row w b _ _ _ g1) (fun u hu => by have := h1 u hu; simp at this; exact this.1)
  have hheap := heap_setCells b vs 0 w cs.toArray e' g1 (by simp; omega)
  refine wl_skip (w' := w.setCells b 0 vs) fr hw hd ?_ (h _ ?_)
  · unfold execOp
    simp only [ho, (fr.ev hp).1, (fr.ev hv).1, Instr.storeAt, Instr.sureAddr, storeVar, Value.cells]
    simp [size_run hT hs]
    have hst' : (storeCells (⟨b, 0, none⟩ : Addr) vs).run P w = .ok () (w.setCells b 0 vs) := by simpa using hst
    rw [hst']
    rfl
  · refine hk (A' := stA e' b vs) (F' := F) (G := fun g => g = b) ⟨?_, ?_, g4, g5⟩ (chg_setCells b vs 0 w) (fun g _ hg => (g5 g).2 hg) fun g hg => .inl hg
    · rw [hheap]
      congr 2
      apply Array.toList_inj.1
      simp [splice, hl]
    · rw [List.all_eq_true]
      intro u hu
      have := h1 u hu
      simp at this
      exact this.2
/-- A cell of an element of a row is written. -/
theorem wl_strv (hT : T.Ok P) {o : Oper} {rest : List Oper} {te : TypeId} {p v : Operand} {g j c n e' z : Nat} {xs : List Value} {u : Value} (fr : FrD Df N a L) (hw : wantL ops L o = some true) (hd : o.dst = none) (ho : o.op = .store te p v) (hp : ev L p = some (.pointer (some ⟨g, j, none⟩))) (hv : ev L v = some u) (hs : T.sz.lookup te = some 1)
    (hc : u.cells = #[u]) (h1 : u.oneCell' = true) (h2 : vok1 u = true) (S : Sat w0 w (rvA e' z (some ⟨g, 0, none⟩) c n xs :: R)) (hj : j < n * z) (h : ∀ w', Sat w0 w' (rvA e' z (some ⟨g, 0, none⟩) c n (splice xs j [u]) :: R) → wpList P ops Q rest a w') : wpList P ops Q (o :: rest) a w := by
  have hset := rv_set S rfl j [u] (by simp; omega) (fun v hv => by rw [List.mem_singleton] at hv; subst hv; exact h2)
  refine wl_skip (w' := w.setCells g j [u]) fr hw hd ?_ (h _ hset)
  obtain ⟨F, q1, q2, q3⟩ := S.hd
  obtain ⟨A2, c2, he, r1, r2, r3, r4⟩ := q1.slice
  injection he with e1 e2 e3
  subst e1
  obtain ⟨g', s1, s2, s3, s4, s5⟩ := r4 _ rfl
  injection s1 with s1
  subst s1
  have hst := run_storeCells_cells (P := P) g j [u] 0 w (fun i hi => by
    have hi : i = 0 := by simpa using hi
    subst hi
    have := (s5 j hj).1
    simpa using this) (fun i hi => by
    have hi : i = 0 := by simpa using hi
    subst hi
    have := (s5 j hj).2
    simpa using this) (fun v hv => by rw [List.mem_singleton] at hv; subst hv; exact h1)
  have hst' : (storeCells (⟨g, j, none⟩ : Addr) [u]).run P w = .ok () (w.setCells g j [u]) := by simpa using hst
  unfold execOp
  simp only [ho, (fr.ev hp).1, (fr.ev hv).1, Instr.storeAt, Instr.sureAddr, storeVar, hc]
  simp [size_run hT hs, hst']
/-- A struct that is built, in a drawn region. -/
theorem sl_build {s : SOp} {rest : List Itm} {t : TypeId} {ps : Array (Nat × Operand)} {d : Nat} {L2 : List (Nat × Value)} {cs : List Value} (fr : FrD Df N a L) (hw : wantS L s = some true) (hq : s.q = true) (hd : s.dst = some d) (hlt : Nat.blt d N = true) (ho : s.op = .build t ps) (hp : (ps.map fun (i, x) => (i, a.eval x)).toList = L2) (hb : P.built t L2 = some cs.toArray) (hv : vok (.agg cs.toArray) = true)
    (h : ∀ a', FrD Df N a' ((d, .agg cs.toArray) :: L) → SL P Q S' rest a' w) : SL P Q S' (.one s :: rest) a w := by
  refine sl_q (v := .agg cs.toArray) fr hw hq hd hlt (fun w' _ => ?_) hv h
  unfold execOp
  simp only [SOp.oper, ho]
  rw [Sem.run_bind, run_build w' t _ cs.toArray (by rw [hp]; exact hb)]; rfl
theorem lit1_exec {t z : Nat} (hu : P.underlying t = some (.slice e)) (hi : (P.info? e).map (fun i => (i.zero.isSome, i.size)) = some (true, z)) (h0 : (Nat.blt 0 z && Nat.ble z 1000) = true) (fr : FrD Df N a L) {o : Oper} {x : Operand} {cs : List Value} (ho : o.op = .buildSlice t 1 #[(0, x)]) (hx : ev L x = some (.agg cs.toArray)) (hl : cs.length = z) (hv : cs.all vok1 = true) (S : Sat w0 w R) :
    ∃ A c w', (execOp a.eval o).run P w = .ok (.value (.slice A 1 c)) w' ∧ vok (.slice A 1 c) = true ∧ Sat w0 w' (rvA e z A c 1 cs :: R) := by
  simp only [Bool.and_eq_true, Nat.ble_eq] at h0
  have h0' := blt_lt h0.1
  refine ⟨some ⟨w.heap.size, 0, none⟩, 1, w.alloc (.cells cs.toArray e), ?_, vok_sl ⟨Nat.le_refl _, by unfold maxLen; omega⟩, ?_⟩
  · have h := exec_one_slice (P := P) (a := a) (w := w) (N := o.dst) (tt := o.type) t e x cs.toArray z (fr.ev hx).1 (by simpa using hl) hu hi h0' (by omega)
    unfold execOp at h ⊢
    simp only [ho] at h ⊢
    exact h
  · have hm := RowV.made w e z 1 cs.toArray S.below.size (by simp [hl]) (by unfold maxLen; omega)
    rw [List.all_eq_true] at hv
    exact S.add (F := fun g => (Value.slice (some ⟨w.heap.size, 0, none⟩) 1 1).ownBlock = some g) ((Below.refl _ _).alloc (Nat.le_refl _) _) ⟨hm, hv, fun g => Iff.rfl⟩ fun g hg => by
      have : w.heap.size = g := by simpa [Value.ownBlock] using hg
      omega
theorem sl_lit1 {t z : Nat} (hu : P.underlying t = some (.slice e)) (hi : (P.info? e).map (fun i => (i.zero.isSome, i.size)) = some (true, z)) (h0 : (Nat.blt 0 z && Nat.ble z 1000) = true) {s : SOp} {rest : List Itm} {d : Nat} {x : Operand} {cs : List Value} (fr : FrD Df N a L) (hw : wantS L s = some true) (hq : s.q = false) (hd : s.dst = some d) (hlt : Nat.blt d N = true)
    (ho : s.op = .buildSlice t 1 #[(0, x)]) (hx : ev L x = some (.agg cs.toArray)) (hl : cs.length = z) (hv : cs.all vok1 = true) (S : Sat w0 w R) (h : ∀ w' A c, Sat w0 w' (rvA e z A c 1 cs :: R) → S' w' ∧ ∀ a', FrD Df N a' ((d, .slice A 1 c) :: L) → SL P Q S' rest a' w') : SL P Q S' (.one s :: rest) a w := by
  obtain ⟨A, c, w', h1, h2, h3⟩ := lit1_exec (P := P) hu hi h0 fr (o := s.oper) ho hx hl hv S
  exact sl_val fr hw hq hd hlt h1 (h w' A c h3).1 h2 (h w' A c h3).2
theorem wl_lit1 {t z : Nat} (hu : P.underlying t = some (.slice e)) (hi : (P.info? e).map (fun i => (i.zero.isSome, i.size)) = some (true, z)) (h0 : (Nat.blt 0 z && Nat.ble z 1000) = true) {o : Oper} {rest : List Oper} {d : Nat} {x : Operand} {cs : List Value} (fr : FrD Df N a L) (hw : wantL ops L o = some true) (hd : o.dst = some d) (hlt : Nat.blt d N = true)
    (ho : o.op = .buildSlice t 1 #[(0, x)]) (hx : ev L x = some (.agg cs.toArray)) (hl : cs.length = z) (hv : cs.all vok1 = true) (S : Sat w0 w R) (h : ∀ w' A c, Sat w0 w' (rvA e z A c 1 cs :: R) → ∀ a', FrD Df N a' ((d, .slice A 1 c) :: L) → wpList P ops Q rest a' w') : wpList P ops Q (o :: rest) a w := by
  obtain ⟨A, c, w', h1, h2, h3⟩ := lit1_exec (P := P) hu hi h0 fr ho hx hl hv S
  exact wl_val fr hw hd hlt h1 h2 (h w' A c h3)
/-- One element of several cells more behind a row of one's own. -/
theorem rvapp_exec {t z bytes : Nat} (ht : P.underlying t = some (.slice e)) (hinfo : (P.info? e).map (fun i => (i.zero.map (·.cells.size), i.size, i.bytes)) = some (some z, z, bytes)) (hz0 : Nat.blt 0 z = true) (hby : Nat.ble bytes 128 = true) (fr : FrD Df N a L) {o : Oper} {x y : Operand} {A Y : Option Addr} {n c cy : Nat} {xs news : List Value}
    (ho : o.op = .call { callee := .builtin .append, args := #[x, y], argTypes := #[t, t] }) (hx : ev L x = some (.slice A n c)) (hy : ev L y = some (.slice Y 1 cy)) (h1 : news.all (fun u => u.oneCell') = true) (hb : n ≤ 1000000000000) (S : Sat w0 w (rvA e z Y cy 1 news :: rvA e z A c n xs :: R)) :
    ∃ A2 c2 w', (execOp a.eval o).run P w = .ok (.value (.slice A2 (n + 1) c2)) w' ∧ vok (.slice A2 (n + 1) c2) = true ∧ Sat w0 w' (rvA e z A2 c2 (n + 1) (xs ++ news) :: R) := by
  obtain ⟨q1, q2, q3, q4, q5⟩ := rv_facts S
  cases Y with
  | none => have := q3 rfl; omega
  | some ad =>
    obtain ⟨g, rfl, hr⟩ := q5 ad rfl
    rw [List.all_eq_true] at h1
    obtain ⟨A2, c2, w', r1, r2, r3⟩ := rv_app (P := P) (ty := o.type) (ad := ⟨g, 0, none⟩) (cy := cy) ht hinfo (blt_lt hz0) (Nat.le_of_ble_eq_true hby) S.tl (by omega) (fun j u hu => by rw [addr0]; have := hr j u hu; rwa [Nat.zero_add] at this) (fun u hu => ⟨h1 u hu, q4 u hu⟩) hb
    exact ⟨A2, c2, w', app_op fr ho hx hy r1, vok_sl r2, r3⟩
theorem sl_rvapp {t z bytes : Nat} (ht : P.underlying t = some (.slice e)) (hinfo : (P.info? e).map (fun i => (i.zero.map (·.cells.size), i.size, i.bytes)) = some (some z, z, bytes)) (hz0 : Nat.blt 0 z = true) (hby : Nat.ble bytes 128 = true) {s : SOp} {rest : List Itm} {d : Nat} {x y : Operand} {A Y : Option Addr} {n c cy : Nat} {xs news : List Value} (fr : FrD Df N a L) (hw : wantS L s = some true) (hq : s.q = false) (hd : s.dst = some d) (hlt : Nat.blt d N = true)
    (ho : s.op = .call { callee := .builtin .append, args := #[x, y], argTypes := #[t, t] }) (hx : ev L x = some (.slice A n c)) (hy : ev L y = some (.slice Y 1 cy)) (h1 : news.all (fun u => u.oneCell') = true) (hb : n ≤ 1000000000000) (S : Sat w0 w (rvA e z Y cy 1 news :: rvA e z A c n xs :: R))
    (h : ∀ w' A2 c2, Sat w0 w' (rvA e z A2 c2 (n + 1) (xs ++ news) :: R) → S' w' ∧ ∀ a', FrD Df N a' ((d, .slice A2 (n + 1) c2) :: L) → SL P Q S' rest a' w') : SL P Q S' (.one s :: rest) a w := by
  obtain ⟨A2, c2, w', r1, r2, r3⟩ := rvapp_exec (P := P) ht hinfo hz0 hby fr (o := s.oper) ho hx hy h1 hb S
  exact sl_val fr hw hq hd hlt r1 (h w' A2 c2 r3).1 r2 (h w' A2 c2 r3).2
theorem wl_rvapp {t z bytes : Nat} (ht : P.underlying t = some (.slice e)) (hinfo : (P.info? e).map (fun i => (i.zero.map (·.cells.size), i.size, i.bytes)) = some (some z, z, bytes)) (hz0 : Nat.blt 0 z = true) (hby : Nat.ble bytes 128 = true) {o : Oper} {rest : List Oper} {d : Nat} {x y : Operand} {A Y : Option Addr} {n c cy : Nat} {xs news : List Value} (fr : FrD Df N a L) (hw : wantL ops L o = some true) (hd : o.dst = some d) (hlt : Nat.blt d N = true)
    (ho : o.op = .call { callee := .builtin .append, args := #[x, y], argTypes := #[t, t] }) (hx : ev L x = some (.slice A n c)) (hy : ev L y = some (.slice Y 1 cy)) (h1 : news.all (fun u => u.oneCell') = true) (hb : n ≤ 1000000000000) (S : Sat w0 w (rvA e z Y cy 1 news :: rvA e z A c n xs :: R))
    (h : ∀ w' A2 c2, Sat w0 w' (rvA e z A2 c2 (n + 1) (xs ++ news) :: R) → ∀ a', FrD Df N a' ((d, .slice A2 (n + 1) c2) :: L) → wpList P ops Q rest a' w') : wpList P ops Q (o :: rest) a w := by
  obtain ⟨A2, c2, w', r1, r2, r3⟩ := rvapp_exec (P := P) ht hinfo hz0 hby fr ho hx hy h1 hb S
  exact wl_val fr hw hd hlt r1 r2 (h w' A2 c2 r3)
end
/-! ### What is held -/
structure Hd where
  A : Option Addr
  c : Nat
  l : List Int
  g : Option (Option Addr × Nat × List Int)
  k : Int
def Hd.lv (h : Hd) : Value := match h.g with
  | none => .slice none 0 0
  | some p => .slice p.1 p.2.2.length p.2.1
def hdV (h : Hd) : List Value := [.slice h.A h.l.length h.c, h.lv, .int .i64 h.k]
def hdsV (hs : List Hd) : List Value := hs.flatMap hdV
def hdA (k : IntKind) (e : Nat) (h : Hd) : Asn := match h.g with
  | none => ownA k e h.A h.c h.l
  | some p => gwA e 1 h.A (h.l.map (Value.int k)) p.1 p.2.1 p.2.2.length (p.2.2.map (Value.int k))
theorem hdsV_len (hs : List Hd) : (hdsV hs).length = hs.length * 3 := by
  induction hs with
  | nil => rfl
  | cons h r ih =>
    have : hdsV (h :: r) = hdV h ++ hdsV r := by simp [hdsV]
    rw [this, List.length_append, ih, List.length_cons]
    show 3 + _ = _
    omega
theorem hdsV_at : ∀ (hs : List Hd) (i j : Nat) (u : Value) (hi : i < hs.length), (hdV hs[i])[j]? = some u → (hdsV hs)[i * 3 + j]? = some u := by
  intro hs
  induction hs with
  | nil => intro i j u hi; exact absurd hi (Nat.not_lt_zero _)
  | cons h r ih =>
    intro i j u hi hu
    have e : hdsV (h :: r) = hdV h ++ hdsV r := by simp [hdsV]
    have hl : (hdV h).length = 3 := rfl
    rw [e]
    cases i with
    | zero =>
      have hj : j < 3 := (List.getElem?_eq_some_iff.1 hu).1
      rw [List.getElem?_append_left (by omega), Nat.zero_mul, Nat.zero_add]
      exact hu
    | succ i =>
      rw [List.getElem?_append_right (by omega), show (i + 1) * 3 + j - (hdV h).length = i * 3 + j by omega]
      exact ih i j u (by simpa using hi) hu
theorem hdsV_set : ∀ (hs : List Hd) (i : Nat) (h' : Hd) (v : Value) (hi : i < hs.length), hdV h' = (hdV hs[i]).set 1 v → splice (hdsV hs) (i * 3 + 1) [v] = hdsV (hs.set i h') := by
  intro hs
  induction hs with
  | nil => intro i h' v hi; exact absurd hi (Nat.not_lt_zero _)
  | cons h r ih =>
    intro i h' v hi hv
    have e : hdsV (h :: r) = hdV h ++ hdsV r := by simp [hdsV]
    have hl : (hdV h).length = 3 := rfl
    cases i with
    | zero =>
      have e2 : hdsV ((h :: r).set 0 h') = hdV h' ++ hdsV r := by simp [hdsV]
      rw [e, e2, hv]
      simp [splice, hdV]
    | succ i =>
      have e2 : hdsV ((h :: r).set (i + 1) h') = hdV h ++ hdsV (r.set i h') := by simp [hdsV]
      rw [e, e2, ← ih i h' v (by simpa using hi) hv]
      unfold splice
      rw [show (i + 1) * 3 + 1 = (hdV h).length + (i * 3 + 1) by omega, List.take_length_add_append, List.append_assoc]
      congr 1
      rw [show (hdV h).length + (i * 3 + 1) + [v].length = (hdV h).length + (i * 3 + 1 + [v].length) by omega, List.drop_length_add_append]
theorem hdsV_same (hs : List Hd) (f : Hd → Hd) (h : ∀ x ∈ hs, hdV (f x) = hdV x) : hdsV (hs.map f) = hdsV hs := by
  induction hs with
  | nil => rfl
  | cons x r ih =>
    have e : ∀ (x : Hd) r, hdsV (x :: r) = hdV x ++ hdsV r := fun x r => by simp [hdsV]
    rw [List.map_cons, e, e, h x List.mem_cons_self, ih fun y hy => h y (List.mem_cons_of_mem _ hy)]
section
variable {w w0 : World} {R M X : List Asn} {k : IntKind} {e eo c : Nat} {A : Option Addr} {hs : List Hd} {i : Nat}
theorem held_at (S : Sat w0 w M) (j : Nat) (hj : M[j]? = some (rvA eo 3 A c hs.length (hdsV hs))) (hi : i < hs.length) : (∃ g, A = some ⟨g, 0, none⟩) ∧ (∀ ad, A = some ad → ∃ g, ad = ⟨g, 0, none⟩ ∧ w.rangeAt g (i * 3) (hdV hs[i])) ∧ ∀ v ∈ hdV hs[i], vok1 v = true := by
  obtain ⟨h1, h2, h3, h4, h5⟩ := S.rvAt j hj
  refine ⟨?_, fun ad he => ?_, fun v hv => ?_⟩
  · cases A with
    | none => have := h3 rfl; omega
    | some ad =>
      obtain ⟨g, rfl, _⟩ := h5 ad rfl
      exact ⟨g, rfl⟩
  · obtain ⟨g, rfl, hr⟩ := h5 ad he
    refine ⟨g, rfl, fun q u hu => ?_⟩
    have := hr (i * 3 + q) u (hdsV_at hs i q u hi hu)
    rwa [Nat.zero_add] at this
  · obtain ⟨q, hq⟩ := List.getElem?_of_mem hv
    exact h4 v (List.mem_of_getElem? (hdsV_at hs i q v hi hq))
theorem erase_parts {α : Type} (hs : List α) (hi : i < hs.length) (x : α) : hs = hs.take i ++ hs[i] :: hs.drop (i + 1) ∧ hs.eraseIdx i = hs.take i ++ hs.drop (i + 1) ∧ hs.set i x = hs.take i ++ x :: hs.drop (i + 1) :=
  ⟨by rw [List.getElem_cons_drop]; exact (List.take_append_drop i hs).symm, List.eraseIdx_eq_take_drop_succ hs i, List.set_eq_take_append_cons_drop.trans (by rw [if_pos hi])⟩
theorem mid_perm {a : Asn} {X Y Z W : List Asn} : (X ++ ((Y ++ a :: Z) ++ W)).Perm (a :: (X ++ ((Y ++ Z) ++ W))) := by
  have h1 : (X ++ ((Y ++ a :: Z) ++ W)) = (X ++ Y) ++ a :: (Z ++ W) := by simp
  have h2 : (a :: (X ++ ((Y ++ Z) ++ W))) = a :: ((X ++ Y) ++ (Z ++ W)) := by simp
  rw [h1, h2]
  exact List.perm_middle
theorem hds_out (X : List Asn) (S : Sat w0 w (X ++ (hs.map (hdA k e) ++ R))) (hi : i < hs.length) : Sat w0 w (hdA k e hs[i] :: (X ++ ((hs.eraseIdx i).map (hdA k e) ++ R))) := by
  obtain ⟨e1, e2, -⟩ := erase_parts hs hi hs[i]
  have e1' : hs.map (hdA k e) = (hs.take i).map (hdA k e) ++ hdA k e hs[i] :: (hs.drop (i + 1)).map (hdA k e) := by
    conv => lhs; rw [e1]
    rw [List.map_append, List.map_cons]
  rw [e2, List.map_append]
  rw [e1'] at S
  exact S.perm mid_perm
theorem hds_in (X : List Asn) {h' : Hd} (S : Sat w0 w (hdA k e h' :: (X ++ ((hs.eraseIdx i).map (hdA k e) ++ R)))) (hi : i < hs.length) : Sat w0 w (X ++ ((hs.set i h').map (hdA k e) ++ R)) := by
  obtain ⟨e1, e2, e3⟩ := erase_parts hs hi h'
  rw [e3, List.map_append, List.map_cons]
  rw [e2, List.map_append] at S
  exact S.perm mid_perm.symm
end
/-- The first ones are turned. -/
def partL {α : Type} (f : α → α) (i : Nat) (l : List α) : List α := (l.take i).map f ++ l.drop i
section
variable {α : Type} {f : α → α} {l : List α} {i : Nat}
theorem partL_0 : partL f 0 l = l := by simp [partL]
theorem partL_all : partL f l.length l = l.map f := by simp [partL]
theorem partL_len : (partL f i l).length = l.length := by simp [partL]; omega
theorem partL_get (hi : i < l.length) : (partL f i l)[i]? = some l[i] := by
  unfold partL
  rw [List.getElem?_append_right (by simp; omega), List.length_map, List.length_take, Nat.min_eq_left (by omega), Nat.sub_self, List.getElem?_drop, Nat.add_zero, List.getElem?_eq_getElem hi]
theorem partL_get' (hi : i < l.length) (h : i < (partL f i l).length) : (partL f i l)[i] = l[i] := by
  have := partL_get (f := f) hi
  rw [List.getElem?_eq_getElem h] at this
  injection this
theorem partL_set (hi : i < l.length) : (partL f i l).set i (f l[i]) = partL f (i + 1) l := by
  unfold partL
  rw [List.set_append_right _ _ (by simp; omega), List.length_map, List.length_take, Nat.min_eq_left (by omega), Nat.sub_self, List.take_succ_eq_append_getElem hi, List.map_append, List.append_assoc]
  congr 1
  have e : l.drop i = l[i] :: l.drop (i + 1) := List.drop_eq_getElem_cons hi
  rw [e, List.set_cons_zero]
  rfl
end
end Go.Proofs.YticnjkdaccacaaaDoor.Sx
