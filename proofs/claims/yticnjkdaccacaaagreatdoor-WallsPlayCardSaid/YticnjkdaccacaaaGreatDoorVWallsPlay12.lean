/- Texts of this work, one behind the other. -/
import Derived.Test.YticnjkdaccacaaaGreatDoorVWallsPlay11
import Derived.Test.YticnjkdaccacaaaGreatDoorProg
import Derived.IntWalk
section
namespace Go.Proofs.YticnjkdaccacaaaGreatDoor.Sx
open Go Go.RowKit Base _root_.Go.Proofs.YticnjkdaccacaaaGreatDoor.Own OwnV
section
variable {P : Program} {T : Orc} {ops : Array Oper} {Q : Exit → Act → World → Prop} {S' : World → Prop} {Df : List Deferred} {N : Nat} {a : Act} {w w0 : World} {L : Env} {R M : List Asn} {e z : Nat} {A : Option Addr} {c n : Nat} {xs : List Value}
theorem el_wf {α : Type} {f : α → List Value} (hf : ∀ x, (f x).length = z) {l : List α} (S : Sat w0 w M) (j : Nat) (hj : M[j]? = some (rvA e z A c l.length (l.flatMap f))) {i : Nat} (hi : i < l.length) : (∃ g, A = some ⟨g, 0, none⟩ ∧ w.rangeAt g (i * z) (f l[i])) ∧ ∀ u ∈ f l[i], vok1 u = true := by
  obtain ⟨h1, h2, h3, h4, h5⟩ := S.rvAt j hj
  have hget : ∀ q u, (f l[i])[q]? = some u → (l.flatMap f)[i * z + q]? = some u := fun q u hu => el_get hf l i q u hi hu
  refine ⟨?_, fun u hu => ?_⟩
  · cases A with
    | none => have := h3 rfl; omega
    | some ad =>
      obtain ⟨g, rfl, hr⟩ := h5 ad rfl
      exact ⟨g, rfl, fun q u hu => by have := hr (i * z + q) u (hget q u hu); rwa [Nat.zero_add] at this⟩
  · obtain ⟨q, hq⟩ := List.getElem?_of_mem hu
    exact h4 u (List.mem_of_getElem? (hget q u hq))
theorem el_rng {α : Type} {f : α → List Value} (hf : ∀ x, (f x).length = z) {l : List α} {g : Nat} (S : Sat w0 w M) (j : Nat) (hj : M[j]? = some (rvA e z (some ⟨g, 0, none⟩) c l.length (l.flatMap f))) {i : Nat} (hi : i < l.length) : w.rangeAt g (i * z) (f l[i]) := by
  obtain ⟨⟨g', h1, h2⟩, _⟩ := el_wf hf S j hj hi
  injection h1 with h1
  injection h1 with h1
  rw [h1]; exact h2
theorem litc_exec {t : Nat} (hu : P.underlying t = some (.slice e)) (hi : (P.info? e).map (fun i => (i.zero.isSome, i.size)) = some (true, 1)) (fr : FrD Df N a L) {o : Oper} {x : Operand} {v : Value} (ho : o.op = .buildSlice t 1 #[(0, x)]) (hx : ev L x = some v) (hc : v.cells = #[v]) (hv : vok1 v = true) (S : Sat w0 w R) :
    ∃ A c w', (execOp a.eval o).run P w = .ok (.value (.slice A 1 c)) w' ∧ vok (.slice A 1 c) = true ∧ Sat w0 w' (rvA e 1 A c 1 [v] :: R) := by
  refine ⟨some ⟨w.heap.size, 0, none⟩, 1, w.alloc (.cells #[v] e), one_cell_exec (P := P) fr ho hx hc hu hi, vok_sl ⟨Nat.le_refl _, by unfold maxLen; omega⟩, ?_⟩
  have hm := RowV.made w e 1 1 #[v] S.below.size (by simp) (by unfold maxLen; omega)
  exact S.add (F := fun g => (Value.slice (some ⟨w.heap.size, 0, none⟩) 1 1).ownBlock = some g) ((Below.refl _ _).alloc (Nat.le_refl _) _) ⟨hm, fun u hu => by rw [List.mem_singleton] at hu; subst hu; exact hv, fun g => Iff.rfl⟩ fun g hg => by
    have : w.heap.size = g := by simpa [Value.ownBlock] using hg
    omega
theorem sl_litv {t : Nat} (hu : P.underlying t = some (.slice e)) (hi : (P.info? e).map (fun i => (i.zero.isSome, i.size)) = some (true, 1)) {s : SOp} {rest : List Itm} {d : Nat} {x : Operand} {v : Value} (fr : FrD Df N a L) (hw : wantS L s = some true) (hq : s.q = false) (hd : s.dst = some d) (hlt : Nat.blt d N = true) (ho : s.op = .buildSlice t 1 #[(0, x)]) (hx : ev L x = some v) (hc : v.cells = #[v]) (hv : vok1 v = true) (S : Sat w0 w R)
    (h : ∀ w' A c, Sat w0 w' (rvA e 1 A c 1 [v] :: R) → S' w' ∧ ∀ a', FrD Df N a' ((d, .slice A 1 c) :: L) → SL P Q S' rest a' w') : SL P Q S' (.one s :: rest) a w := by
  obtain ⟨A, c, w', h1, h2, h3⟩ := litc_exec (P := P) hu hi fr (o := s.oper) ho hx hc hv S
  exact sl_val fr hw hq hd hlt h1 (h w' A c h3).1 h2 (h w' A c h3).2
theorem sl_strv (hT : T.Ok P) {s : SOp} {rest : List Itm} {te : TypeId} {p v : Operand} {g j c n e' z : Nat} {xs : List Value} {u : Value} (fr : FrD Df N a L) (hw : wantS L s = some true) (hq : s.q = false) (hd : s.dst = none) (ho : s.op = .store te p v) (hp : ev L p = some (.pointer (some ⟨g, j, none⟩))) (hv : ev L v = some u) (hs : T.sz.lookup te = some 1)
    (hc : u.cells = #[u]) (h1 : u.oneCell' = true) (h2 : vok1 u = true) (S : Sat w0 w (rvA e' z (some ⟨g, 0, none⟩) c n xs :: R)) (hj : j < n * z) (h : ∀ w', Sat w0 w' (rvA e' z (some ⟨g, 0, none⟩) c n (splice xs j [u]) :: R) → S' w' ∧ SL P Q S' rest a w') : SL P Q S' (.one s :: rest) a w := by
  have hset := rv_set S rfl j [u] (by simp; omega) (fun v hv => by rw [List.mem_singleton] at hv; subst hv; exact h2)
  refine sl_skip (w' := w.setCells g j [u]) fr hw hq hd ?_ (h _ hset).1 (h _ hset).2
  obtain ⟨F, q1, q2, q3⟩ := S.hd
  obtain ⟨A2, c2, he, r1, r2, r3, r4⟩ := q1.slice
  injection he with e1 e2 e3
  subst e1
  obtain ⟨g', s1, s2, s3, s4, s5⟩ := r4 _ rfl
  injection s1 with s1
  subst s1
  have hst := run_storeCells_cells (P := P) g j [u] 0 w (fun i hi => by
    have hi : i = 0 := by simpa using hi
    subst hi
    have := (s5 j hj).1
    simpa using this) (fun i hi => by
    have hi : i = 0 := by simpa using hi
    subst hi
    have := (s5 j hj).2
    simpa using this) (fun v hv => by rw [List.mem_singleton] at hv; subst hv; exact h1)
  have hst' : (storeCells (⟨g, j, none⟩ : Addr) [u]).run P w = .ok () (w.setCells g j [u]) := by simpa using hst
  unfold execOp
  simp only [SOp.oper, ho, (fr.ev hp).1, (fr.ev hv).1, Instr.storeAt, Instr.sureAddr, storeVar, hc]
  simp [size_run hT hs, hst']
end
theorem i64_wf {x : Int} (h0 : -9223372036854775808 ≤ x) (h1 : x ≤ 9223372036854775807) : (Lit.int .i64 x).wf = true := by
  unfold Lit.wf
  have h2 : IntKind.i64.min = -9223372036854775808 := by decide
  have h3 : IntKind.i64.max = 9223372036854775807 := by decide
  simp only [h2, h3, Bool.and_eq_true, decide_eq_true_eq]
  exact ⟨h0, h1⟩
def rows (rs : List Rw) : List Asn := rs.map fun r => ownA .u8 5 r.1 r.2.1 r.2.2
def secV (r : Rw) : List Value := [rwV r]
def waitV (p : Int × Rw) : List Value := [.int .i64 p.1, rwV p.2]
theorem secV_len (r : Rw) : (secV r).length = 1 := rfl
theorem waitV_len (p : Int × Rw) : (waitV p).length = 2 := rfl
abbrev DM := List (List Int) × List (Int × List Int)
abbrev DdI := (Option Addr × Nat × List Rw) × (Option Addr × Nat × List (Int × Rw))
def DdIs (p : DdI) (D : DM) : Prop := p.1.2.2.map (·.2.2) = D.1 ∧ p.2.2.2.map (fun q => (q.1, q.2.2.2)) = D.2
def ddT (b : Nat) (p : DdI) : List Asn := stA 145 b [.slice p.1.1 p.1.2.2.length p.1.2.1, .slice p.2.1 p.2.2.2.length p.2.2.1] :: rvA 45 1 p.1.1 p.1.2.1 p.1.2.2.length (p.1.2.2.flatMap secV) :: rvA 152 2 p.2.1 p.2.2.1 p.2.2.2.length (p.2.2.2.flatMap waitV) :: rows (p.1.2.2 ++ p.2.2.2.map (·.2))
def ddkA (b : Nat) (D : DM) : Asn := exA fun p : { p : DdI // DdIs p D } => allA (ddT b p.1)
def orcDq : Orc := ⟨[(3, .int .i64), (4, .bool), (5, .int .u8), (46, .int .u64), (25, .int .i64), (45, .slice 5), (66, .slice 45), (152, .struct #[Go.Field.mk "at" 3 0 false "" "concordat/concordatref04" 0, Go.Field.mk "b" 45 1 false "" "concordat/concordatref04" 8]), (143, .slice 152), (145, .struct #[Go.Field.mk "sure" 66 0 false "" "concordat/concordatref04" 0, Go.Field.mk "waits" 143 1 false "" "concordat/concordatref04" 24]), (28, .pointer 145)],
  [(3, 1), (4, 1), (5, 1), (46, 1), (25, 1), (45, 1), (66, 1), (152, 2), (143, 1), (145, 2), (28, 1)]⟩
theorem orcDq_ok : orcDq.Ok Tryz.prog := ⟨⟨Tryz.underlying3, Tryz.underlying4, Tryz.underlying5, Tryz.underlying46, Tryz.underlying25, Tryz.underlying45, Tryz.underlying66, Tryz.underlying152, Tryz.underlying143, Tryz.underlying145, Tryz.underlying28, trivial⟩, ⟨by kernel_rfl, by kernel_rfl, by kernel_rfl, by kernel_rfl, by kernel_rfl, by kernel_rfl, by kernel_rfl, by kernel_rfl, by kernel_rfl, by kernel_rfl, by kernel_rfl, trivial⟩⟩
theorem rowDq : RowTy Tryz.prog 45 5 .u8 := ⟨Tryz.underlying45, 1, by decide, by kernel_rfl⟩
theorem infoDs : (Tryz.prog.info? 45).map (fun i => (i.zero.map (·.cells.size), i.size, i.bytes)) = some (some 1, 1, 24) := by kernel_rfl
theorem infoDw : (Tryz.prog.info? 152).map (fun i => (i.zero.map (·.cells.size), i.size, i.bytes)) = some (some 2, 2, 32) := by kernel_rfl
theorem infoDs' : (Tryz.prog.info? 45).map (fun i => (i.zero.isSome, i.size)) = some (true, 1) := by kernel_rfl
theorem infoDw' : (Tryz.prog.info? 152).map (fun i => (i.zero.isSome, i.size)) = some (true, 2) := by kernel_rfl
section
variable {w w0 : World} {R M : List Asn} {b : Nat} {D : DM} {As Aw : Option Addr} {cs cw : Nat} {ss : List Rw} {ws : List (Int × Rw)}
theorem Sat.ofDd (S : Sat w0 w (ddkA b D :: R)) : ∃ As cs ss Aw cw ws, DdIs ((As, cs, ss), (Aw, cw, ws)) D ∧ Sat w0 w (stA 145 b [.slice As ss.length cs, .slice Aw ws.length cw] :: rvA 45 1 As cs ss.length (ss.flatMap secV) :: rvA 152 2 Aw cw ws.length (ws.flatMap waitV) :: (rows (ss ++ ws.map (·.2)) ++ R)) := by
  obtain ⟨⟨⟨⟨As, cs, ss⟩, ⟨Aw, cw, ws⟩⟩, hp⟩, S⟩ := Sat.ofEx S
  exact ⟨As, cs, ss, Aw, cw, ws, hp, Sat.ofAll S⟩
theorem Sat.toDd (hp : DdIs ((As, cs, ss), (Aw, cw, ws)) D) (S : Sat w0 w (stA 145 b [.slice As ss.length cs, .slice Aw ws.length cw] :: rvA 45 1 As cs ss.length (ss.flatMap secV) :: rvA 152 2 Aw cw ws.length (ws.flatMap waitV) :: (rows (ss ++ ws.map (·.2)) ++ R))) : Sat w0 w (ddkA b D :: R) :=
  Sat.toEx (f := fun p : { p : DdI // DdIs p D } => allA (ddT b p.1)) ⟨((As, cs, ss), (Aw, cw, ws)), hp⟩ (Sat.toAll (L := ddT b ((As, cs, ss), (Aw, cw, ws))) S)
theorem Sat.toDd2 {O : Asn} (hp : DdIs ((As, cs, ss), (Aw, cw, ws)) D) (S : Sat w0 w (O :: stA 145 b [.slice As ss.length cs, .slice Aw ws.length cw] :: rvA 45 1 As cs ss.length (ss.flatMap secV) :: rvA 152 2 Aw cw ws.length (ws.flatMap waitV) :: (rows (ss ++ ws.map (·.2)) ++ R))) : Sat w0 w (O :: ddkA b D :: R) :=
  (Sat.toDd (R := O :: R) hp (S.perm (List.perm_middle (l₁ := stA 145 b [.slice As ss.length cs, .slice Aw ws.length cw] :: rvA 45 1 As cs ss.length (ss.flatMap secV) :: rvA 152 2 Aw cw ws.length (ws.flatMap waitV) :: rows (ss ++ ws.map (·.2)))).symm)).frontAt 1 rfl
theorem rows_at (X : List Asn) {rs : List Rw} {j : Nat} (hj : j < rs.length) : (X ++ (rows rs ++ R))[X.length + j]? = some (ownA .u8 5 rs[j].1 rs[j].2.1 rs[j].2.2) := by
  rw [List.getElem?_append_right (Nat.le_add_right _ _), Nat.add_sub_cancel_left, List.getElem?_append_left (by simpa [rows] using hj)]
  simp [rows, hj]
theorem row_at (X : List Asn) {rs : List Rw} (S : Sat w0 w (X ++ (rows rs ++ R))) {j : Nat} (hj : j < rs.length) : Rk .u8 w rs[j].1 rs[j].2.2 ∧ rs[j].2.2.length ≤ rs[j].2.1 ∧ rs[j].2.1 ≤ maxLen := (S.frontAt _ (rows_at X hj)).own
theorem rows_snoc {r : Rw} {rs : List Rw} : (ownA .u8 5 r.1 r.2.1 r.2.2 :: (rows rs ++ R)).Perm (rows (rs ++ [r]) ++ R) := by
  have e : rows (rs ++ [r]) ++ R = rows rs ++ ownA .u8 5 r.1 r.2.1 r.2.2 :: R := by simp [rows]
  rw [e]
  exact List.perm_middle.symm
theorem flat_secV (l : List Rw) : ∀ u ∈ l.flatMap secV, u.oneCell' = true := by
  intro u hu
  rw [List.mem_flatMap] at hu
  obtain ⟨p, _, hp⟩ := hu
  simp only [secV, List.mem_cons, List.not_mem_nil, or_false] at hp
  subst hp; rfl
set_option maxRecDepth 100000 in
theorem dd_size (S : Sat w0 w (ddkA b D :: R)) : Calls Tryz.prog 83 #[.pointer (some ⟨b, 0, none⟩)] w fun e w' => e = .returned (.int .i64 (D.1.length : Int)) ∧ vok (.int .i64 (D.1.length : Int)) = true ∧ Sat w0 w' (ddkA b D :: R) := by
  obtain ⟨As, cs, ss, Aw, cw, ws, hp, S⟩ := S.ofDd
  have hl : D.1.length = ss.length := by rw [← hp.1, List.length_map]
  refine calls_start (N := 8) [.pointer (some ⟨b, 0, none⟩)] Tryz.func83 rfl rfl rfl (vok_c rfl rfl) fun a fr => ?_
  skip; (repeat (with_reducible refine wp_seq ?_)); refine wp_region_lit ?_
  refine wl_run orcDq_ok 1 rfl fr fun a fr => ?_
  refine wpList_nil ?_; (repeat (with_reducible refine then_n ?_))
  skip; (repeat (with_reducible refine wp_seq ?_)); refine wp_region_lit ?_
  refine wl_run orcDq_ok 3 rfl fr fun a fr => ?_
  refine wl_ldf orcDq_ok (Sat.stAt S 0 rfl (j := 0) rfl) fr rfl rfl rfl rfl rfl rfl rfl fun a fr => ?_
  refine wl_run orcDq_ok 2 rfl fr fun a fr => ?_
  refine wpList_nil ?_; (repeat (with_reducible refine then_n ?_))
  refine wp_ret ?_
  skip; (repeat (first | (with_reducible refine then_r ?_) | (with_reducible refine blk_r ?_) | (with_reducible refine ng_r ?_)))
  rw [hl]
  refine ret1 fr rfl rfl ?_
  exact ⟨rfl, fr.vok (d := 2) rfl, S.toDd hp⟩
set_option maxRecDepth 100000 in
theorem dd_waits (S : Sat w0 w (ddkA b D :: R)) : Calls Tryz.prog 24 #[.pointer (some ⟨b, 0, none⟩)] w fun e w' => e = .returned (.int .i64 (D.2.length : Int)) ∧ vok (.int .i64 (D.2.length : Int)) = true ∧ Sat w0 w' (ddkA b D :: R) := by
  obtain ⟨As, cs, ss, Aw, cw, ws, hp, S⟩ := S.ofDd
  have hl : D.2.length = ws.length := by rw [← hp.2, List.length_map]
  refine calls_start (N := 8) [.pointer (some ⟨b, 0, none⟩)] Tryz.func24 rfl rfl rfl (vok_c rfl rfl) fun a fr => ?_
  skip; (repeat (with_reducible refine wp_seq ?_)); refine wp_region_lit ?_
  refine wl_run orcDq_ok 1 rfl fr fun a fr => ?_
  refine wpList_nil ?_; (repeat (with_reducible refine then_n ?_))
  skip; (repeat (with_reducible refine wp_seq ?_)); refine wp_region_lit ?_
  refine wl_run orcDq_ok 3 rfl fr fun a fr => ?_
  refine wl_ldf orcDq_ok (Sat.stAt S 0 rfl (j := 1) rfl) fr rfl rfl rfl rfl rfl rfl rfl fun a fr => ?_
  refine wl_run orcDq_ok 2 rfl fr fun a fr => ?_
  refine wpList_nil ?_; (repeat (with_reducible refine then_n ?_))
  refine wp_ret ?_
  skip; (repeat (first | (with_reducible refine then_r ?_) | (with_reducible refine blk_r ?_) | (with_reducible refine ng_r ?_)))
  rw [hl]
  refine ret1 fr rfl rfl ?_
  exact ⟨rfl, fr.vok (d := 2) rfl, S.toDd hp⟩
set_option maxRecDepth 100000 in
theorem dd_new_no {x : Int} (hx : (Lit.int .i64 x).wf = true) (h : ¬ (1 ≤ x ∧ x ≤ 4096)) (S : Sat w0 w R) : Calls Tryz.prog 10 #[.int .i64 x] w fun e w' => e = .returned (.tuple #[.pointer none, .int .i64 1]) ∧ Sat w0 w' R := by
  refine calls_start (N := 30) [.int .i64 x] Tryz.func10 rfl rfl rfl (vok_c hx rfl) fun a fr => ?_
  skip; (repeat (with_reducible refine wp_seq ?_)); refine wp_region_lit ?_
  refine wl_run orcDq_ok 2 rfl fr fun a fr => ?_
  refine wpList_nil ?_; (repeat (with_reducible refine then_n ?_))
  skip; (repeat (with_reducible refine wp_seq ?_)); refine wp_region_lit ?_
  refine wl_run orcDq_ok 3 rfl fr fun a fr => ?_
  by_cases h1 : x < 1
  · have fr := fr.bool (d := 8) rfl (decide_eq_true h1)
    refine wl_run orcDq_ok 3 rfl fr fun a fr => ?_
    refine wpList_nil ?_; (repeat (with_reducible refine then_n ?_))
    skip; (repeat (with_reducible refine wp_seq ?_))
    refine cw_t fr rfl ?_
    skip; (repeat (with_reducible refine wp_seq ?_)); refine wp_region_lit ?_
    refine wl_run orcDq_ok 2 rfl fr fun a fr => ?_
    refine wpList_nil ?_; (repeat (with_reducible refine then_n ?_))
    refine wp_ret ?_
    skip; (repeat (first | (with_reducible refine then_r ?_) | (with_reducible refine blk_r ?_) | (with_reducible refine ng_r ?_)))
    refine ret2 fr rfl rfl rfl ?_
    exact ⟨rfl, S⟩
  · have fr := fr.bool (d := 8) rfl (decide_eq_false h1)
    refine wl_run orcDq_ok 2 rfl fr fun a fr => ?_
    have fr := fr.bool (d := 10) rfl (decide_eq_true (show x > 4096 by omega))
    refine wl_run orcDq_ok 1 rfl fr fun a fr => ?_
    refine wpList_nil ?_; (repeat (with_reducible refine then_n ?_))
    skip; (repeat (with_reducible refine wp_seq ?_))
    refine cw_t fr rfl ?_
    skip; (repeat (with_reducible refine wp_seq ?_)); refine wp_region_lit ?_
    refine wl_run orcDq_ok 2 rfl fr fun a fr => ?_
    refine wpList_nil ?_; (repeat (with_reducible refine then_n ?_))
    refine wp_ret ?_
    skip; (repeat (first | (with_reducible refine then_r ?_) | (with_reducible refine blk_r ?_) | (with_reducible refine ng_r ?_)))
    refine ret2 fr rfl rfl rfl ?_
    exact ⟨rfl, S⟩
set_option maxRecDepth 100000 in
set_option maxHeartbeats 1000000 in
theorem dd_new {x : Int} (hx : (Lit.int .i64 x).wf = true) (h : 1 ≤ x ∧ x ≤ 4096) (S : Sat w0 w R) : Calls Tryz.prog 10 #[.int .i64 x] w fun e w' => ∃ b, e = .returned (.tuple #[.pointer (some ⟨b, 0, none⟩), .int .i64 0]) ∧ Sat w0 w' (ddkA b (List.replicate x.toNat (List.replicate 64 0), []) :: R) := by
  obtain ⟨m, rfl⟩ : ∃ m : Nat, x = m := ⟨x.toNat, by omega⟩
  refine calls_start (N := 30) [.int .i64 (m : Int)] Tryz.func10 rfl rfl rfl (vok_c hx rfl) fun a fr => ?_
  skip; (repeat (with_reducible refine wp_seq ?_)); refine wp_region_lit ?_
  refine wl_run orcDq_ok 2 rfl fr fun a fr => ?_
  refine wpList_nil ?_; (repeat (with_reducible refine then_n ?_))
  skip; (repeat (with_reducible refine wp_seq ?_)); refine wp_region_lit ?_
  refine wl_run orcDq_ok 3 rfl fr fun a fr => ?_
  have fr := fr.bool (d := 8) rfl (decide_eq_false (show ¬ (m : Int) < 1 by omega))
  refine wl_run orcDq_ok 2 rfl fr fun a fr => ?_
  have fr := fr.bool (d := 10) rfl (decide_eq_false (show ¬ (m : Int) > 4096 by omega))
  refine wl_run orcDq_ok 1 rfl fr fun a fr => ?_
  refine wpList_nil ?_; (repeat (with_reducible refine then_n ?_))
  skip; (repeat (with_reducible refine wp_seq ?_))
  refine cw_f fr rfl ?_
  refine wp_skip ?_
  (with_reducible refine then_n ?_)
  skip; (repeat (with_reducible refine wp_seq ?_)); refine wp_region_lit ?_
  refine wl_build (cs := [Value.slice none 0 0, Value.slice none 0 0]) (L2 := []) fr rfl rfl rfl rfl (by simp) (by kernel_rfl) rfl fun a fr => ?_
  refine wl_boxs fr rfl rfl rfl rfl rfl rfl S ?_
  intro w b S a fr
  refine wl_run orcDq_ok 1 rfl fr fun a fr => ?_
  refine wpList_nil ?_; (repeat (with_reducible refine then_n ?_))
  skip; (repeat (with_reducible refine wp_seq ?_)); refine wp_region_lit ?_
  refine wl_run orcDq_ok 1 rfl fr fun a fr => ?_
  refine wpList_nil ?_; (repeat (with_reducible refine then_n ?_))
  have S : Sat w0 w (rvA 45 1 none 0 0 [] :: stA 145 b [.slice none 0 0, .slice none 0 0] :: R) := rv_nil 45 1 S
  have S : Sat w0 w (stA 145 b [.slice none 0 0, .slice none 0 0] :: rvA 45 1 none 0 0 [] :: R) := S.frontAt 1 rfl
  skip; (repeat (with_reducible refine wp_seq ?_))
  refine wp_block ?_
  refine cw_loop (fun q a w1 => ∃ (As : Option Addr) (cs : Nat) (ss : List Rw), ss.length + q = m + 1 ∧ ss.length ≤ m ∧ ss.map (·.2.2) = List.replicate ss.length (List.replicate 64 0) ∧ Fr 30 a [(0, .int .i64 (m : Int)), (4, .pointer (some ⟨b, 0, none⟩)), (5, .int .i64 (ss.length : Int))] ∧ Sat w0 w1 (stA 145 b [.slice As ss.length cs, .slice none 0 0] :: rvA 45 1 As cs ss.length (ss.flatMap secV) :: (rows ss ++ R))) (m + 1)
    ⟨none, 0, [], by simp, Nat.zero_le _, rfl, fr.sub ⟨rfl, rfl, rfl, trivial⟩, S⟩ ?_ ?_
  · rintro a w1 ⟨As, cs, ss, h1, h2, -⟩
    omega
  clear fr S
  rintro q a w1 ⟨As, cs, ss, hq, hle, hss, fr, S⟩
  skip; (repeat (with_reducible refine wp_seq ?_)); refine wp_region_lit ?_
  refine wl_run orcDq_ok 3 rfl fr fun a fr => ?_
  refine wpList_nil ?_; (repeat (with_reducible refine then_n ?_))
  by_cases hlt : ss.length < m
  rotate_left
  · have fr := fr.bool (d := 16) rfl (decide_eq_false (show ¬ (ss.length : Int) < (m : Int) by omega))
    skip; (repeat (with_reducible refine wp_seq ?_))
    refine cw_f fr rfl ?_
    refine wp_exit ?_
    skip; (repeat (first | (with_reducible refine then_e ?_) | (with_reducible refine ng_e ?_) | (with_reducible refine blk_e (by decide) ?_))); (with_reducible refine blk_y ?_); (repeat (with_reducible refine then_n ?_))
    skip; (repeat (with_reducible refine wp_seq ?_)); refine wp_region_lit ?_
    refine wl_run orcDq_ok 3 rfl fr fun a fr => ?_
    refine wpList_nil ?_; (repeat (with_reducible refine then_n ?_))
    refine wp_ret ?_
    skip; (repeat (first | (with_reducible refine then_r ?_) | (with_reducible refine blk_r ?_) | (with_reducible refine ng_r ?_)))
    refine ret2 fr rfl rfl rfl ?_
    refine ⟨b, rfl, ?_⟩
    have S := rv_nil 152 2 S
    have S : Sat w0 w1 (stA 145 b [.slice As ss.length cs, .slice none ([] : List (Int × Rw)).length 0] :: rvA 45 1 As cs ss.length (ss.flatMap secV) :: rvA 152 2 none 0 ([] : List (Int × Rw)).length (([] : List (Int × Rw)).flatMap waitV) :: (rows (ss ++ ([] : List (Int × Rw)).map (·.2)) ++ R)) := by
      rw [List.map_nil, List.append_nil]
      exact (S.frontAt 2 rfl).frontAt 2 rfl
    refine Sat.toDd ⟨?_, rfl⟩ S
    show ss.map (·.2.2) = List.replicate (m : Int).toNat _
    rw [hss, show ss.length = (m : Int).toNat by omega]
  have fr := fr.bool (d := 16) rfl (decide_eq_true (show (ss.length : Int) < (m : Int) by omega))
  skip; (repeat (with_reducible refine wp_seq ?_))
  refine cw_t fr rfl ?_
  refine wp_skip ?_
  (with_reducible refine then_n ?_)
  skip; (repeat (with_reducible refine wp_seq ?_))
  refine wp_block ?_
  skip; (repeat (with_reducible refine wp_seq ?_))
  refine wp_region_ph [] [8, 9, 10] [] [] [.one (0, true, some 19), .one (1, true, some 20), .one (2, true, some 21), .one (3, true, some 22), .one (4, true, some 23), .one (5, false, some 24), .one (6, false, some 25), .one (7, false, some 26)] [.one ⟨true, some 19, (Go.Op.move (Go.Operand.tmp 4)), 28, none⟩,
    .one ⟨true, some 20, (Go.Op.move (Go.Operand.tmp 4)), 28, none⟩,
    .one ⟨true, some 21, (Go.Op.nilCheck (Go.Operand.tmp 20)), 0, none⟩,
    .one ⟨true, some 22, (Go.Op.fieldAddr 145 (Go.Operand.tmp 21) 0), 0, none⟩,
    .one ⟨true, some 23, (Go.Op.load 66 (Go.Operand.tmp 22)), 66, none⟩,
    .one ⟨false, some 24, (Go.Op.makeSlice 45 (Go.Operand.const (Go.Value.int Go.IntKind.i64 64)) (Go.Operand.const (Go.Value.int Go.IntKind.i64 64))), 45, none⟩,
    .one ⟨false, some 25, (Go.Op.buildSlice 66 1 #[(0, (Go.Operand.tmp 24))]), 66, none⟩,
    .one ⟨false, some 26, (Go.Op.call { callee := (Go.Callee.builtin Go.Builtin.append), args := #[(Go.Operand.tmp 23), (Go.Operand.tmp 25)], argTypes := #[66, 66] }), 66, none⟩] [.one (8, true, some 27), .one (9, true, some 28), .one (10, false, none)] [.one ⟨true, some 27, (Go.Op.nilCheck (Go.Operand.tmp 19)), 0, none⟩,
    .one ⟨true, some 28, (Go.Op.fieldAddr 145 (Go.Operand.tmp 27) 0), 0, none⟩,
    .one ⟨false, none, (Go.Op.store 66 (Go.Operand.tmp 28) (Go.Operand.tmp 26)), 0, none⟩] (fun v => Sat w0 v [stA 145 b [.slice As ss.length cs, .slice none 0 0]]) (fun v => Sat w0 v []) rfl (by kernel_rfl) (by kernel_rfl) (by kernel_rfl) (by kernel_rfl) (S.drew.firsts [_]) (fun _ S => S.firsts []) ?_
  have S := S.drew
  refine sl_next ?_
  refine sl_run orcDq_ok 4 rfl fr fun a fr => ?_
  refine sl_ldf orcDq_ok (fun _ S => Sat.stAt S 0 rfl (j := 0) rfl) fr rfl rfl rfl rfl rfl rfl rfl rfl (S.firsts [_]) fun a fr => ?_
  refine sl_make rowDq fr rfl rfl rfl rfl rfl rfl rfl (by decide) S ?_
  intro w3 A3 c3 S
  refine ⟨(S.frontAt 1 rfl).firsts [_], fun a fr => ?_⟩
  obtain ⟨hrk, hm3⟩ := S.own
  refine sl_litv (v := rwV (A3, c3, List.replicate 64 0)) Tryz.underlying66 infoDs' fr rfl rfl rfl rfl rfl rfl rfl (vok_sl (A := A3) hm3) S ?_
  intro w4 A4 c4 S
  refine ⟨(S.frontAt 2 rfl).firsts [_], fun a fr => ?_⟩
  have S := (S.frontAt 3 rfl).frontAt 1 rfl
  refine sl_rvapp (z := 1) (bytes := 24) Tryz.underlying66 infoDs rfl rfl fr rfl rfl rfl rfl rfl rfl rfl rfl (by omega) S ?_
  intro w5 A5 c5 S
  refine ⟨(S.frontAt 2 rfl).firsts [_], fun a fr => ?_⟩
  refine sl_next ?_
  refine sl_run orcDq_ok 2 rfl fr fun a fr => ?_
  have S := S.frontAt 2 rfl
  refine sl_stf (j := 0) orcDq_ok fr rfl rfl rfl rfl rfl rfl rfl rfl rfl S rfl ?_
  intro w6 S
  refine ⟨S.firsts [], ?_⟩
  refine sl_end ?_
  (repeat (first | (with_reducible refine then_n ?_) | (with_reducible refine blk_n ?_) | (with_reducible refine ng_n ?_)))
  skip; (repeat (with_reducible refine wp_seq ?_)); refine wp_region_lit ?_
  refine wl_run orcDq_ok 3 rfl fr fun a fr => ?_
  refine wpList_nil ?_; (repeat (with_reducible refine then_n ?_))
  have fr := fr.spell (d := 5) rfl (congrArg (Value.int .i64) (i64_next hlt (by omega)))
  have S2 : Sat w0 w6 (stA 145 b [.slice A5 (ss.length + 1) c5, .slice none 0 0] :: rvA 45 1 A5 c5 (ss.length + 1) (ss.flatMap secV ++ secV (A3, c3, List.replicate 64 0)) :: ownA .u8 5 A3 c3 (List.replicate 64 0) :: (rows ss ++ R)) := S
  have eln : ss.length + 1 = (ss ++ [((A3, c3, List.replicate 64 0) : Rw)]).length := by rw [List.length_append]; rfl
  have S3 := S2.perm (List.Perm.append_left [_, _] (rows_snoc (r := (A3, c3, List.replicate 64 0))))
  rw [← el_snoc, eln] at S3
  rw [eln] at fr
  refine ⟨A5, c5, ss ++ [(A3, c3, List.replicate 64 0)], by rw [← eln]; omega, by rw [← eln]; omega, ?_, fr.sub ⟨rfl, rfl, rfl, trivial⟩, S3⟩
  rw [List.map_append, hss, ← eln]
  exact (List.replicate_succ' (n := ss.length)).symm
def wrE (n : Nat) (x : Int) (l : List Int) : Int := if x < 0 ∨ x ≥ (n : Int) ∨ 64 < l.length then 1 else 0
def padL (l : List Int) : List Int := l ++ List.replicate (64 - l.length) 0
def wrM (D : DM) (x : Int) (l : List Int) : DM := if x < 0 ∨ x ≥ (D.1.length : Int) ∨ 64 < l.length then D else (D.1, D.2 ++ [(x, padL l)])
theorem fill_set (l : List Int) {i : Nat} (hi : i < l.length) (hl : l.length ≤ 64) : (l.take i ++ List.replicate (64 - i) (0 : Int)).set i (l.getD i 0) = l.take (i + 1) ++ List.replicate (64 - (i + 1)) 0 := by
  have e1 : (l.take i).length = i := by rw [List.length_take]; omega
  have e2 : l.getD i 0 = l[i] := by rw [List.getD_eq_getElem?_getD, List.getElem?_eq_getElem hi]; rfl
  rw [List.set_append_right _ _ (by omega), e1, Nat.sub_self, show 64 - i = (64 - (i + 1)) + 1 by omega, List.replicate_succ, List.set_cons_zero, e2, List.take_succ_eq_append_getElem hi, List.append_assoc]
  rfl
set_option maxRecDepth 100000 in
set_option maxHeartbeats 1000000 in
theorem dd_write {x : Int} {A : Option Addr} {c : Nat} {l : List Int} (hx : (Lit.int .i64 x).wf = true) (hl : l.length ≤ c ∧ c ≤ maxLen) (hr : ∀ w', Sat w0 w' R → Rk .u8 w' A l) (hb : D.2.length ≤ 1000000) (S : Sat w0 w (ddkA b D :: R)) :
    Calls Tryz.prog 13 #[.pointer (some ⟨b, 0, none⟩), .int .i64 x, .slice A l.length c] w fun e w' => e = .returned (.int .i64 (wrE D.1.length x l)) ∧ vok (.int .i64 (wrE D.1.length x l)) = true ∧ Sat w0 w' (ddkA b (wrM D x l) :: R) := by
  obtain ⟨As, cs, ss, Aw, cw, ws, hp, S⟩ := S.ofDd
  have hl1 : D.1.length = ss.length := by rw [← hp.1, List.length_map]
  have hl2 : D.2.length = ws.length := by rw [← hp.2, List.length_map]
  refine calls_start (N := 51) [.pointer (some ⟨b, 0, none⟩), .int .i64 x, .slice A l.length c] Tryz.func13 rfl rfl rfl (vok_c rfl (vok_c hx (vok_c (vok_sl hl) rfl))) fun a fr => ?_
  skip; (repeat (with_reducible refine wp_seq ?_)); refine wp_region_lit ?_
  refine wl_run orcDq_ok 1 rfl fr fun a fr => ?_
  refine wpList_nil ?_; (repeat (with_reducible refine then_n ?_))
  have bad : ∀ {a : Act} {w1 : World} {L : Env}, FrD [] 51 a L → L.lookup 6 = some (.int .i64 1) → (x < 0 ∨ x ≥ (D.1.length : Int) ∨ 64 < l.length) → Sat w0 w1 (stA 145 b [.slice As ss.length cs, .slice Aw ws.length cw] :: rvA 45 1 As cs ss.length (ss.flatMap secV) :: rvA 152 2 Aw cw ws.length (ws.flatMap waitV) :: (rows (ss ++ ws.map (·.2)) ++ R)) → bodyPost Tryz.prog Tryz.f13 (fun e w' => e = .returned (.int .i64 (wrE D.1.length x l)) ∧ vok (.int .i64 (wrE D.1.length x l)) = true ∧ Sat w0 w' (ddkA b (wrM D x l) :: R)) .ret a w1 := by
    intro a w1 L fr hlk hbad S
    have e1 : wrE D.1.length x l = 1 := by unfold wrE; rw [if_pos hbad]
    have e2 : wrM D x l = D := by unfold wrM; rw [if_pos hbad]
    rw [e1, e2]
    exact ret1 fr rfl hlk ⟨rfl, rfl, S.toDd hp⟩
  skip; (repeat (with_reducible refine wp_seq ?_)); refine wp_region_lit ?_
  refine wl_run orcDq_ok 3 rfl fr fun a fr => ?_
  by_cases h0 : x < 0
  · have fr := fr.bool (d := 11) rfl (decide_eq_true h0)
    refine wl_run orcDq_ok 13 rfl fr fun a fr => ?_
    refine wpList_nil ?_; (repeat (with_reducible refine then_n ?_))
    skip; (repeat (with_reducible refine wp_seq ?_))
    refine cw_t fr rfl ?_
    skip; (repeat (with_reducible refine wp_seq ?_)); refine wp_region_lit ?_
    refine wl_run orcDq_ok 1 rfl fr fun a fr => ?_
    refine wpList_nil ?_; (repeat (with_reducible refine then_n ?_))
    refine wp_ret ?_
    skip; (repeat (first | (with_reducible refine then_r ?_) | (with_reducible refine blk_r ?_) | (with_reducible refine ng_r ?_)))
    exact bad fr rfl (.inl h0) S
  have fr := fr.bool (d := 11) rfl (decide_eq_false h0)
  refine wl_run orcDq_ok 4 rfl fr fun a fr => ?_
  refine wl_ldf orcDq_ok (Sat.stAt S 0 rfl (j := 0) rfl) fr rfl rfl rfl rfl rfl rfl rfl fun a fr => ?_
  refine wl_run orcDq_ok 2 rfl fr fun a fr => ?_
  by_cases h1 : x ≥ (ss.length : Int)
  · have fr := fr.bool (d := 18) rfl (decide_eq_true h1)
    refine wl_run orcDq_ok 6 rfl fr fun a fr => ?_
    refine wpList_nil ?_; (repeat (with_reducible refine then_n ?_))
    skip; (repeat (with_reducible refine wp_seq ?_))
    refine cw_t fr rfl ?_
    skip; (repeat (with_reducible refine wp_seq ?_)); refine wp_region_lit ?_
    refine wl_run orcDq_ok 1 rfl fr fun a fr => ?_
    refine wpList_nil ?_; (repeat (with_reducible refine then_n ?_))
    refine wp_ret ?_
    skip; (repeat (first | (with_reducible refine then_r ?_) | (with_reducible refine blk_r ?_) | (with_reducible refine ng_r ?_)))
    exact bad fr rfl (.inr (.inl (by omega))) S
  have fr := fr.bool (d := 18) rfl (decide_eq_false h1)
  refine wl_run orcDq_ok 5 rfl fr fun a fr => ?_
  by_cases h2 : 64 < l.length
  · have fr := fr.bool (d := 23) rfl (decide_eq_true (show (l.length : Int) > 64 by omega))
    refine wl_run orcDq_ok 1 rfl fr fun a fr => ?_
    refine wpList_nil ?_; (repeat (with_reducible refine then_n ?_))
    skip; (repeat (with_reducible refine wp_seq ?_))
    refine cw_t fr rfl ?_
    skip; (repeat (with_reducible refine wp_seq ?_)); refine wp_region_lit ?_
    refine wl_run orcDq_ok 1 rfl fr fun a fr => ?_
    refine wpList_nil ?_; (repeat (with_reducible refine then_n ?_))
    refine wp_ret ?_
    skip; (repeat (first | (with_reducible refine then_r ?_) | (with_reducible refine blk_r ?_) | (with_reducible refine ng_r ?_)))
    exact bad fr rfl (.inr (.inr h2)) S
  have fr := fr.bool (d := 23) rfl (decide_eq_false (show ¬ (l.length : Int) > 64 by omega))
  refine wl_run orcDq_ok 1 rfl fr fun a fr => ?_
  refine wpList_nil ?_; (repeat (with_reducible refine then_n ?_))
  clear bad
  have hgood : ¬ (x < 0 ∨ x ≥ (D.1.length : Int) ∨ 64 < l.length) := by omega
  have e1 : wrE D.1.length x l = 0 := by unfold wrE; rw [if_neg hgood]
  have e2 : wrM D x l = (D.1, D.2 ++ [(x, padL l)]) := by unfold wrM; rw [if_neg hgood]
  rw [e1, e2]
  skip; (repeat (with_reducible refine wp_seq ?_))
  refine cw_f fr rfl ?_
  refine wp_skip ?_
  (with_reducible refine then_n ?_)
  skip; (repeat (with_reducible refine wp_seq ?_)); refine wp_region_lit ?_
  refine wl_make rowDq fr rfl rfl rfl rfl rfl rfl (by decide) S ?_
  intro w A3 c3 S a fr
  have fr := fr.spell (d := 25) rfl (show Value.slice A3 (List.replicate (64 : Int).toNat (0 : Int)).length c3 = Value.slice A3 64 c3 from rfl)
  refine wl_run orcDq_ok 1 rfl fr fun a fr => ?_
  refine wpList_nil ?_; (repeat (with_reducible refine then_n ?_))
  have S := S.toRow
  have S : Sat w0 w (rowA .u8 5 A3 c3 64 (l.take 0 ++ List.replicate (64 - 0) 0) :: stA 145 b [.slice As ss.length cs, .slice Aw ws.length cw] :: rvA 45 1 As cs ss.length (ss.flatMap secV) :: rvA 152 2 Aw cw ws.length (ws.flatMap waitV) :: (rows (ss ++ ws.map (·.2)) ++ R)) := S
  skip; (repeat (with_reducible refine wp_seq ?_)); refine wp_region_lit ?_
  refine wl_run orcDq_ok 1 rfl fr fun a fr => ?_
  refine wpList_nil ?_; (repeat (with_reducible refine then_n ?_))
  skip; (repeat (with_reducible refine wp_seq ?_))
  refine wp_block ?_
  refine cw_loop (fun q a w1 => ∃ i : Nat, i + q = l.length + 1 ∧ i ≤ l.length ∧ Fr 51 a [(0, .pointer (some ⟨b, 0, none⟩)), (1, .int .i64 x), (2, .slice A l.length c), (7, .slice A3 64 c3), (8, .int .i64 (i : Int))] ∧ Sat w0 w1 (rowA .u8 5 A3 c3 64 (l.take i ++ List.replicate (64 - i) 0) :: stA 145 b [.slice As ss.length cs, .slice Aw ws.length cw] :: rvA 45 1 As cs ss.length (ss.flatMap secV) :: rvA 152 2 Aw cw ws.length (ws.flatMap waitV) :: (rows (ss ++ ws.map (·.2)) ++ R))) (l.length + 1)
    ⟨0, by omega, by omega, fr.sub ⟨rfl, rfl, rfl, rfl, rfl, trivial⟩, S⟩ ?_ ?_
  · rintro a w1 ⟨i, h, h', -⟩
    omega
  clear fr S
  rintro q a w1 ⟨i, hi, hi', fr, S⟩
  skip; (repeat (with_reducible refine wp_seq ?_)); refine wp_region_lit ?_
  refine wl_run orcDq_ok 4 rfl fr fun a fr => ?_
  refine wpList_nil ?_; (repeat (with_reducible refine then_n ?_))
  by_cases hlt : i < l.length
  rotate_left
  · have fr := fr.bool (d := 29) rfl (decide_eq_false (show ¬ (i : Int) < (l.length : Int) by omega))
    skip; (repeat (with_reducible refine wp_seq ?_))
    refine cw_f fr rfl ?_
    refine wp_exit ?_
    skip; (repeat (first | (with_reducible refine then_e ?_) | (with_reducible refine ng_e ?_) | (with_reducible refine blk_e (by decide) ?_))); (with_reducible refine blk_y ?_); (repeat (with_reducible refine then_n ?_))
    have ew : l.take i ++ List.replicate (64 - i) 0 = padL l := by
      unfold padL
      rw [List.take_of_length_le (by omega), show i = l.length by omega]
    rw [ew] at S
    obtain ⟨hpl, S⟩ := S.ofRow
    generalize padL l = W at *
    obtain ⟨hrk, hm3⟩ := S.own
    have fr := fr.spell (d := 7) rfl (show Value.slice A3 64 c3 = Value.slice A3 W.length c3 by rw [hpl])
    skip; (repeat (with_reducible refine wp_seq ?_)); refine wp_region_lit ?_
    refine wl_run orcDq_ok 4 rfl fr fun a fr => ?_
    refine wl_ldf orcDq_ok (Sat.stAt S 1 rfl (j := 1) rfl) fr rfl rfl rfl rfl rfl rfl rfl fun a fr => ?_
    refine wl_run orcDq_ok 2 rfl fr fun a fr => ?_
    refine wl_build (cs := [.int .i64 x, .slice A3 W.length c3]) (L2 := [(0, .int .i64 x), (1, .slice A3 W.length c3)]) fr rfl rfl rfl rfl (by
      have e1 := (fr.ev (o := .tmp 44) rfl).1
      have e2 := (fr.ev (o := .tmp 45) rfl).1
      simp [e1, e2]) (by kernel_rfl) (vok_agg fun v hv => by
      simp only [List.mem_cons, List.not_mem_nil, or_false] at hv
      rcases hv with rfl | rfl
      · exact hx
      · exact vok_sl (A := A3) hm3) fun a fr => ?_
    refine wl_lit1 (cs := waitV (x, (A3, c3, W))) Tryz.underlying143 infoDw' rfl fr rfl rfl rfl rfl rfl rfl (by
      simp only [waitV, List.all_cons, List.all_nil, Bool.and_true, Bool.and_eq_true]
      exact ⟨hx, vok_sl (A := A3) hm3⟩) S ?_
    intro w4 A4 c4 S a fr
    have S := (S.frontAt 4 rfl).frontAt 1 rfl
    refine wl_rvapp Tryz.underlying143 infoDw rfl rfl fr rfl rfl rfl rfl rfl rfl rfl (by omega) S ?_
    intro w5 A5 c5 S a fr
    refine wl_run orcDq_ok 2 rfl fr fun a fr => ?_
    have S := S.frontAt 2 rfl
    refine wl_stf (j := 1) orcDq_ok fr rfl rfl rfl rfl rfl rfl rfl rfl S rfl ?_
    intro w6 S
    refine wpList_nil ?_; (repeat (with_reducible refine then_n ?_))
    skip; (repeat (with_reducible refine wp_seq ?_)); refine wp_region_lit ?_
    refine wl_run orcDq_ok 1 rfl fr fun a fr => ?_
    refine wpList_nil ?_; (repeat (with_reducible refine then_n ?_))
    refine wp_ret ?_
    skip; (repeat (first | (with_reducible refine then_r ?_) | (with_reducible refine blk_r ?_) | (with_reducible refine ng_r ?_)))
    refine ret1 fr rfl rfl ?_
    refine ⟨rfl, rfl, ?_⟩
    have S2 : Sat w0 w6 (stA 145 b [.slice As ss.length cs, .slice A5 (ws.length + 1) c5] :: rvA 45 1 As cs ss.length (ss.flatMap secV) :: rvA 152 2 A5 c5 (ws.length + 1) (ws.flatMap waitV ++ waitV (x, (A3, c3, W))) :: ownA .u8 5 A3 c3 W :: (rows (ss ++ ws.map (·.2)) ++ R)) := (S.frontAt 3 rfl).frontAt 1 rfl
    have eln : ws.length + 1 = (ws ++ [((x, (A3, c3, W)) : Int × Rw)]).length := by rw [List.length_append]; rfl
    have S3 := S2.perm (List.Perm.append_left [_, _, _] (rows_snoc (r := (A3, c3, W))))
    rw [← el_snoc, eln, List.append_assoc] at S3
    have em : ws.map (·.2) ++ [((A3, c3, W) : Rw)] = (ws ++ [((x, (A3, c3, W)) : Int × Rw)]).map (·.2) := by rw [List.map_append]; rfl
    rw [em] at S3
    refine Sat.toDd (Aw := A5) (cw := c5) (ws := ws ++ [((x, (A3, c3, W)) : Int × Rw)]) (D := (D.1, D.2 ++ [(x, W)])) ⟨hp.1, ?_⟩ S3
    show (ws ++ [((x, (A3, c3, W)) : Int × Rw)]).map (fun q => (q.1, q.2.2.2)) = D.2 ++ [(x, W)]
    rw [List.map_append, show ws.map (fun q => (q.1, q.2.2.2)) = D.2 from hp.2]
    rfl
  have fr := fr.bool (d := 29) rfl (decide_eq_true (show (i : Int) < (l.length : Int) by omega))
  have hw64 : (l.take i ++ List.replicate (64 - i) (0 : Int)).length = 64 := by rw [List.length_append, List.length_take, List.length_replicate]; omega
  have hrl : Rk .u8 w1 A l := hr _ (Sat.lasts (rowA .u8 5 A3 c3 64 (l.take i ++ List.replicate (64 - i) 0) :: stA 145 b [.slice As ss.length cs, .slice Aw ws.length cw] :: rvA 45 1 As cs ss.length (ss.flatMap secV) :: rvA 152 2 Aw cw ws.length (ws.flatMap waitV) :: rows (ss ++ ws.map (·.2))) S)
  skip; (repeat (with_reducible refine wp_seq ?_))
  refine cw_t fr rfl ?_
  refine wp_skip ?_
  (with_reducible refine then_n ?_)
  skip; (repeat (with_reducible refine wp_seq ?_))
  refine wp_block ?_
  skip; (repeat (with_reducible refine wp_seq ?_)); refine wp_region_lit ?_
  refine wl_run orcDq_ok 4 rfl fr fun a fr => ?_
  refine wl_ld orcDq_ok hrl fr rfl rfl rfl rfl rfl rfl rfl rfl rfl rfl rfl rfl rfl rfl rfl rfl ⟨by omega, by omega⟩ fun a fr => ?_
  refine wl_pe orcDq_ok (Sat.rowAt S 0 rfl) fr rfl rfl rfl rfl rfl rfl rfl rfl hw64.symm ⟨by omega, by rw [hw64]; omega⟩ fun a fr => ?_
  refine wl_str orcDq_ok fr rfl rfl rfl rfl rfl rfl S ⟨by omega, by omega⟩ ?_
  intro w2 S
  rw [Int.toNat_natCast, fill_set l hlt (by omega)] at S
  refine wpList_nil ?_; (repeat (with_reducible refine then_n ?_))
  (repeat (first | (with_reducible refine then_n ?_) | (with_reducible refine blk_n ?_) | (with_reducible refine ng_n ?_)))
  skip; (repeat (with_reducible refine wp_seq ?_)); refine wp_region_lit ?_
  refine wl_run orcDq_ok 3 rfl fr fun a fr => ?_
  refine wpList_nil ?_; (repeat (with_reducible refine then_n ?_))
  have fr := fr.spell (d := 8) rfl (congrArg (Value.int .i64) (i64_next hlt (by omega)))
  exact ⟨i + 1, by omega, by omega, fr.sub ⟨rfl, rfl, rfl, rfl, rfl, trivial⟩, S⟩
def seenM (D : DM) (x : Nat) : List Int := match D.2.reverse.find? (fun p => p.1 == (x : Int)) with | some p => p.2 | none => D.1.getD x []
theorem seen_none {D : DM} {x : Nat} (h : ∀ j (hj : j < D.2.length), D.2[j].1 ≠ (x : Int)) : seenM D x = D.1.getD x [] := by
  unfold seenM
  have e : D.2.reverse.find? (fun p => p.1 == (x : Int)) = none := by
    rw [List.find?_eq_none]
    intro p hp
    obtain ⟨j, hj, rfl⟩ := List.getElem_of_mem (List.mem_reverse.1 hp)
    simpa using h j hj
  rw [e]
theorem seen_some {D : DM} {x i : Nat} (hi : i < D.2.length) (h : D.2[i].1 = (x : Int)) (hb : ∀ j (hj : j < D.2.length), i < j → D.2[j].1 ≠ (x : Int)) : seenM D x = D.2[i].2 := by
  unfold seenM
  have e : D.2.reverse.find? (fun p => p.1 == (x : Int)) = some D.2[i] := by
    rw [List.find?_eq_some_iff_getElem]
    refine ⟨by simpa using h, D.2.length - 1 - i, by rw [List.length_reverse]; omega, ?_, fun j hj => ?_⟩
    · rw [List.getElem_reverse]
      congr 1
      omega
    · rw [List.getElem_reverse]
      have := hb (D.2.length - 1 - j) (by omega) (by omega)
      simpa using this
  rw [e]
set_option maxRecDepth 100000 in
theorem dd_read_no {x : Int} (hx : (Lit.int .i64 x).wf = true) (h : ¬ (0 ≤ x ∧ x < (D.1.length : Int))) (S : Sat w0 w (ddkA b D :: R)) :
    Calls Tryz.prog 17 #[.pointer (some ⟨b, 0, none⟩), .int .i64 x] w fun e w' => e = .returned (.tuple #[.slice none 0 0, .int .i64 1]) ∧ Sat w0 w' (ddkA b D :: R) := by
  obtain ⟨As, cs, ss, Aw, cw, ws, hp, S⟩ := S.ofDd
  have hl1 : D.1.length = ss.length := by rw [← hp.1, List.length_map]
  refine calls_start (N := 55) [.pointer (some ⟨b, 0, none⟩), .int .i64 x] Tryz.func17 rfl rfl rfl (vok_c rfl (vok_c hx rfl)) fun a fr => ?_
  skip; (repeat (with_reducible refine wp_seq ?_)); refine wp_region_lit ?_
  refine wl_run orcDq_ok 2 rfl fr fun a fr => ?_
  refine wpList_nil ?_; (repeat (with_reducible refine then_n ?_))
  skip; (repeat (with_reducible refine wp_seq ?_)); refine wp_region_lit ?_
  refine wl_run orcDq_ok 3 rfl fr fun a fr => ?_
  by_cases h0 : x < 0
  · have fr := fr.bool (d := 9) rfl (decide_eq_true h0)
    refine wl_run orcDq_ok 8 rfl fr fun a fr => ?_
    refine wpList_nil ?_; (repeat (with_reducible refine then_n ?_))
    skip; (repeat (with_reducible refine wp_seq ?_))
    refine cw_t fr rfl ?_
    skip; (repeat (with_reducible refine wp_seq ?_)); refine wp_region_lit ?_
    refine wl_run orcDq_ok 2 rfl fr fun a fr => ?_
    refine wpList_nil ?_; (repeat (with_reducible refine then_n ?_))
    refine wp_ret ?_
    skip; (repeat (first | (with_reducible refine then_r ?_) | (with_reducible refine blk_r ?_) | (with_reducible refine ng_r ?_)))
    refine ret2 fr rfl rfl rfl ?_
    exact ⟨rfl, S.toDd hp⟩
  have fr := fr.bool (d := 9) rfl (decide_eq_false h0)
  refine wl_run orcDq_ok 4 rfl fr fun a fr => ?_
  refine wl_ldf orcDq_ok (Sat.stAt S 0 rfl (j := 0) rfl) fr rfl rfl rfl rfl rfl rfl rfl fun a fr => ?_
  refine wl_run orcDq_ok 2 rfl fr fun a fr => ?_
  have fr := fr.bool (d := 16) rfl (decide_eq_true (show x ≥ (ss.length : Int) by omega))
  refine wl_run orcDq_ok 1 rfl fr fun a fr => ?_
  refine wpList_nil ?_; (repeat (with_reducible refine then_n ?_))
  skip; (repeat (with_reducible refine wp_seq ?_))
  refine cw_t fr rfl ?_
  skip; (repeat (with_reducible refine wp_seq ?_)); refine wp_region_lit ?_
  refine wl_run orcDq_ok 2 rfl fr fun a fr => ?_
  refine wpList_nil ?_; (repeat (with_reducible refine then_n ?_))
  refine wp_ret ?_
  skip; (repeat (first | (with_reducible refine then_r ?_) | (with_reducible refine blk_r ?_) | (with_reducible refine ng_r ?_)))
  refine ret2 fr rfl rfl rfl ?_
  exact ⟨rfl, S.toDd hp⟩
theorem vok_slint {A : Option Addr} {n c : Nat} {z : Int} (h : n ≤ c ∧ c ≤ maxLen) (hz : (Lit.int .i64 z).wf = true) : vok (.tuple #[.slice A n c, .int .i64 z]) = true := by
  have h5 : vokC (.slice A n c) = true := vok_sl (A := A) h
  have h6 : vokC (.int .i64 z) = true := hz
  show [_, _].all vokC = true
  rw [List.all_cons, List.all_cons, h5, h6]; rfl
set_option maxRecDepth 100000 in
set_option maxHeartbeats 1000000 in
theorem dd_read {x : Int} (hx : 0 ≤ x ∧ x < (D.1.length : Int)) (hb : D.2.length ≤ 1000000 ∧ D.1.length ≤ 1000000 ∧ (seenM D x.toNat).length ≤ 1000000) (S : Sat w0 w (ddkA b D :: R)) :
    Calls Tryz.prog 17 #[.pointer (some ⟨b, 0, none⟩), .int .i64 x] w fun e w' => ∃ A c, e = .returned (.tuple #[.slice A (seenM D x.toNat).length c, .int .i64 0]) ∧ vok (.tuple #[.slice A (seenM D x.toNat).length c, .int .i64 0]) = true ∧ Sat w0 w' (ownA .u8 5 A c (seenM D x.toNat) :: ddkA b D :: R) := by
  obtain ⟨k, rfl⟩ : ∃ k : Nat, x = k := ⟨x.toNat, by omega⟩
  rw [Int.toNat_natCast] at hb ⊢
  obtain ⟨As, cs, ss, Aw, cw, ws, hp, S⟩ := S.ofDd
  have hl1 : D.1.length = ss.length := by rw [← hp.1, List.length_map]
  have hl2 : D.2.length = ws.length := by rw [← hp.2, List.length_map]
  have hD2 : ∀ j (hj : j < ws.length) (hj' : j < D.2.length), D.2[j] = (ws[j].1, ws[j].2.2.2) := fun j hj hj' => by
    have : D.2[j]? = some (ws[j].1, ws[j].2.2.2) := by rw [← hp.2]; simp [hj]
    rw [List.getElem?_eq_getElem hj'] at this
    injection this
  have hD1 : ∀ j (hj : j < ss.length), D.1.getD j [] = ss[j].2.2 := fun j hj => by
    rw [← hp.1, List.getD_eq_getElem?_getD]; simp [hj]
  have hkw : (Lit.int .i64 (k : Int)).wf = true := i64_wf (by omega) (by omega)
  refine calls_start (N := 55) [.pointer (some ⟨b, 0, none⟩), .int .i64 (k : Int)] Tryz.func17 rfl rfl rfl (vok_c rfl (vok_c hkw rfl)) fun a fr => ?_
  skip; (repeat (with_reducible refine wp_seq ?_)); refine wp_region_lit ?_
  refine wl_run orcDq_ok 2 rfl fr fun a fr => ?_
  refine wpList_nil ?_; (repeat (with_reducible refine then_n ?_))
  skip; (repeat (with_reducible refine wp_seq ?_)); refine wp_region_lit ?_
  refine wl_run orcDq_ok 3 rfl fr fun a fr => ?_
  have fr := fr.bool (d := 9) rfl (decide_eq_false (show ¬ (k : Int) < 0 by omega))
  refine wl_run orcDq_ok 4 rfl fr fun a fr => ?_
  refine wl_ldf orcDq_ok (Sat.stAt S 0 rfl (j := 0) rfl) fr rfl rfl rfl rfl rfl rfl rfl fun a fr => ?_
  refine wl_run orcDq_ok 2 rfl fr fun a fr => ?_
  have fr := fr.bool (d := 16) rfl (decide_eq_false (show ¬ (k : Int) ≥ (ss.length : Int) by omega))
  refine wl_run orcDq_ok 1 rfl fr fun a fr => ?_
  refine wpList_nil ?_; (repeat (with_reducible refine then_n ?_))
  skip; (repeat (with_reducible refine wp_seq ?_))
  refine cw_f fr rfl ?_
  refine wp_skip ?_
  (with_reducible refine then_n ?_)
  skip; (repeat (with_reducible refine wp_seq ?_)); refine wp_region_lit ?_
  refine wl_run orcDq_ok 3 rfl fr fun a fr => ?_
  refine wl_ldf orcDq_ok (Sat.stAt S 0 rfl (j := 1) rfl) fr rfl rfl rfl rfl rfl rfl rfl fun a fr => ?_
  refine wl_run orcDq_ok 3 rfl fr fun a fr => ?_
  refine wpList_nil ?_; (repeat (with_reducible refine then_n ?_))
  have fr := fr.spell (d := 6) rfl (congrArg (Value.int .i64) (show IntKind.wrap .i64 ((ws.length : Int) - 1) = (ws.length : Int) - 1 from IntWalk.i64_in _ ⟨by omega, by omega⟩))
  skip; (repeat (with_reducible refine wp_seq ?_))
  refine wp_block ?_
  refine cw_loop (fun q a w1 => ∃ j : Nat, q = j + 1 ∧ j ≤ ws.length ∧ (∀ i (hi : i < ws.length), j ≤ i → ws[i].1 ≠ (k : Int)) ∧ Fr 55 a [(0, .pointer (some ⟨b, 0, none⟩)), (1, .int .i64 (k : Int)), (6, .int .i64 ((j : Int) - 1))] ∧ Sat w0 w1 (stA 145 b [.slice As ss.length cs, .slice Aw ws.length cw] :: rvA 45 1 As cs ss.length (ss.flatMap secV) :: rvA 152 2 Aw cw ws.length (ws.flatMap waitV) :: (rows (ss ++ ws.map (·.2)) ++ R))) (ws.length + 1)
    ⟨ws.length, rfl, Nat.le_refl _, fun i hi h => by omega, fr.sub ⟨rfl, rfl, rfl, trivial⟩, S⟩ ?_ ?_
  · rintro a w1 ⟨j, h, -⟩
    omega
  clear fr S
  rintro q a w1 ⟨j, hq, hj', hno, fr, S⟩
  skip; (repeat (with_reducible refine wp_seq ?_)); refine wp_region_lit ?_
  refine wl_run orcDq_ok 2 rfl fr fun a fr => ?_
  refine wpList_nil ?_; (repeat (with_reducible refine then_n ?_))
  cases j with
  | zero =>
    have fr := fr.bool (d := 25) rfl (show decide (((0 : Nat) : Int) - 1 ≥ 0) = false by decide)
    skip; (repeat (with_reducible refine wp_seq ?_))
    refine cw_f fr rfl ?_
    refine wp_exit ?_
    skip; (repeat (first | (with_reducible refine then_e ?_) | (with_reducible refine ng_e ?_) | (with_reducible refine blk_e (by decide) ?_))); (with_reducible refine blk_y ?_); (repeat (with_reducible refine then_n ?_))
    have hk : k < ss.length := by omega
    obtain ⟨⟨g, hA, hrg⟩, hv⟩ := el_wf secV_len S 1 rfl hk
    obtain ⟨hrk, hm⟩ := row_at [_, _, _] S (j := k) (by rw [List.length_append]; omega)
    have er : (ss ++ ws.map (·.2))[k]'(by rw [List.length_append]; omega) = ss[k] := List.getElem_append_left hk
    rw [er] at hrk hm
    have es : seenM D k = ss[k].2.2 := by
      rw [seen_none (fun j hj => by rw [hD2 j (by omega) hj]; exact hno j (by omega) (Nat.zero_le _)), hD1 k hk]
    rw [es] at hb ⊢
    skip; (repeat (with_reducible refine wp_seq ?_)); refine wp_region_lit ?_
    refine wl_run orcDq_ok 3 rfl fr fun a fr => ?_
    refine wl_ldf orcDq_ok (Sat.stAt S 0 rfl (j := 0) rfl) fr rfl rfl rfl rfl rfl rfl rfl fun a fr => ?_
    have fr := fr.spell (d := 50) rfl (congrArg (fun z => Value.slice z ss.length cs) hA)
    refine wl_run orcDq_ok 1 rfl fr fun a fr => ?_
    refine wl_val fr rfl rfl rfl (indexAddr_run orcDq_ok fr rfl rfl rfl rfl rfl (Int.natCast_nonneg _) (show (k : Int) < ((ss.length : Nat) : Int) by omega) _) rfl fun a fr => ?_
    refine wl_ldf orcDq_ok (v := rwV ss[k]) ⟨by have := elem_cell (j := 0) hrg rfl; exact this, hv _ (List.mem_singleton.2 rfl)⟩ fr rfl rfl rfl rfl rfl rfl rfl fun a fr => ?_
    have S : Sat w0 w1 (ownA .u8 5 none 0 [] :: stA 145 b [.slice As ss.length cs, .slice Aw ws.length cw] :: rvA 45 1 As cs ss.length (ss.flatMap secV) :: rvA 152 2 Aw cw ws.length (ws.flatMap waitV) :: (rows (ss ++ ws.map (·.2)) ++ R)) := S.nilRow .u8 5
    refine wl_app rowDq (l := []) (news := ss[k].2.2) fr rfl rfl rfl rfl rfl rfl rfl rfl hrk (by simp only [List.length_nil]; omega) S ?_
    intro w2 A2 c2 S a fr
    refine wl_run orcDq_ok 2 rfl fr fun a fr => ?_
    refine wpList_nil ?_; (repeat (with_reducible refine then_n ?_))
    refine wp_ret ?_
    skip; (repeat (first | (with_reducible refine then_r ?_) | (with_reducible refine blk_r ?_) | (with_reducible refine ng_r ?_)))
    refine ret2 fr rfl rfl rfl ?_
    rw [List.nil_append] at S ⊢
    have hm2 := S.own.2
    exact ⟨A2, c2, rfl, vok_slint hm2 rfl, Sat.toDd2 hp S⟩
  | succ i =>
    have fr := fr.spell (d := 6) rfl (show Value.int .i64 (((i + 1 : Nat) : Int) - 1) = .int .i64 (i : Int) by congr 1; omega)
    have fr := fr.bool (d := 25) rfl (show decide (((i + 1 : Nat) : Int) - 1 ≥ 0) = true from decide_eq_true (by omega))
    have hlt : i < ws.length := hj'
    obtain ⟨⟨g, hA, hrg⟩, hv⟩ := el_wf waitV_len S 2 rfl hlt
    skip; (repeat (with_reducible refine wp_seq ?_))
    refine cw_t fr rfl ?_
    refine wp_skip ?_
    (with_reducible refine then_n ?_)
    skip; (repeat (with_reducible refine wp_seq ?_))
    refine wp_block ?_
    skip; (repeat (with_reducible refine wp_seq ?_)); refine wp_region_lit ?_
    refine wl_run orcDq_ok 3 rfl fr fun a fr => ?_
    refine wl_ldf orcDq_ok (Sat.stAt S 0 rfl (j := 1) rfl) fr rfl rfl rfl rfl rfl rfl rfl fun a fr => ?_
    have fr := fr.spell (d := 31) rfl (congrArg (fun z => Value.slice z ws.length cw) hA)
    refine wl_run orcDq_ok 1 rfl fr fun a fr => ?_
    refine wl_val fr rfl rfl rfl (indexAddr_run orcDq_ok fr rfl rfl rfl rfl rfl (Int.natCast_nonneg _) (show (i : Int) < ((ws.length : Nat) : Int) by omega) _) rfl fun a fr => ?_
    refine wl_run orcDq_ok 1 rfl fr fun a fr => ?_
    refine wl_ldf orcDq_ok (v := .int .i64 ws[i].1) ⟨elem_cell (j := 0) hrg rfl, hv _ List.mem_cons_self⟩ fr rfl rfl rfl rfl rfl rfl rfl fun a fr => ?_
    refine wl_run orcDq_ok 2 rfl fr fun a fr => ?_
    refine wpList_nil ?_; (repeat (with_reducible refine then_n ?_))
    by_cases he : ws[i].1 = (k : Int)
    · have fr := fr.bool (d := 37) rfl (show (ws[i].1 == (k : Int)) = true by simp [he])
      obtain ⟨hrk, hm⟩ := row_at [_, _, _] S (j := ss.length + i) (by rw [List.length_append, List.length_map]; omega)
      have er : (ss ++ ws.map (·.2))[ss.length + i]'(by rw [List.length_append, List.length_map]; omega) = ws[i].2 := by
        rw [List.getElem_append_right (Nat.le_add_right _ _)]
        simp
      rw [er] at hrk hm
      have es : seenM D k = ws[i].2.2.2 := by
        rw [seen_some (i := i) (by omega) (by rw [hD2 i hlt (by omega)]; exact he) (fun j hj h => by rw [hD2 j (by omega) hj]; exact hno j (by omega) h), hD2 i hlt (by omega)]
      rw [es] at hb ⊢
      skip; (repeat (with_reducible refine wp_seq ?_))
      refine cw_t fr rfl ?_
      skip; (repeat (with_reducible refine wp_seq ?_)); refine wp_region_lit ?_
      refine wl_run orcDq_ok 3 rfl fr fun a fr => ?_
      refine wl_ldf orcDq_ok (Sat.stAt S 0 rfl (j := 1) rfl) fr rfl rfl rfl rfl rfl rfl rfl fun a fr => ?_
      have fr := fr.spell (d := 41) rfl (congrArg (fun z => Value.slice z ws.length cw) hA)
      refine wl_run orcDq_ok 1 rfl fr fun a fr => ?_
      refine wl_val fr rfl rfl rfl (indexAddr_run orcDq_ok fr rfl rfl rfl rfl rfl (Int.natCast_nonneg _) (show (i : Int) < ((ws.length : Nat) : Int) by omega) _) rfl fun a fr => ?_
      refine wl_run orcDq_ok 1 rfl fr fun a fr => ?_
      refine wl_ldf orcDq_ok (v := rwV ws[i].2) ⟨elem_cell (j := 1) hrg rfl, hv _ (List.mem_cons_of_mem _ List.mem_cons_self)⟩ fr rfl rfl rfl rfl rfl rfl rfl fun a fr => ?_
      have S : Sat w0 w1 (ownA .u8 5 none 0 [] :: stA 145 b [.slice As ss.length cs, .slice Aw ws.length cw] :: rvA 45 1 As cs ss.length (ss.flatMap secV) :: rvA 152 2 Aw cw ws.length (ws.flatMap waitV) :: (rows (ss ++ ws.map (·.2)) ++ R)) := S.nilRow .u8 5
      refine wl_app rowDq (l := []) (news := ws[i].2.2.2) fr rfl rfl rfl rfl rfl rfl rfl rfl hrk (by simp only [List.length_nil]; omega) S ?_
      intro w2 A2 c2 S a fr
      refine wl_run orcDq_ok 2 rfl fr fun a fr => ?_
      refine wpList_nil ?_; (repeat (with_reducible refine then_n ?_))
      refine wp_ret ?_
      skip; (repeat (first | (with_reducible refine then_r ?_) | (with_reducible refine blk_r ?_) | (with_reducible refine ng_r ?_)))
      refine ret2 fr rfl rfl rfl ?_
      rw [List.nil_append] at S ⊢
      have hm2 := S.own.2
      exact ⟨A2, c2, rfl, vok_slint hm2 rfl, Sat.toDd2 hp S⟩
    · have fr := fr.bool (d := 37) rfl (show (ws[i].1 == (k : Int)) = false by simp [he])
      skip; (repeat (with_reducible refine wp_seq ?_))
      refine cw_f fr rfl ?_
      refine wp_skip ?_
      (repeat (first | (with_reducible refine then_n ?_) | (with_reducible refine blk_n ?_) | (with_reducible refine ng_n ?_)))
      skip; (repeat (with_reducible refine wp_seq ?_)); refine wp_region_lit ?_
      refine wl_run orcDq_ok 3 rfl fr fun a fr => ?_
      refine wpList_nil ?_; (repeat (with_reducible refine then_n ?_))
      have fr := fr.spell (d := 6) rfl (congrArg (Value.int .i64) (show IntKind.wrap .i64 ((i : Int) - 1) = (i : Int) - 1 from IntWalk.i64_in _ ⟨by omega, by omega⟩))
      refine ⟨i, by omega, by omega, fun j hj h => ?_, fr.sub ⟨rfl, rfl, rfl, trivial⟩, S⟩
      by_cases hji : j = i
      · subst hji; exact he
      · exact hno j hj (by omega)
def syncM (D : DM) : DM := (D.2.foldl (fun s p => s.set p.1.toNat p.2) D.1, [])
theorem el_rngA {α : Type} {f : α → List Value} {z e c : Nat} {A : Option Addr} (hf : ∀ x, (f x).length = z) {l : List α} {g : Nat} (hA : A = some ⟨g, 0, none⟩) (S : Sat w0 w M) (j : Nat) (hj : M[j]? = some (rvA e z A c l.length (l.flatMap f))) {i : Nat} (hi : i < l.length) : w.rangeAt g (i * z) (f l[i]) := by
  subst hA
  exact el_rng hf S j hj hi
theorem sec_splice (l : List Rw) {k : Nat} (hk : k < l.length) (r : Rw) : splice (l.flatMap secV) k [rwV r] = (l.set k r).flatMap secV := by
  have e : ∀ l : List Rw, l.flatMap secV = l.map rwV := fun l => by induction l with
    | nil => rfl
    | cons x l ih => rw [List.flatMap_cons, ih]; rfl
  rw [e, e]
  unfold splice
  rw [List.map_set, List.set_eq_take_append_cons_drop, if_pos (by simpa using hk)]
  simp
theorem rows_move (X : List Asn) {rs T : List Rw} {r : Rw} {k : Nat} (hk : k < rs.length) (S : Sat w0 w (X ++ (rows (rs ++ r :: T) ++ R))) : Sat w0 w (X ++ (rows (rs.set k r ++ T) ++ R)) := by
  obtain ⟨e1, -, e3⟩ := erase_parts rs hk r
  have hp : (rs ++ r :: T).Perm (rs[k] :: (rs.set k r ++ T)) := by
    rw [e3]
    generalize hT1 : rs.take k = T1 at *
    generalize hT2 : rs.drop (k + 1) = T2 at *
    generalize rs[k] = x at *
    rw [e1]
    have h1 : (T1 ++ x :: T2) ++ r :: T = T1 ++ x :: (T2 ++ r :: T) := by simp
    have h2 : (T1 ++ r :: T2) ++ T = T1 ++ r :: (T2 ++ T) := by simp
    rw [h1, h2]
    exact List.perm_middle.trans (List.Perm.cons _ (List.Perm.append_left _ List.perm_middle))
  have S := S.perm (List.Perm.append_left X (List.Perm.append_right R (hp.map fun (r : Rw) => ownA .u8 5 r.1 r.2.1 r.2.2)))
  have S : Sat w0 w (X ++ ownA .u8 5 rs[k].1 rs[k].2.1 rs[k].2.2 :: (rows (rs.set k r ++ T) ++ R)) := S
  exact (S.perm List.perm_middle).tl
set_option maxRecDepth 100000 in
set_option maxHeartbeats 1000000 in
theorem dd_sync (hw : ∀ p ∈ D.2, 0 ≤ p.1 ∧ p.1 < (D.1.length : Int)) (hb : D.2.length ≤ 1000000 ∧ D.1.length ≤ 1000000) (S : Sat w0 w (ddkA b D :: R)) :
    Calls Tryz.prog 14 #[.pointer (some ⟨b, 0, none⟩)] w fun e w' => e = .returned (.int .i64 0) ∧ Sat w0 w' (ddkA b (syncM D) :: R) := by
  obtain ⟨As, cs, ss, Aw, cw, ws, hp, S⟩ := S.ofDd
  have hl1 : D.1.length = ss.length := by rw [← hp.1, List.length_map]
  have hl2 : D.2.length = ws.length := by rw [← hp.2, List.length_map]
  have hws : ∀ i (hi : i < ws.length), 0 ≤ ws[i].1 ∧ ws[i].1 < (ss.length : Int) := fun i hi => by
    have : (ws[i].1, ws[i].2.2.2) ∈ D.2 := by rw [← hp.2]; exact List.mem_map.2 ⟨ws[i], List.getElem_mem hi, rfl⟩
    have := hw _ this
    rw [hl1] at this
    exact this
  refine calls_start (N := 37) [.pointer (some ⟨b, 0, none⟩)] Tryz.func14 rfl rfl rfl (vok_c rfl rfl) fun a fr => ?_
  skip; (repeat (with_reducible refine wp_seq ?_)); refine wp_region_lit ?_
  refine wl_run orcDq_ok 1 rfl fr fun a fr => ?_
  refine wpList_nil ?_; (repeat (with_reducible refine then_n ?_))
  skip; (repeat (with_reducible refine wp_seq ?_)); refine wp_region_lit ?_
  refine wl_run orcDq_ok 1 rfl fr fun a fr => ?_
  refine wpList_nil ?_; (repeat (with_reducible refine then_n ?_))
  have S : Sat w0 w (stA 145 b [.slice As ss.length cs, .slice Aw ws.length cw] :: rvA 152 2 Aw cw ws.length (ws.flatMap waitV) :: rvA 45 1 As cs ss.length (ss.flatMap secV) :: (rows (ss ++ (ws.drop 0).map (·.2)) ++ R)) := (S.frontAt 2 rfl).frontAt 1 rfl
  skip; (repeat (with_reducible refine wp_seq ?_))
  refine wp_block ?_
  refine cw_loop (fun q a w1 => ∃ (i : Nat) (rs : List Rw), i + q = ws.length + 1 ∧ i ≤ ws.length ∧ rs.length = ss.length ∧ rs.map (·.2.2) = (D.2.take i).foldl (fun s p => s.set p.1.toNat p.2) D.1 ∧ Fr 37 a [(0, .pointer (some ⟨b, 0, none⟩)), (3, .int .i64 (i : Int))] ∧ Sat w0 w1 (stA 145 b [.slice As ss.length cs, .slice Aw ws.length cw] :: rvA 152 2 Aw cw ws.length (ws.flatMap waitV) :: rvA 45 1 As cs rs.length (rs.flatMap secV) :: (rows (rs ++ (ws.drop i).map (·.2)) ++ R))) (ws.length + 1)
    ⟨0, ss, by omega, by omega, rfl, hp.1, fr.sub ⟨rfl, rfl, trivial⟩, S⟩ ?_ ?_
  · rintro a w1 ⟨i, rs, h, h', -⟩
    omega
  clear fr S
  rintro q a w1 ⟨i, rs, hi, hi', hrl, hrs, fr, S⟩
  skip; (repeat (with_reducible refine wp_seq ?_)); refine wp_region_lit ?_
  refine wl_run orcDq_ok 4 rfl fr fun a fr => ?_
  refine wl_ldf orcDq_ok (Sat.stAt S 0 rfl (j := 1) rfl) fr rfl rfl rfl rfl rfl rfl rfl fun a fr => ?_
  refine wl_run orcDq_ok 2 rfl fr fun a fr => ?_
  refine wpList_nil ?_; (repeat (with_reducible refine then_n ?_))
  by_cases hlt : i < ws.length
  rotate_left
  · have fr := fr.bool (d := 10) rfl (decide_eq_false (show ¬ (i : Int) < (ws.length : Int) by omega))
    have hie : D.2.take i = D.2 := List.take_of_length_le (by omega)
    rw [hie] at hrs
    rw [List.drop_of_length_le (by omega)] at S
    skip; (repeat (with_reducible refine wp_seq ?_))
    refine cw_f fr rfl ?_
    refine wp_exit ?_
    skip; (repeat (first | (with_reducible refine then_e ?_) | (with_reducible refine ng_e ?_) | (with_reducible refine blk_e (by decide) ?_))); (with_reducible refine blk_y ?_); (repeat (with_reducible refine then_n ?_))
    skip; (repeat (with_reducible refine wp_seq ?_)); refine wp_region_lit ?_
    refine wl_run orcDq_ok 3 rfl fr fun a fr => ?_
    refine wl_stf (j := 1) orcDq_ok fr rfl rfl rfl rfl rfl rfl rfl rfl S rfl ?_
    intro w2 S
    refine wpList_nil ?_; (repeat (with_reducible refine then_n ?_))
    skip; (repeat (with_reducible refine wp_seq ?_)); refine wp_region_lit ?_
    refine wl_run orcDq_ok 1 rfl fr fun a fr => ?_
    refine wpList_nil ?_; (repeat (with_reducible refine then_n ?_))
    refine wp_ret ?_
    skip; (repeat (first | (with_reducible refine then_r ?_) | (with_reducible refine blk_r ?_) | (with_reducible refine ng_r ?_)))
    refine ret1 fr rfl rfl ?_
    refine ⟨rfl, ?_⟩
    have S := (S.frontAt 1 rfl).tl
    have S := rv_nil 152 2 S
    rw [← hrl] at S
    have S2 : Sat w0 w2 (stA 145 b [.slice As rs.length cs, .slice none ([] : List (Int × Rw)).length 0] :: rvA 45 1 As cs rs.length (rs.flatMap secV) :: rvA 152 2 none 0 ([] : List (Int × Rw)).length (([] : List (Int × Rw)).flatMap waitV) :: (rows (rs ++ ([] : List (Int × Rw)).map (·.2)) ++ R)) := (S.frontAt 2 rfl).frontAt 2 rfl
    exact Sat.toDd (D := syncM D) ⟨hrs, rfl⟩ S2
  have fr := fr.bool (d := 10) rfl (decide_eq_true (show (i : Int) < (ws.length : Int) by omega))
  obtain ⟨hk0, hk1⟩ := hws i hlt
  obtain ⟨k, hk⟩ : ∃ k : Nat, ws[i].1 = k := ⟨ws[i].1.toNat, by omega⟩
  have hkl : k < rs.length := by omega
  obtain ⟨⟨g, hA, -⟩, hv⟩ := el_wf waitV_len S 1 rfl hlt
  obtain ⟨⟨gs, hAs, -⟩, -⟩ := el_wf secV_len S 2 rfl hkl
  skip; (repeat (with_reducible refine wp_seq ?_))
  refine cw_t fr rfl ?_
  refine wp_skip ?_
  (with_reducible refine then_n ?_)
  skip; (repeat (with_reducible refine wp_seq ?_))
  refine wp_block ?_
  skip; (repeat (with_reducible refine wp_seq ?_))
  refine wp_region_ph [] [20, 21] [] [] [.one (0, true, some 13), .one (1, true, some 14), .one (2, true, some 15), .one (3, true, some 16), .one (4, true, some 17), .one (5, true, some 18), .one (6, true, some 19), .one (7, true, some 20), .one (8, true, some 21), .one (9, true, some 22), .one (10, true, some 23), .one (11, true, some 24), .one (12, true, some 25), .one (13, true, some 26), .one (14, true, some 27), .one (15, true, some 28), .one (16, true, some 29), .one (17, true, some 30), .one (18, true, some 31), .one (19, true, some 32)] [.one ⟨true, some 13, (Go.Op.move (Go.Operand.tmp 0)), 28, none⟩,
    .one ⟨true, some 14, (Go.Op.nilCheck (Go.Operand.tmp 13)), 0, none⟩,
    .one ⟨true, some 15, (Go.Op.fieldAddr 145 (Go.Operand.tmp 14) 0), 0, none⟩,
    .one ⟨true, some 16, (Go.Op.load 66 (Go.Operand.tmp 15)), 66, none⟩,
    .one ⟨true, some 17, (Go.Op.move (Go.Operand.tmp 0)), 28, none⟩,
    .one ⟨true, some 18, (Go.Op.nilCheck (Go.Operand.tmp 17)), 0, none⟩,
    .one ⟨true, some 19, (Go.Op.fieldAddr 145 (Go.Operand.tmp 18) 1), 0, none⟩,
    .one ⟨true, some 20, (Go.Op.load 143 (Go.Operand.tmp 19)), 143, none⟩,
    .one ⟨true, some 21, (Go.Op.move (Go.Operand.tmp 3)), 3, none⟩,
    .one ⟨true, some 22, (Go.Op.indexAddr 143 (Go.Operand.tmp 20) (Go.Operand.tmp 21)), 0, none⟩,
    .one ⟨true, some 23, (Go.Op.fieldAddr 152 (Go.Operand.tmp 22) 0), 0, none⟩,
    .one ⟨true, some 24, (Go.Op.load 3 (Go.Operand.tmp 23)), 3, none⟩,
    .one ⟨true, some 25, (Go.Op.move (Go.Operand.tmp 0)), 28, none⟩,
    .one ⟨true, some 26, (Go.Op.nilCheck (Go.Operand.tmp 25)), 0, none⟩,
    .one ⟨true, some 27, (Go.Op.fieldAddr 145 (Go.Operand.tmp 26) 1), 0, none⟩,
    .one ⟨true, some 28, (Go.Op.load 143 (Go.Operand.tmp 27)), 143, none⟩,
    .one ⟨true, some 29, (Go.Op.move (Go.Operand.tmp 3)), 3, none⟩,
    .one ⟨true, some 30, (Go.Op.indexAddr 143 (Go.Operand.tmp 28) (Go.Operand.tmp 29)), 0, none⟩,
    .one ⟨true, some 31, (Go.Op.fieldAddr 152 (Go.Operand.tmp 30) 1), 0, none⟩,
    .one ⟨true, some 32, (Go.Op.load 45 (Go.Operand.tmp 31)), 45, none⟩] [.one (20, true, some 33), .one (21, false, none)] [.one ⟨true, some 33, (Go.Op.indexAddr 66 (Go.Operand.tmp 16) (Go.Operand.tmp 24)), 0, none⟩,
    .one ⟨false, none, (Go.Op.store 45 (Go.Operand.tmp 33) (Go.Operand.tmp 32)), 0, none⟩] (fun v => Sat w0 v [stA 145 b [.slice As ss.length cs, .slice Aw ws.length cw], rvA 152 2 Aw cw ws.length (ws.flatMap waitV)]) (fun v => Sat w0 v []) rfl (by kernel_rfl) (by kernel_rfl) (by kernel_rfl) (by kernel_rfl) (S.drew.firsts [_, _]) (fun _ S => S.firsts []) ?_
  have S := S.drew
  refine sl_next ?_
  refine sl_run orcDq_ok 3 rfl fr fun a fr => ?_
  refine sl_ldf orcDq_ok (fun _ S => Sat.stAt S 0 rfl (j := 0) rfl) fr rfl rfl rfl rfl rfl rfl rfl rfl (S.firsts [_, _]) fun a fr => ?_
  refine sl_run orcDq_ok 3 rfl fr fun a fr => ?_
  refine sl_ldf orcDq_ok (fun _ S => Sat.stAt S 0 rfl (j := 1) rfl) fr rfl rfl rfl rfl rfl rfl rfl rfl (S.firsts [_, _]) fun a fr => ?_
  have fr := fr.spell (d := 20) rfl (congrArg (fun z => Value.slice z ws.length cw) hA)
  refine sl_run orcDq_ok 1 rfl fr fun a fr => ?_
  refine sl_q fr rfl rfl rfl rfl (fun w' _ => indexAddr_run orcDq_ok fr rfl rfl rfl rfl rfl (Int.natCast_nonneg _) (show (i : Int) < ((ws.length : Nat) : Int) by omega) w') rfl fun a fr => ?_
  refine sl_run orcDq_ok 1 rfl fr fun a fr => ?_
  refine sl_ldf orcDq_ok (v := .int .i64 ws[i].1) (fun _ S => ⟨elem_cell (j := 0) (el_rngA waitV_len hA S 1 rfl hlt) rfl, hv _ List.mem_cons_self⟩) fr rfl rfl rfl rfl rfl rfl rfl rfl (S.firsts [_, _]) fun a fr => ?_
  have fr := fr.spell (d := 24) rfl (congrArg (Value.int .i64) hk)
  refine sl_run orcDq_ok 3 rfl fr fun a fr => ?_
  refine sl_ldf orcDq_ok (fun _ S => Sat.stAt S 0 rfl (j := 1) rfl) fr rfl rfl rfl rfl rfl rfl rfl rfl (S.firsts [_, _]) fun a fr => ?_
  have fr := fr.spell (d := 28) rfl (congrArg (fun z => Value.slice z ws.length cw) hA)
  refine sl_run orcDq_ok 1 rfl fr fun a fr => ?_
  refine sl_q fr rfl rfl rfl rfl (fun w' _ => indexAddr_run orcDq_ok fr rfl rfl rfl rfl rfl (Int.natCast_nonneg _) (show (i : Int) < ((ws.length : Nat) : Int) by omega) w') rfl fun a fr => ?_
  refine sl_run orcDq_ok 1 rfl fr fun a fr => ?_
  refine sl_ldf orcDq_ok (v := rwV ws[i].2) (fun _ S => ⟨elem_cell (j := 1) (el_rngA waitV_len hA S 1 rfl hlt) rfl, hv _ (List.mem_cons_of_mem _ List.mem_cons_self)⟩) fr rfl rfl rfl rfl rfl rfl rfl rfl (S.firsts [_, _]) fun a fr => ?_
  have fr := fr.spell (d := 16) rfl (congrArg (fun z => Value.slice z ss.length cs) hAs)
  refine sl_next ?_
  refine sl_q fr rfl rfl rfl rfl (fun w' _ => indexAddr_run orcDq_ok fr rfl rfl rfl rfl rfl (Int.natCast_nonneg _) (show (k : Int) < ((ss.length : Nat) : Int) by omega) w') rfl fun a fr => ?_
  have fr := fr.spell (d := 33) rfl (show Value.pointer (some ((⟨gs, 0, none⟩ : Addr).add ((k : Int).toNat * 1))) = .pointer (some ⟨gs, k, none⟩) by rw [addr0, Int.toNat_natCast, Nat.mul_one])
  have S := S.frontAt 2 rfl
  rw [hAs] at S
  refine sl_strv (u := rwV ws[i].2) orcDq_ok fr rfl rfl rfl rfl rfl rfl rfl rfl rfl (hv _ (List.mem_cons_of_mem _ List.mem_cons_self)) S (by omega) ?_
  intro w2 S
  refine ⟨S.firsts [], ?_⟩
  refine sl_end ?_
  rw [← hAs, sec_splice rs hkl] at S
  (repeat (first | (with_reducible refine then_n ?_) | (with_reducible refine blk_n ?_) | (with_reducible refine ng_n ?_)))
  skip; (repeat (with_reducible refine wp_seq ?_)); refine wp_region_lit ?_
  refine wl_run orcDq_ok 3 rfl fr fun a fr => ?_
  refine wpList_nil ?_; (repeat (with_reducible refine then_n ?_))
  have fr := fr.spell (d := 3) rfl (congrArg (Value.int .i64) (i64_next hlt (by omega)))
  have S : Sat w0 w2 ([stA 145 b [.slice As ss.length cs, .slice Aw ws.length cw], rvA 152 2 Aw cw ws.length (ws.flatMap waitV), rvA 45 1 As cs rs.length ((rs.set k ws[i].2).flatMap secV)] ++ (rows (rs ++ (ws.drop i).map (·.2)) ++ R)) := (S.frontAt 2 rfl).frontAt 2 rfl
  rw [List.drop_eq_getElem_cons hlt, List.map_cons] at S
  have S := rows_move [stA 145 b [.slice As ss.length cs, .slice Aw ws.length cw], rvA 152 2 Aw cw ws.length (ws.flatMap waitV), rvA 45 1 As cs rs.length ((rs.set k ws[i].2).flatMap secV)] hkl S
  have eln : rs.length = (rs.set k ws[i].2).length := (List.length_set ..).symm
  rw [eln] at S
  refine ⟨i + 1, rs.set k ws[i].2, by omega, by omega, by rw [← eln]; exact hrl, ?_, fr.sub ⟨rfl, rfl, trivial⟩, S⟩
  have hi2 : i < D.2.length := by omega
  have hD2 : D.2[i] = (ws[i].1, ws[i].2.2.2) := by
    have : D.2[i]? = some (ws[i].1, ws[i].2.2.2) := by rw [← hp.2]; simp [hlt]
    rw [List.getElem?_eq_getElem hi2] at this
    injection this
  rw [List.take_succ_eq_append_getElem hi2, List.foldl_append, ← hrs, List.map_set, hD2, hk]
  rfl
def partQ (torn : Int) (i : Nat) : Nat := if (i : Int) = torn then 32 else 64
def stepQ (keep torn : Int) (s : List (List Int)) (i : Nat) (x : Int × List Int) : List (List Int) :=
  if Int.tmod keep 2 = 1 then s.set x.1.toNat (x.2.take (partQ torn i) ++ (s.getD x.1.toNat []).drop (partQ torn i)) else s
def failQ (torn : Int) : Nat → Int → List (List Int) → List (Int × List Int) → List (List Int)
  | _, _, s, [] => s
  | i, keep, s, x :: W => if i < 64 then failQ torn (i + 1) (IntKind.wrap .u64 (Int.tdiv keep 2)) (stepQ keep torn s i x) W else s
theorem failQ_end (torn keep : Int) (s : List (List Int)) (W : List (Int × List Int)) {i : Nat} (h : W = [] ∨ ¬ i < 64) : failQ torn i keep s W = s := by
  cases W with
  | nil => rfl
  | cons x W =>
    unfold failQ
    rcases h with h | h
    · cases h
    · rw [if_neg h]
theorem swapL {α : Type} (A Y Z : List α) : (A ++ (Y ++ Z)).Perm (Y ++ (A ++ Z)) := by
  rw [← List.append_assoc, ← List.append_assoc]
  exact List.Perm.append_right Z List.perm_append_comm
theorem perm_take {α : Type} (T : List α) {j : Nat} (hj : j < T.length) : T.Perm (T[j] :: T.eraseIdx j) := by
  obtain ⟨e1, e2, -⟩ := erase_parts T hj T[j]
  rw [e2]
  generalize hx : T[j] = x at *
  generalize T.take j = T1 at *
  generalize T.drop (j + 1) = T2 at *
  rw [e1]
  exact List.perm_middle
theorem perm_put {α : Type} (T : List α) {j : Nat} (hj : j < T.length) (r : α) : (r :: T.eraseIdx j).Perm (T.set j r) := by
  obtain ⟨-, e2, e3⟩ := erase_parts T hj r
  rw [e2, e3]
  exact List.perm_middle.symm
theorem rows_perm (X : List Asn) {T T' : List Rw} (h : T.Perm T') (S : Sat w0 w (X ++ (rows T ++ R))) : Sat w0 w (X ++ (rows T' ++ R)) :=
  S.perm (List.Perm.append_left X (List.Perm.append_right R (h.map fun (r : Rw) => ownA .u8 5 r.1 r.2.1 r.2.2)))
theorem flat_map (l : List Rw) : l.flatMap secV = l.map rwV := by
  induction l with
  | nil => rfl
  | cons x l ih => rw [List.flatMap_cons, ih]; rfl
theorem sec_same (l : List Rw) {k : Nat} (hk : k < l.length) {r : Rw} (h : rwV r = rwV l[k]) : (l.set k r).flatMap secV = l.flatMap secV := by
  rw [flat_map, flat_map, List.map_set, h]
  apply List.ext_getElem?
  intro j
  rw [List.getElem?_set]
  by_cases hj : k = j
  · subst hj; simp [hk]
  · rw [if_neg hj]
theorem mix_set {a b : List Int} {k : Nat} (ha : k < a.length) (hl : a.length = b.length) : (a.take k ++ b.drop k).set k (a.getD k 0) = a.take (k + 1) ++ b.drop (k + 1) := by
  have e1 : (a.take k).length = k := by rw [List.length_take]; omega
  have e2 : a.getD k 0 = a[k] := by rw [List.getD_eq_getElem?_getD, List.getElem?_eq_getElem ha]; rfl
  rw [List.set_append_right _ _ (by omega), e1, Nat.sub_self, List.drop_eq_getElem_cons (by omega : k < b.length), List.set_cons_zero, e2, List.take_succ_eq_append_getElem ha, List.append_assoc]
  rfl
theorem mix_len {a b : List Int} {k : Nat} (ha : k ≤ a.length) (hl : a.length = b.length) : (a.take k ++ b.drop k).length = b.length := by
  rw [List.length_append, List.length_take, List.length_drop]; omega
set_option maxRecDepth 100000 in
theorem dd_fail_no {keep torn : Int} (hk : (Lit.int .u64 keep).wf = true) (ht : (Lit.int .i64 torn).wf = true) (h : torn < -1) (S : Sat w0 w (ddkA b D :: R)) :
    Calls Tryz.prog 21 #[.pointer (some ⟨b, 0, none⟩), .int .u64 keep, .int .i64 torn] w fun e w' => e = .returned (.tuple #[.pointer none, .int .i64 1]) ∧ Sat w0 w' (ddkA b D :: R) := by
  refine calls_start (N := 97) [.pointer (some ⟨b, 0, none⟩), .int .u64 keep, .int .i64 torn] Tryz.func21 rfl rfl rfl (vok_c rfl (vok_c hk (vok_c ht rfl))) fun a fr => ?_
  skip; (repeat (with_reducible refine wp_seq ?_)); refine wp_region_lit ?_
  refine wl_run orcDq_ok 2 rfl fr fun a fr => ?_
  refine wpList_nil ?_; (repeat (with_reducible refine then_n ?_))
  skip; (repeat (with_reducible refine wp_seq ?_)); refine wp_region_lit ?_
  refine wl_run orcDq_ok 2 rfl fr fun a fr => ?_
  refine wpList_nil ?_; (repeat (with_reducible refine then_n ?_))
  have fr := fr.bool (d := 14) rfl (decide_eq_true (show torn < -1 from h))
  skip; (repeat (with_reducible refine wp_seq ?_))
  refine cw_t fr rfl ?_
  skip; (repeat (with_reducible refine wp_seq ?_)); refine wp_region_lit ?_
  refine wl_run orcDq_ok 2 rfl fr fun a fr => ?_
  refine wpList_nil ?_; (repeat (with_reducible refine then_n ?_))
  refine wp_ret ?_
  skip; (repeat (first | (with_reducible refine then_r ?_) | (with_reducible refine blk_r ?_) | (with_reducible refine ng_r ?_)))
  refine ret2 fr rfl rfl rfl ?_
  exact ⟨rfl, S⟩
set_option maxRecDepth 100000 in
set_option maxHeartbeats 4000000 in
theorem dd_fail {keep torn : Int} (hk : (Lit.int .u64 keep).wf = true) (ht : (Lit.int .i64 torn).wf = true) (h : -1 ≤ torn) (hw : ∀ p ∈ D.2, (0 ≤ p.1 ∧ p.1 < (D.1.length : Int)) ∧ p.2.length = 64) (hs : ∀ p ∈ D.1, p.length = 64) (hb : D.2.length ≤ 1000000 ∧ D.1.length ≤ 1000000) (S : Sat w0 w (ddkA b D :: R)) :
    Calls Tryz.prog 21 #[.pointer (some ⟨b, 0, none⟩), .int .u64 keep, .int .i64 torn] w fun e w' => ∃ b', e = .returned (.tuple #[.pointer (some ⟨b', 0, none⟩), .int .i64 0]) ∧ Sat w0 w' (ddkA b' (failQ torn 0 keep D.1 D.2, []) :: ddkA b D :: R) := by
  obtain ⟨As, cs, ss, Aw, cw, ws, hp, S⟩ := S.ofDd
  have hl1 : D.1.length = ss.length := by rw [← hp.1, List.length_map]
  have hl2 : D.2.length = ws.length := by rw [← hp.2, List.length_map]
  have hss : ∀ i (hi : i < ss.length), ss[i].2.2.length = 64 := fun i hi => by
    have : ss[i].2.2 ∈ D.1 := by rw [← hp.1]; exact List.mem_map.2 ⟨ss[i], List.getElem_mem hi, rfl⟩
    exact hs _ this
  have hws : ∀ i (hi : i < ws.length), (0 ≤ ws[i].1 ∧ ws[i].1 < (ss.length : Int)) ∧ ws[i].2.2.2.length = 64 := fun i hi => by
    have : (ws[i].1, ws[i].2.2.2) ∈ D.2 := by rw [← hp.2]; exact List.mem_map.2 ⟨ws[i], List.getElem_mem hi, rfl⟩
    have := hw _ this
    rw [hl1] at this
    exact this
  refine calls_start (N := 97) [.pointer (some ⟨b, 0, none⟩), .int .u64 keep, .int .i64 torn] Tryz.func21 rfl rfl rfl (vok_c rfl (vok_c hk (vok_c ht rfl))) fun a fr => ?_
  skip; (repeat (with_reducible refine wp_seq ?_)); refine wp_region_lit ?_
  refine wl_run orcDq_ok 2 rfl fr fun a fr => ?_
  refine wpList_nil ?_; (repeat (with_reducible refine then_n ?_))
  skip; (repeat (with_reducible refine wp_seq ?_)); refine wp_region_lit ?_
  refine wl_run orcDq_ok 2 rfl fr fun a fr => ?_
  refine wpList_nil ?_; (repeat (with_reducible refine then_n ?_))
  have fr := fr.bool (d := 14) rfl (decide_eq_false (show ¬ torn < -1 by omega))
  skip; (repeat (with_reducible refine wp_seq ?_))
  refine cw_f fr rfl ?_
  refine wp_skip ?_
  (with_reducible refine then_n ?_)
  skip; (repeat (with_reducible refine wp_seq ?_)); refine wp_region_lit ?_
  refine wl_build (cs := [Value.slice none 0 0, Value.slice none 0 0]) (L2 := []) fr rfl rfl rfl rfl (by simp) (by kernel_rfl) rfl fun a fr => ?_
  refine wl_boxs fr rfl rfl rfl rfl rfl rfl S ?_
  intro w b2 S a fr
  refine wl_run orcDq_ok 1 rfl fr fun a fr => ?_
  refine wpList_nil ?_; (repeat (with_reducible refine then_n ?_))
  skip; (repeat (with_reducible refine wp_seq ?_)); refine wp_region_lit ?_
  refine wl_run orcDq_ok 1 rfl fr fun a fr => ?_
  refine wpList_nil ?_; (repeat (with_reducible refine then_n ?_))
  have S := rv_nil 45 1 S
  have S : Sat w0 w (stA 145 b2 [.slice none ([] : List Rw).length 0, .slice none 0 0] :: stA 145 b [.slice As ss.length cs, .slice Aw ws.length cw] :: rvA 45 1 As cs ss.length (ss.flatMap secV) :: rvA 45 1 none 0 ([] : List Rw).length (([] : List Rw).flatMap secV) :: rvA 152 2 Aw cw ws.length (ws.flatMap waitV) :: (rows ([] ++ (ss ++ ws.map (·.2))) ++ R)) := (((((S.frontAt 4 rfl).frontAt 1 rfl).frontAt 4 rfl).frontAt 4 rfl).frontAt 4 rfl)
  skip; (repeat (with_reducible refine wp_seq ?_))
  refine cw_blk (fun a w1 => ∃ (A2 : Option Addr) (c2 : Nat) (rs : List Rw), rs.length = ss.length ∧ rs.map (·.2.2) = D.1 ∧ Fr 97 a [(0, .pointer (some ⟨b, 0, none⟩)), (1, .int .u64 keep), (2, .int .i64 torn), (8, .pointer (some ⟨b2, 0, none⟩))] ∧ Sat w0 w1 (stA 145 b2 [.slice A2 rs.length c2, .slice none 0 0] :: stA 145 b [.slice As ss.length cs, .slice Aw ws.length cw] :: rvA 45 1 As cs ss.length (ss.flatMap secV) :: rvA 45 1 A2 c2 rs.length (rs.flatMap secV) :: rvA 152 2 Aw cw ws.length (ws.flatMap waitV) :: (rows (rs ++ (ss ++ ws.map (·.2))) ++ R))) ?_ ?_
  · refine cw_loop (fun q a w1 => ∃ (A2 : Option Addr) (c2 : Nat) (rs : List Rw), rs.length + q = ss.length + 1 ∧ rs.length ≤ ss.length ∧ rs.map (·.2.2) = D.1.take rs.length ∧ Fr 97 a [(0, .pointer (some ⟨b, 0, none⟩)), (1, .int .u64 keep), (2, .int .i64 torn), (8, .pointer (some ⟨b2, 0, none⟩)), (9, .int .i64 (rs.length : Int))] ∧ Sat w0 w1 (stA 145 b2 [.slice A2 rs.length c2, .slice none 0 0] :: stA 145 b [.slice As ss.length cs, .slice Aw ws.length cw] :: rvA 45 1 As cs ss.length (ss.flatMap secV) :: rvA 45 1 A2 c2 rs.length (rs.flatMap secV) :: rvA 152 2 Aw cw ws.length (ws.flatMap waitV) :: (rows (rs ++ (ss ++ ws.map (·.2))) ++ R))) (ss.length + 1)
      ⟨none, 0, [], by simp, Nat.zero_le _, rfl, fr.sub ⟨rfl, rfl, rfl, rfl, rfl, trivial⟩, S⟩ ?_ ?_
    · rintro a w1 ⟨A2, c2, rs, h1, h2, -⟩
      omega
    clear fr S
    rintro q a w1 ⟨A2, c2, rs, hq, hle, hrs, fr, S⟩
    skip; (repeat (with_reducible refine wp_seq ?_)); refine wp_region_lit ?_
    refine wl_run orcDq_ok 4 rfl fr fun a fr => ?_
    refine wl_ldf orcDq_ok (Sat.stAt S 1 rfl (j := 0) rfl) fr rfl rfl rfl rfl rfl rfl rfl fun a fr => ?_
    refine wl_run orcDq_ok 2 rfl fr fun a fr => ?_
    refine wpList_nil ?_; (repeat (with_reducible refine then_n ?_))
    by_cases hlt : rs.length < ss.length
    rotate_left
    · have fr := fr.bool (d := 23) rfl (decide_eq_false (show ¬ (rs.length : Int) < (ss.length : Int) by omega))
      skip; (repeat (with_reducible refine wp_seq ?_))
      refine cw_f fr rfl ?_
      refine wp_exit ?_
      skip; (repeat (first | (with_reducible refine then_e ?_) | (with_reducible refine ng_e ?_) | (with_reducible refine blk_e (by decide) ?_))); (with_reducible refine blk_y ?_); (repeat (with_reducible refine then_n ?_))
      rw [List.take_of_length_le (by omega)] at hrs
      exact ⟨A2, c2, rs, by omega, hrs, fr.sub ⟨rfl, rfl, rfl, rfl, trivial⟩, S⟩
    have fr := fr.bool (d := 23) rfl (decide_eq_true (show (rs.length : Int) < (ss.length : Int) by omega))
    obtain ⟨⟨g, hA, -⟩, hv⟩ := el_wf secV_len S 2 rfl hlt
    have hjj : rs.length + rs.length < (rs ++ (ss ++ ws.map (·.2))).length := by rw [List.length_append, List.length_append]; omega
    have er : (rs ++ (ss ++ ws.map (·.2)))[rs.length + rs.length]'hjj = ss[rs.length] := by
      rw [List.getElem_append_right (Nat.le_add_right _ _), List.getElem_append_left (by omega)]
      congr 1
      omega
    skip; (repeat (with_reducible refine wp_seq ?_))
    refine cw_t fr rfl ?_
    refine wp_skip ?_
    (with_reducible refine then_n ?_)
    skip; (repeat (with_reducible refine wp_seq ?_))
    refine wp_block ?_
    skip; (repeat (with_reducible refine wp_seq ?_))
    refine wp_region_ph [] [15, 16, 17] [] [] [.one (0, true, some 26), .one (1, true, some 27), .one (2, true, some 28), .one (3, true, some 29), .one (4, true, some 30), .one (5, true, some 31), .one (6, true, some 32), .one (7, true, some 33), .one (8, true, some 34), .one (9, true, some 35), .one (10, true, some 36), .one (11, true, some 37), .one (12, false, some 38), .one (13, false, some 39), .one (14, false, some 40)] [.one ⟨true, some 26, (Go.Op.move (Go.Operand.tmp 8)), 28, none⟩,
    .one ⟨true, some 27, (Go.Op.move (Go.Operand.tmp 8)), 28, none⟩,
    .one ⟨true, some 28, (Go.Op.nilCheck (Go.Operand.tmp 27)), 0, none⟩,
    .one ⟨true, some 29, (Go.Op.fieldAddr 145 (Go.Operand.tmp 28) 0), 0, none⟩,
    .one ⟨true, some 30, (Go.Op.load 66 (Go.Operand.tmp 29)), 66, none⟩,
    .one ⟨true, some 31, (Go.Op.move (Go.Operand.tmp 0)), 28, none⟩,
    .one ⟨true, some 32, (Go.Op.nilCheck (Go.Operand.tmp 31)), 0, none⟩,
    .one ⟨true, some 33, (Go.Op.fieldAddr 145 (Go.Operand.tmp 32) 0), 0, none⟩,
    .one ⟨true, some 34, (Go.Op.load 66 (Go.Operand.tmp 33)), 66, none⟩,
    .one ⟨true, some 35, (Go.Op.move (Go.Operand.tmp 9)), 3, none⟩,
    .one ⟨true, some 36, (Go.Op.indexAddr 66 (Go.Operand.tmp 34) (Go.Operand.tmp 35)), 0, none⟩,
    .one ⟨true, some 37, (Go.Op.load 45 (Go.Operand.tmp 36)), 45, none⟩,
    .one ⟨false, some 38, (Go.Op.call { callee := (Go.Callee.builtin Go.Builtin.append), args := #[(Go.Operand.const (Go.Value.slice none 0 0)), (Go.Operand.tmp 37)], argTypes := #[45, 45] }), 45, none⟩,
    .one ⟨false, some 39, (Go.Op.buildSlice 66 1 #[(0, (Go.Operand.tmp 38))]), 66, none⟩,
    .one ⟨false, some 40, (Go.Op.call { callee := (Go.Callee.builtin Go.Builtin.append), args := #[(Go.Operand.tmp 30), (Go.Operand.tmp 39)], argTypes := #[66, 66] }), 66, none⟩] [.one (15, true, some 41), .one (16, true, some 42), .one (17, false, none)] [.one ⟨true, some 41, (Go.Op.nilCheck (Go.Operand.tmp 26)), 0, none⟩,
    .one ⟨true, some 42, (Go.Op.fieldAddr 145 (Go.Operand.tmp 41) 0), 0, none⟩,
    .one ⟨false, none, (Go.Op.store 66 (Go.Operand.tmp 42) (Go.Operand.tmp 40)), 0, none⟩] (fun v => Sat w0 v [stA 145 b2 [.slice A2 rs.length c2, .slice none 0 0], stA 145 b [.slice As ss.length cs, .slice Aw ws.length cw], rvA 45 1 As cs ss.length (ss.flatMap secV)]) (fun v => Sat w0 v []) rfl (by kernel_rfl) (by kernel_rfl) (by kernel_rfl) (by kernel_rfl) (S.drew.firsts [_, _, _]) (fun _ S => S.firsts []) ?_
    have S := S.drew
    refine sl_next ?_
    refine sl_run orcDq_ok 4 rfl fr fun a fr => ?_
    refine sl_ldf orcDq_ok (fun _ S => Sat.stAt S 0 rfl (j := 0) rfl) fr rfl rfl rfl rfl rfl rfl rfl rfl (S.firsts [_, _, _]) fun a fr => ?_
    refine sl_run orcDq_ok 3 rfl fr fun a fr => ?_
    refine sl_ldf orcDq_ok (fun _ S => Sat.stAt S 1 rfl (j := 0) rfl) fr rfl rfl rfl rfl rfl rfl rfl rfl (S.firsts [_, _, _]) fun a fr => ?_
    have fr := fr.spell (d := 34) rfl (congrArg (fun z => Value.slice z ss.length cs) hA)
    refine sl_run orcDq_ok 1 rfl fr fun a fr => ?_
    refine sl_q fr rfl rfl rfl rfl (fun w' _ => indexAddr_run orcDq_ok fr rfl rfl rfl rfl rfl (Int.natCast_nonneg _) (show (rs.length : Int) < ((ss.length : Nat) : Int) by omega) w') rfl fun a fr => ?_
    refine sl_ldf orcDq_ok (v := rwV ss[rs.length]) (fun _ S => ⟨elem_cell (j := 0) (el_rngA secV_len hA S 2 rfl hlt) rfl, hv _ (List.mem_singleton.2 rfl)⟩) fr rfl rfl rfl rfl rfl rfl rfl rfl (S.firsts [_, _, _]) fun a fr => ?_
    obtain ⟨hrk, hm⟩ := row_at [_, _, _, _, _] S hjj
    rw [er] at hrk hm
    have h64 := hss _ hlt
    have S := S.nilRow .u8 5
    refine sl_app rowDq (l := []) (news := ss[rs.length].2.2) fr rfl rfl rfl rfl rfl rfl rfl rfl rfl hrk (by simp only [List.length_nil]; omega) S ?_
    intro w3 A3 c3 S
    refine ⟨S.tl.firsts [_, _, _], fun a fr => ?_⟩
    rw [List.nil_append] at S fr
    obtain ⟨hrk3, hm3⟩ := S.own
    refine sl_litv (v := rwV (A3, c3, ss[rs.length].2.2)) Tryz.underlying66 infoDs' fr rfl rfl rfl rfl rfl rfl rfl (vok_sl (A := A3) hm3) S ?_
    intro w4 A4 c4 S
    refine ⟨S.tl.tl.firsts [_, _, _], fun a fr => ?_⟩
    have S := (S.frontAt 5 rfl).frontAt 1 rfl
    refine sl_rvapp (z := 1) (bytes := 24) Tryz.underlying66 infoDs rfl rfl fr rfl rfl rfl rfl rfl rfl rfl rfl (by omega) S ?_
    intro w5 A5 c5 S
    refine ⟨S.tl.tl.firsts [_, _, _], fun a fr => ?_⟩
    refine sl_next ?_
    refine sl_run orcDq_ok 2 rfl fr fun a fr => ?_
    have S := S.frontAt 2 rfl
    refine sl_stf (j := 0) orcDq_ok fr rfl rfl rfl rfl rfl rfl rfl rfl rfl S rfl ?_
    intro w6 S
    refine ⟨S.firsts [], ?_⟩
    refine sl_end ?_
    (repeat (first | (with_reducible refine then_n ?_) | (with_reducible refine blk_n ?_) | (with_reducible refine ng_n ?_)))
    skip; (repeat (with_reducible refine wp_seq ?_)); refine wp_region_lit ?_
    refine wl_run orcDq_ok 3 rfl fr fun a fr => ?_
    refine wpList_nil ?_; (repeat (with_reducible refine then_n ?_))
    have fr := fr.spell (d := 9) rfl (congrArg (Value.int .i64) (i64_next hlt (by omega)))
    have S := (((((S.frontAt 2 rfl).frontAt 5 rfl).frontAt 3 rfl).frontAt 5 rfl).frontAt 5 rfl).frontAt 5 rfl
    have S2 : Sat w0 w6 ([stA 145 b2 [.slice A5 (rs.length + 1) c5, .slice none 0 0], stA 145 b [.slice As ss.length cs, .slice Aw ws.length cw], rvA 45 1 As cs ss.length (ss.flatMap secV), rvA 45 1 A5 c5 (rs.length + 1) (rs.flatMap secV ++ secV (A3, c3, ss[rs.length].2.2)), rvA 152 2 Aw cw ws.length (ws.flatMap waitV)] ++ (rows ((A3, c3, ss[rs.length].2.2) :: (rs ++ (ss ++ ws.map (·.2)))) ++ R)) := S
    have eln : rs.length + 1 = (rs ++ [((A3, c3, ss[rs.length].2.2) : Rw)]).length := by rw [List.length_append]; rfl
    have S3 := rows_perm [_, _, _, _, _] (T' := (rs ++ [((A3, c3, ss[rs.length].2.2) : Rw)]) ++ (ss ++ ws.map (·.2))) (by
      rw [List.append_assoc]
      exact List.perm_middle.symm) S2
    rw [← el_snoc, eln] at S3
    rw [eln] at fr
    refine ⟨A5, c5, rs ++ [((A3, c3, ss[rs.length].2.2) : Rw)], by rw [← eln]; omega, by rw [← eln]; omega, ?_, fr.sub ⟨rfl, rfl, rfl, rfl, rfl, trivial⟩, S3⟩
    rw [← eln, List.map_append, hrs, List.take_succ_eq_append_getElem (by omega)]
    congr 1
    have : D.1[rs.length]'(by omega) = ss[rs.length].2.2 := by
      have : D.1[rs.length]? = some ss[rs.length].2.2 := by rw [← hp.1]; simp [hlt]
      rw [List.getElem?_eq_getElem (by omega)] at this
      injection this
    rw [this]
    rfl
  clear fr S
  rintro a w1 ⟨A2, c2, rs0, hrl0, hrs0, fr, S⟩
  (repeat (with_reducible refine then_n ?_))
  generalize hF : failQ torn 0 keep D.1 D.2 = F
  have hD2 : ∀ j (hj : j < ws.length) (hj' : j < D.2.length), D.2[j] = (ws[j].1, ws[j].2.2.2) := fun j hj hj' => by
    have : D.2[j]? = some (ws[j].1, ws[j].2.2.2) := by rw [← hp.2]; simp [hj]
    rw [List.getElem?_eq_getElem hj'] at this
    injection this
  skip; (repeat (with_reducible refine wp_seq ?_)); refine wp_region_lit ?_
  refine wl_run orcDq_ok 1 rfl fr fun a fr => ?_
  refine wpList_nil ?_; (repeat (with_reducible refine then_n ?_))
  skip; (repeat (with_reducible refine wp_seq ?_))
  refine cw_blk (fun a w1 => ∃ rs : List Rw, rs.map (·.2.2) = F ∧ Fr 97 a [(8, .pointer (some ⟨b2, 0, none⟩))] ∧ Sat w0 w1 (stA 145 b2 [.slice A2 rs.length c2, .slice none 0 0] :: stA 145 b [.slice As ss.length cs, .slice Aw ws.length cw] :: rvA 45 1 As cs ss.length (ss.flatMap secV) :: rvA 45 1 A2 c2 rs.length (rs.flatMap secV) :: rvA 152 2 Aw cw ws.length (ws.flatMap waitV) :: (rows (rs ++ (ss ++ ws.map (·.2))) ++ R))) ?_ ?_
  · refine cw_loop (fun q a w1 => ∃ (i : Nat) (kp : Int) (rs : List Rw), i + q = ws.length + 1 ∧ i ≤ ws.length ∧ (Lit.int .u64 kp).wf = true ∧ rs.length = ss.length ∧ (∀ j (hj : j < rs.length), rs[j].2.2.length = 64) ∧ failQ torn i kp (rs.map (·.2.2)) (D.2.drop i) = F ∧ Fr 97 a [(0, .pointer (some ⟨b, 0, none⟩)), (1, .int .u64 kp), (2, .int .i64 torn), (8, .pointer (some ⟨b2, 0, none⟩)), (10, .int .i64 (i : Int))] ∧ Sat w0 w1 (stA 145 b2 [.slice A2 rs.length c2, .slice none 0 0] :: stA 145 b [.slice As ss.length cs, .slice Aw ws.length cw] :: rvA 45 1 As cs ss.length (ss.flatMap secV) :: rvA 45 1 A2 c2 rs.length (rs.flatMap secV) :: rvA 152 2 Aw cw ws.length (ws.flatMap waitV) :: (rows (rs ++ (ss ++ ws.map (·.2))) ++ R))) (ws.length + 1)
      ⟨0, keep, rs0, by omega, by omega, hk, hrl0, fun j hj => hs _ (by rw [← hrs0]; exact List.mem_map.2 ⟨rs0[j], List.getElem_mem hj, rfl⟩), by rw [hrs0]; exact hF, fr.sub ⟨rfl, rfl, rfl, rfl, rfl, trivial⟩, S⟩ ?_ ?_
    · rintro a w1 ⟨i, _, _, h1, h2, -⟩
      omega
    clear fr S
    rintro q a w1 ⟨i, kp, rs, hq, hle, hkp, hrl, hr64, hFi, fr, S⟩
    skip; (repeat (with_reducible refine wp_seq ?_)); refine wp_region_lit ?_
    refine wl_run orcDq_ok 4 rfl fr fun a fr => ?_
    refine wl_ldf orcDq_ok (Sat.stAt S 1 rfl (j := 1) rfl) fr rfl rfl rfl rfl rfl rfl rfl fun a fr => ?_
    refine wl_run orcDq_ok 3 rfl fr fun a fr => ?_
    by_cases hlt : i < ws.length
    rotate_left
    · have fr := fr.bool (d := 50) rfl (decide_eq_false (show ¬ (i : Int) < (ws.length : Int) by omega))
      refine wl_run orcDq_ok 3 rfl fr fun a fr => ?_
      refine wpList_nil ?_; (repeat (with_reducible refine then_n ?_))
      skip; (repeat (with_reducible refine wp_seq ?_))
      refine cw_f fr rfl ?_
      refine wp_exit ?_
      skip; (repeat (first | (with_reducible refine then_e ?_) | (with_reducible refine ng_e ?_) | (with_reducible refine blk_e (by decide) ?_))); (with_reducible refine blk_y ?_); (repeat (with_reducible refine then_n ?_))
      rw [failQ_end _ _ _ _ (.inl (List.drop_of_length_le (by omega)))] at hFi
      exact ⟨rs, hFi, fr.sub ⟨rfl, trivial⟩, S⟩
    have fr := fr.bool (d := 50) rfl (decide_eq_true (show (i : Int) < (ws.length : Int) by omega))
    refine wl_run orcDq_ok 2 rfl fr fun a fr => ?_
    by_cases h64 : i < 64
    rotate_left
    · have fr := fr.bool (d := 52) rfl (decide_eq_false (show ¬ (i : Int) < 64 by omega))
      refine wl_run orcDq_ok 1 rfl fr fun a fr => ?_
      refine wpList_nil ?_; (repeat (with_reducible refine then_n ?_))
      skip; (repeat (with_reducible refine wp_seq ?_))
      refine cw_f fr rfl ?_
      refine wp_exit ?_
      skip; (repeat (first | (with_reducible refine then_e ?_) | (with_reducible refine ng_e ?_) | (with_reducible refine blk_e (by decide) ?_))); (with_reducible refine blk_y ?_); (repeat (with_reducible refine then_n ?_))
      rw [failQ_end _ _ _ _ (.inr h64)] at hFi
      exact ⟨rs, hFi, fr.sub ⟨rfl, trivial⟩, S⟩
    have fr := fr.bool (d := 52) rfl (decide_eq_true (show (i : Int) < 64 by omega))
    refine wl_run orcDq_ok 1 rfl fr fun a fr => ?_
    refine wpList_nil ?_; (repeat (with_reducible refine then_n ?_))
    obtain ⟨⟨hk0, hk1⟩, hw64⟩ := hws i hlt
    obtain ⟨kk, hkk⟩ : ∃ k : Nat, ws[i].1 = k := ⟨ws[i].1.toNat, by omega⟩
    have hkl : kk < rs.length := by omega
    have hi2 : i < D.2.length := by omega
    have hd2 := hD2 i hlt hi2
    rw [List.drop_eq_getElem_cons hi2, failQ, if_pos h64] at hFi
    skip; (repeat (with_reducible refine wp_seq ?_))
    refine cw_t fr rfl ?_
    refine wp_skip ?_
    (with_reducible refine then_n ?_)
    skip; (repeat (with_reducible refine wp_seq ?_))
    refine wp_block ?_
    refine cw_cut (fun a w1 => ∃ rs' : List Rw, rs'.length = ss.length ∧ (∀ j (hj : j < rs'.length), rs'[j].2.2.length = 64) ∧ rs'.map (·.2.2) = stepQ kp torn (rs.map (·.2.2)) i D.2[i] ∧ Fr 97 a [(0, .pointer (some ⟨b, 0, none⟩)), (1, .int .u64 kp), (2, .int .i64 torn), (8, .pointer (some ⟨b2, 0, none⟩)), (10, .int .i64 (i : Int))] ∧ Sat w0 w1 (stA 145 b2 [.slice A2 rs'.length c2, .slice none 0 0] :: stA 145 b [.slice As ss.length cs, .slice Aw ws.length cw] :: rvA 45 1 As cs ss.length (ss.flatMap secV) :: rvA 45 1 A2 c2 rs'.length (rs'.flatMap secV) :: rvA 152 2 Aw cw ws.length (ws.flatMap waitV) :: (rows (rs' ++ (ss ++ ws.map (·.2))) ++ R))) ?_ ?_
    · skip; (repeat (with_reducible refine wp_seq ?_)); refine wp_region_lit ?_
      refine wl_run orcDq_ok 1 rfl fr fun a fr => ?_
      refine wl_pv orcDq_ok fr rfl rfl rfl (po_rem rfl rfl rfl (by decide)) fun a fr => ?_
      refine wl_run orcDq_ok 1 rfl fr fun a fr => ?_
      refine wpList_nil ?_; (repeat (with_reducible refine then_n ?_))
      by_cases hod : Int.tmod kp 2 = 1
      rotate_left
      · have fr := fr.bool (d := 58) rfl (show (Int.tmod kp 2 == 1) = false by simp [hod])
        skip; (repeat (with_reducible refine wp_seq ?_))
        refine cw_f fr rfl ?_
        refine wp_skip ?_
        (repeat (with_reducible refine then_n ?_))
        exact ⟨rs, hrl, hr64, by unfold stepQ; rw [if_neg hod], fr.sub ⟨rfl, rfl, rfl, rfl, rfl, trivial⟩, S⟩
      have fr := fr.bool (d := 58) rfl (show (Int.tmod kp 2 == 1) = true by simp [hod])
      skip; (repeat (with_reducible refine wp_seq ?_))
      refine cw_t fr rfl ?_
      skip; (repeat (with_reducible refine wp_seq ?_)); refine wp_region_lit ?_
      refine wl_run orcDq_ok 1 rfl fr fun a fr => ?_
      refine wpList_nil ?_; (repeat (with_reducible refine then_n ?_))
      have hn64 : partQ torn i ≤ 64 := by unfold partQ; split <;> omega
      refine cw_cut (fun a w2 => Fr 97 a [(0, .pointer (some ⟨b, 0, none⟩)), (1, .int .u64 kp), (2, .int .i64 torn), (8, .pointer (some ⟨b2, 0, none⟩)), (10, .int .i64 (i : Int)), (11, .int .i64 ((partQ torn i : Nat) : Int))] ∧ Sat w0 w2 (stA 145 b2 [.slice A2 rs.length c2, .slice none 0 0] :: stA 145 b [.slice As ss.length cs, .slice Aw ws.length cw] :: rvA 45 1 As cs ss.length (ss.flatMap secV) :: rvA 45 1 A2 c2 rs.length (rs.flatMap secV) :: rvA 152 2 Aw cw ws.length (ws.flatMap waitV) :: (rows (rs ++ (ss ++ ws.map (·.2))) ++ R))) ?_ ?_
      · skip; (repeat (with_reducible refine wp_seq ?_)); refine wp_region_lit ?_
        refine wl_run orcDq_ok 3 rfl fr fun a fr => ?_
        refine wpList_nil ?_; (repeat (with_reducible refine then_n ?_))
        by_cases hit : (i : Int) = torn
        · have fr := fr.bool (d := 61) rfl (show ((i : Int) == torn) = true by simp [hit])
          have ep : partQ torn i = 32 := by unfold partQ; rw [if_pos hit]
          rw [ep]
          skip; (repeat (with_reducible refine wp_seq ?_))
          refine cw_t fr rfl ?_
          skip; (repeat (with_reducible refine wp_seq ?_)); refine wp_region_lit ?_
          refine wl_run orcDq_ok 1 rfl fr fun a fr => ?_
          refine wpList_nil ?_; (repeat (with_reducible refine then_n ?_))
          exact ⟨fr.sub ⟨rfl, rfl, rfl, rfl, rfl, rfl, trivial⟩, S⟩
        · have fr := fr.bool (d := 61) rfl (show ((i : Int) == torn) = false by simp [hit])
          have ep : partQ torn i = 64 := by unfold partQ; rw [if_neg hit]
          rw [ep]
          skip; (repeat (with_reducible refine wp_seq ?_))
          refine cw_f fr rfl ?_
          refine wp_skip ?_
          (repeat (with_reducible refine then_n ?_))
          exact ⟨fr.sub ⟨rfl, rfl, rfl, rfl, rfl, rfl, trivial⟩, S⟩
      clear fr S
      rintro a w2 ⟨fr, S⟩
      have hst : stepQ kp torn (rs.map (·.2.2)) i D.2[i] = (rs.map (·.2.2)).set kk (ws[i].2.2.2.take (partQ torn i) ++ (rs[kk].2.2).drop (partQ torn i)) := by
        unfold stepQ
        rw [if_pos hod, hd2]
        simp only [hkk, Int.toNat_natCast]
        congr 3
        rw [List.getD_eq_getElem?_getD]; simp [hkl]
      rw [hst]
      generalize partQ torn i = n at *
      skip; (repeat (with_reducible refine wp_seq ?_)); refine wp_region_lit ?_
      refine wl_run orcDq_ok 1 rfl fr fun a fr => ?_
      refine wpList_nil ?_; (repeat (with_reducible refine then_n ?_))
      have hT : kk < (rs ++ (ss ++ ws.map (·.2))).length := by rw [List.length_append]; omega
      have eT : (rs ++ (ss ++ ws.map (·.2)))[kk] = rs[kk] := List.getElem_append_left hkl
      have hj2 : rs.length + (ss.length + i) < (rs ++ (ss ++ ws.map (·.2))).length := by rw [List.length_append, List.length_append, List.length_map]; omega
      have ej2 : (rs ++ (ss ++ ws.map (·.2)))[rs.length + (ss.length + i)] = ws[i].2 := by
        rw [List.getElem_append_right (Nat.le_add_right _ _)]
        simp
      have hset : ∀ r : Rw, (rs ++ (ss ++ ws.map (·.2))).set kk r = rs.set kk r ++ (ss ++ ws.map (·.2)) := fun r => List.set_append_left _ _ hkl
      have hput := perm_put _ hT
      have htake := perm_take _ hT
      rw [eT] at htake
      generalize hTg : rs ++ (ss ++ ws.map (·.2)) = T at *
      have hlE : (T.eraseIdx kk).length = T.length - 1 := List.length_eraseIdx_of_lt hT
      have hj3 : rs.length + (ss.length + i) - 1 < (T.eraseIdx kk).length := by omega
      have ej3 : (T.eraseIdx kk)[rs.length + (ss.length + i) - 1] = ws[i].2 := by
        rw [List.getElem_eraseIdx_of_ge (by omega) (by omega), ← ej2]
        congr 1
        omega
      have S := rows_perm [_, _, _, _, _] htake S
      have S := S.frontAt 5 rfl
      have S := S.toRow
      have h64k := hr64 kk hkl
      have S : Sat w0 w2 (rowA .u8 5 rs[kk].1 rs[kk].2.1 64 (ws[i].2.2.2.take 0 ++ rs[kk].2.2.drop 0) :: stA 145 b2 [.slice A2 rs.length c2, .slice none 0 0] :: stA 145 b [.slice As ss.length cs, .slice Aw ws.length cw] :: rvA 45 1 As cs ss.length (ss.flatMap secV) :: rvA 45 1 A2 c2 rs.length (rs.flatMap secV) :: rvA 152 2 Aw cw ws.length (ws.flatMap waitV) :: (rows (T.eraseIdx kk) ++ R)) := by
        rw [List.take_zero, List.nil_append, List.drop_zero, ← h64k]
        exact S
      skip; (repeat (with_reducible refine wp_seq ?_))
      refine wp_block ?_
      refine cw_loop (fun q a w1 => ∃ k : Nat, k + q = n + 1 ∧ k ≤ n ∧ Fr 97 a [(0, .pointer (some ⟨b, 0, none⟩)), (1, .int .u64 kp), (2, .int .i64 torn), (8, .pointer (some ⟨b2, 0, none⟩)), (10, .int .i64 (i : Int)), (11, .int .i64 (n : Int)), (12, .int .i64 (k : Int))] ∧ Sat w0 w1 (rowA .u8 5 rs[kk].1 rs[kk].2.1 64 (ws[i].2.2.2.take k ++ rs[kk].2.2.drop k) :: stA 145 b2 [.slice A2 rs.length c2, .slice none 0 0] :: stA 145 b [.slice As ss.length cs, .slice Aw ws.length cw] :: rvA 45 1 As cs ss.length (ss.flatMap secV) :: rvA 45 1 A2 c2 rs.length (rs.flatMap secV) :: rvA 152 2 Aw cw ws.length (ws.flatMap waitV) :: (rows (T.eraseIdx kk) ++ R))) (n + 1)
        ⟨0, by omega, by omega, fr.sub ⟨rfl, rfl, rfl, rfl, rfl, rfl, rfl, trivial⟩, S⟩ ?_ ?_
      · rintro a w1 ⟨k, h1, h2, -⟩
        omega
      clear fr S
      rintro q3 a w3 ⟨k, hq3, hkn, fr, S⟩
      skip; (repeat (with_reducible refine wp_seq ?_)); refine wp_region_lit ?_
      refine wl_run orcDq_ok 3 rfl fr fun a fr => ?_
      refine wpList_nil ?_; (repeat (with_reducible refine then_n ?_))
      have hml : (ws[i].2.2.2.take k ++ rs[kk].2.2.drop k).length = rs[kk].2.2.length := mix_len (by omega) (by omega)
      by_cases hkl2 : k < n
      rotate_left
      · have fr := fr.bool (d := 64) rfl (decide_eq_false (show ¬ (k : Int) < (n : Int) by omega))
        have ek : k = n := by omega
        subst ek
        skip; (repeat (with_reducible refine wp_seq ?_))
        refine cw_f fr rfl ?_
        refine wp_exit ?_
        skip; (repeat (first | (with_reducible refine then_e ?_) | (with_reducible refine ng_e ?_) | (with_reducible refine blk_e (by decide) ?_))); (with_reducible refine blk_y ?_); (repeat (with_reducible refine then_n ?_))
        obtain ⟨-, S⟩ := S.ofRow
        generalize ws[i].2.2.2.take k ++ rs[kk].2.2.drop k = nl at *
        have S : Sat w0 w3 ([stA 145 b2 [.slice A2 rs.length c2, .slice none 0 0], stA 145 b [.slice As ss.length cs, .slice Aw ws.length cw], rvA 45 1 As cs ss.length (ss.flatMap secV), rvA 45 1 A2 c2 rs.length (rs.flatMap secV), rvA 152 2 Aw cw ws.length (ws.flatMap waitV)] ++ (rows ((rs[kk].1, rs[kk].2.1, nl) :: T.eraseIdx kk) ++ R)) := S.perm (List.perm_middle (l₁ := [stA 145 b2 [.slice A2 rs.length c2, .slice none 0 0], stA 145 b [.slice As ss.length cs, .slice Aw ws.length cw], rvA 45 1 As cs ss.length (ss.flatMap secV), rvA 45 1 A2 c2 rs.length (rs.flatMap secV), rvA 152 2 Aw cw ws.length (ws.flatMap waitV)])).symm
        have S := rows_perm _ (hput (rs[kk].1, rs[kk].2.1, nl)) S
        rw [hset, ← sec_same rs hkl (r := (rs[kk].1, rs[kk].2.1, nl)) (show Value.slice rs[kk].1 nl.length rs[kk].2.1 = _ by rw [hml]; rfl)] at S
        have eln : rs.length = (rs.set kk ((rs[kk].1, rs[kk].2.1, nl) : Rw)).length := (List.length_set ..).symm
        refine ⟨rs.set kk ((rs[kk].1, rs[kk].2.1, nl) : Rw), by rw [← eln]; exact hrl, fun j hj => ?_, by rw [List.map_set], fr.sub ⟨rfl, rfl, rfl, rfl, rfl, trivial⟩, by rw [← eln]; exact S⟩
        rw [List.getElem_set]
        split
        · show nl.length = 64
          rw [hml]; exact h64k
        · exact hr64 j (by rw [← eln] at hj; exact hj)
      have fr := fr.bool (d := 64) rfl (decide_eq_true (show (k : Int) < (n : Int) by omega))
      obtain ⟨⟨g2, hA2, -⟩, hv2⟩ := el_wf secV_len S 4 rfl hkl
      obtain ⟨⟨gw, hAw, -⟩, hvw⟩ := el_wf waitV_len S 5 rfl hlt
      skip; (repeat (with_reducible refine wp_seq ?_))
      refine cw_t fr rfl ?_
      refine wp_skip ?_
      (with_reducible refine then_n ?_)
      skip; (repeat (with_reducible refine wp_seq ?_))
      refine wp_block ?_
      skip; (repeat (with_reducible refine wp_seq ?_))
      refine wp_region_ph [] [26, 27] [] [] [.one (0, true, some 67), .one (1, true, some 68), .one (2, true, some 69), .one (3, true, some 70), .one (4, true, some 71), .one (5, true, some 72), .one (6, true, some 73), .one (7, true, some 74), .one (8, true, some 75), .one (9, true, some 76), .one (10, true, some 77), .one (11, true, some 78), .one (12, true, some 79), .one (13, true, some 80), .one (14, true, some 81), .one (15, true, some 82), .one (16, true, some 83), .one (17, true, some 84), .one (18, true, some 85), .one (19, true, some 86), .one (20, true, some 87), .one (21, true, some 88), .one (22, true, some 89), .one (23, true, some 90), .one (24, true, some 91), .one (25, true, some 92)] [.one ⟨true, some 67, (Go.Op.move (Go.Operand.tmp 8)), 28, none⟩,
    .one ⟨true, some 68, (Go.Op.nilCheck (Go.Operand.tmp 67)), 0, none⟩,
    .one ⟨true, some 69, (Go.Op.fieldAddr 145 (Go.Operand.tmp 68) 0), 0, none⟩,
    .one ⟨true, some 70, (Go.Op.load 66 (Go.Operand.tmp 69)), 66, none⟩,
    .one ⟨true, some 71, (Go.Op.move (Go.Operand.tmp 0)), 28, none⟩,
    .one ⟨true, some 72, (Go.Op.nilCheck (Go.Operand.tmp 71)), 0, none⟩,
    .one ⟨true, some 73, (Go.Op.fieldAddr 145 (Go.Operand.tmp 72) 1), 0, none⟩,
    .one ⟨true, some 74, (Go.Op.load 143 (Go.Operand.tmp 73)), 143, none⟩,
    .one ⟨true, some 75, (Go.Op.move (Go.Operand.tmp 10)), 3, none⟩,
    .one ⟨true, some 76, (Go.Op.indexAddr 143 (Go.Operand.tmp 74) (Go.Operand.tmp 75)), 0, none⟩,
    .one ⟨true, some 77, (Go.Op.fieldAddr 152 (Go.Operand.tmp 76) 0), 0, none⟩,
    .one ⟨true, some 78, (Go.Op.load 3 (Go.Operand.tmp 77)), 3, none⟩,
    .one ⟨true, some 79, (Go.Op.indexAddr 66 (Go.Operand.tmp 70) (Go.Operand.tmp 78)), 0, none⟩,
    .one ⟨true, some 80, (Go.Op.load 45 (Go.Operand.tmp 79)), 45, none⟩,
    .one ⟨true, some 81, (Go.Op.move (Go.Operand.tmp 12)), 3, none⟩,
    .one ⟨true, some 82, (Go.Op.move (Go.Operand.tmp 0)), 28, none⟩,
    .one ⟨true, some 83, (Go.Op.nilCheck (Go.Operand.tmp 82)), 0, none⟩,
    .one ⟨true, some 84, (Go.Op.fieldAddr 145 (Go.Operand.tmp 83) 1), 0, none⟩,
    .one ⟨true, some 85, (Go.Op.load 143 (Go.Operand.tmp 84)), 143, none⟩,
    .one ⟨true, some 86, (Go.Op.move (Go.Operand.tmp 10)), 3, none⟩,
    .one ⟨true, some 87, (Go.Op.indexAddr 143 (Go.Operand.tmp 85) (Go.Operand.tmp 86)), 0, none⟩,
    .one ⟨true, some 88, (Go.Op.fieldAddr 152 (Go.Operand.tmp 87) 1), 0, none⟩,
    .one ⟨true, some 89, (Go.Op.load 45 (Go.Operand.tmp 88)), 45, none⟩,
    .one ⟨true, some 90, (Go.Op.move (Go.Operand.tmp 12)), 3, none⟩,
    .one ⟨true, some 91, (Go.Op.indexAddr 45 (Go.Operand.tmp 89) (Go.Operand.tmp 90)), 0, none⟩,
    .one ⟨true, some 92, (Go.Op.load 5 (Go.Operand.tmp 91)), 5, none⟩] [.one (26, true, some 93), .one (27, false, none)] [.one ⟨true, some 93, (Go.Op.indexAddr 45 (Go.Operand.tmp 80) (Go.Operand.tmp 81)), 0, none⟩,
    .one ⟨false, none, (Go.Op.store 5 (Go.Operand.tmp 93) (Go.Operand.tmp 92)), 0, none⟩] (fun v => Sat w0 v (stA 145 b2 [.slice A2 rs.length c2, .slice none 0 0] :: stA 145 b [.slice As ss.length cs, .slice Aw ws.length cw] :: rvA 45 1 As cs ss.length (ss.flatMap secV) :: rvA 45 1 A2 c2 rs.length (rs.flatMap secV) :: rvA 152 2 Aw cw ws.length (ws.flatMap waitV) :: rows (T.eraseIdx kk))) (fun v => Sat w0 v []) rfl (by kernel_rfl) (by kernel_rfl) (by kernel_rfl) (by kernel_rfl) (S.drew.tl.firsts (_ :: _ :: _ :: _ :: _ :: rows (T.eraseIdx kk))) (fun _ S => S.firsts []) ?_
      have S := S.drew
      have hS' := S.tl.firsts (_ :: _ :: _ :: _ :: _ :: rows (T.eraseIdx kk))
      refine sl_next ?_
      refine sl_run orcDq_ok 3 rfl fr fun a fr => ?_
      refine sl_ldf orcDq_ok (fun _ S => Sat.stAt S 0 rfl (j := 0) rfl) fr rfl rfl rfl rfl rfl rfl rfl rfl hS' fun a fr => ?_
      have fr := fr.spell (d := 70) rfl (congrArg (fun z => Value.slice z rs.length c2) hA2)
      refine sl_run orcDq_ok 3 rfl fr fun a fr => ?_
      refine sl_ldf orcDq_ok (fun _ S => Sat.stAt S 1 rfl (j := 1) rfl) fr rfl rfl rfl rfl rfl rfl rfl rfl hS' fun a fr => ?_
      have fr := fr.spell (d := 74) rfl (congrArg (fun z => Value.slice z ws.length cw) hAw)
      refine sl_run orcDq_ok 1 rfl fr fun a fr => ?_
      refine sl_q fr rfl rfl rfl rfl (fun w' _ => indexAddr_run orcDq_ok fr rfl rfl rfl rfl rfl (Int.natCast_nonneg _) (show (i : Int) < ((ws.length : Nat) : Int) by omega) w') rfl fun a fr => ?_
      refine sl_run orcDq_ok 1 rfl fr fun a fr => ?_
      refine sl_ldf orcDq_ok (v := .int .i64 ws[i].1) (fun _ S => ⟨elem_cell (j := 0) (el_rngA waitV_len hAw S 4 rfl hlt) rfl, hvw _ List.mem_cons_self⟩) fr rfl rfl rfl rfl rfl rfl rfl rfl hS' fun a fr => ?_
      have fr := fr.spell (d := 78) rfl (congrArg (Value.int .i64) hkk)
      refine sl_q fr rfl rfl rfl rfl (fun w' _ => indexAddr_run orcDq_ok fr rfl rfl rfl rfl rfl (Int.natCast_nonneg _) (show (kk : Int) < ((rs.length : Nat) : Int) by omega) w') rfl fun a fr => ?_
      refine sl_ldf orcDq_ok (v := rwV rs[kk]) (fun _ S => ⟨elem_cell (j := 0) (el_rngA secV_len hA2 S 3 rfl hkl) rfl, hv2 _ (List.mem_singleton.2 rfl)⟩) fr rfl rfl rfl rfl rfl rfl rfl rfl hS' fun a fr => ?_
      refine sl_run orcDq_ok 4 rfl fr fun a fr => ?_
      refine sl_ldf orcDq_ok (fun _ S => Sat.stAt S 1 rfl (j := 1) rfl) fr rfl rfl rfl rfl rfl rfl rfl rfl hS' fun a fr => ?_
      have fr := fr.spell (d := 85) rfl (congrArg (fun z => Value.slice z ws.length cw) hAw)
      refine sl_run orcDq_ok 1 rfl fr fun a fr => ?_
      refine sl_q fr rfl rfl rfl rfl (fun w' _ => indexAddr_run orcDq_ok fr rfl rfl rfl rfl rfl (Int.natCast_nonneg _) (show (i : Int) < ((ws.length : Nat) : Int) by omega) w') rfl fun a fr => ?_
      refine sl_run orcDq_ok 1 rfl fr fun a fr => ?_
      refine sl_ldf orcDq_ok (v := rwV ws[i].2) (fun _ S => ⟨elem_cell (j := 1) (el_rngA waitV_len hAw S 4 rfl hlt) rfl, hvw _ (List.mem_cons_of_mem _ List.mem_cons_self)⟩) fr rfl rfl rfl rfl rfl rfl rfl rfl hS' fun a fr => ?_
      refine sl_run orcDq_ok 1 rfl fr fun a fr => ?_
      refine sl_ld orcDq_ok (fun v (S : Sat w0 v (stA 145 b2 [.slice A2 rs.length c2, .slice none 0 0] :: stA 145 b [.slice As ss.length cs, .slice Aw ws.length cw] :: rvA 45 1 As cs ss.length (ss.flatMap secV) :: rvA 45 1 A2 c2 rs.length (rs.flatMap secV) :: rvA 152 2 Aw cw ws.length (ws.flatMap waitV) :: rows (T.eraseIdx kk))) => by
        have h := (row_at (R := []) [_, _, _, _, _] (by rw [List.append_nil]; exact S) hj3).1
        rw [ej3] at h
        exact h) fr rfl rfl rfl rfl rfl rfl rfl rfl rfl rfl rfl rfl rfl rfl rfl rfl rfl rfl ⟨by omega, by omega⟩ hS' fun a fr => ?_
      refine sl_next ?_
      refine sl_pe orcDq_ok (Sat.rowAt S 0 rfl) fr rfl rfl rfl rfl rfl rfl rfl rfl rfl hml.symm ⟨by omega, by rw [hml]; omega⟩ fun a fr => ?_
      refine sl_str orcDq_ok fr rfl rfl rfl rfl rfl rfl rfl S ⟨by omega, by omega⟩ ?_
      intro w4 S
      refine ⟨S.firsts [], ?_⟩
      refine sl_end ?_
      rw [Int.toNat_natCast, mix_set (by omega) (by omega)] at S
      (repeat (first | (with_reducible refine then_n ?_) | (with_reducible refine blk_n ?_) | (with_reducible refine ng_n ?_)))
      skip; (repeat (with_reducible refine wp_seq ?_)); refine wp_region_lit ?_
      refine wl_run orcDq_ok 3 rfl fr fun a fr => ?_
      refine wpList_nil ?_; (repeat (with_reducible refine then_n ?_))
      have fr := fr.spell (d := 12) rfl (congrArg (Value.int .i64) (i64_next hkl2 (by omega)))
      exact ⟨k + 1, by omega, by omega, fr.sub ⟨rfl, rfl, rfl, rfl, rfl, rfl, rfl, trivial⟩, S⟩
    clear fr S
    rintro a w2 ⟨rs', hr1, hr2, hr3, fr, S⟩
    rw [← hr3] at hFi
    skip; (repeat (with_reducible refine wp_seq ?_)); refine wp_region_lit ?_
    refine wl_run orcDq_ok 1 rfl fr fun a fr => ?_
    refine wl_pv orcDq_ok fr rfl rfl rfl (po_quo rfl rfl rfl (by decide)) fun a fr => ?_
    refine wl_run orcDq_ok 1 rfl fr fun a fr => ?_
    refine wpList_nil ?_; (repeat (with_reducible refine then_n ?_))
    (repeat (first | (with_reducible refine then_n ?_) | (with_reducible refine blk_n ?_) | (with_reducible refine ng_n ?_)))
    skip; (repeat (with_reducible refine wp_seq ?_)); refine wp_region_lit ?_
    refine wl_run orcDq_ok 3 rfl fr fun a fr => ?_
    refine wpList_nil ?_; (repeat (with_reducible refine then_n ?_))
    have fr := fr.spell (d := 10) rfl (congrArg (Value.int .i64) (i64_next hlt (by omega)))
    exact ⟨i + 1, _, rs', by omega, by omega, fr.int (d := 1) rfl, hr1, hr2, hFi, fr.sub ⟨rfl, rfl, rfl, rfl, rfl, trivial⟩, S⟩
  clear fr S
  rintro a w2 ⟨rs, hrF, fr, S⟩
  (repeat (with_reducible refine then_n ?_))
  skip; (repeat (with_reducible refine wp_seq ?_)); refine wp_region_lit ?_
  refine wl_run orcDq_ok 3 rfl fr fun a fr => ?_
  refine wpList_nil ?_; (repeat (with_reducible refine then_n ?_))
  refine wp_ret ?_
  skip; (repeat (first | (with_reducible refine then_r ?_) | (with_reducible refine blk_r ?_) | (with_reducible refine ng_r ?_)))
  refine ret2 fr rfl rfl rfl ?_
  refine ⟨b2, rfl, ?_⟩
  have S := rv_nil 152 2 S
  have e1 : rows (rs ++ (ss ++ ws.map (·.2))) ++ R = rows rs ++ (rows (ss ++ ws.map (·.2)) ++ R) := by simp [rows]
  rw [e1] at S
  have S := ((((S.frontAt 4 rfl).frontAt 2 rfl).frontAt 5 rfl).frontAt 5 rfl).frontAt 5 rfl
  have S : Sat w0 w2 ([stA 145 b [.slice As ss.length cs, .slice Aw ws.length cw], rvA 45 1 As cs ss.length (ss.flatMap secV), rvA 152 2 Aw cw ws.length (ws.flatMap waitV)] ++ ((stA 145 b2 [.slice A2 rs.length c2, .slice none 0 0] :: rvA 45 1 A2 c2 rs.length (rs.flatMap secV) :: rvA 152 2 none 0 0 [] :: rows rs) ++ (rows (ss ++ ws.map (·.2)) ++ R))) := S
  have S := S.perm (List.Perm.append_left _ (swapL _ _ _))
  have S := Sat.toDd (R := (stA 145 b2 [.slice A2 rs.length c2, .slice none 0 0] :: rvA 45 1 A2 c2 rs.length (rs.flatMap secV) :: rvA 152 2 none 0 0 [] :: rows rs) ++ R) hp S
  have S := S.perm (List.perm_middle (l₁ := stA 145 b2 [.slice A2 rs.length c2, .slice none 0 0] :: rvA 45 1 A2 c2 rs.length (rs.flatMap secV) :: rvA 152 2 none 0 0 [] :: rows rs)).symm
  have S : Sat w0 w2 (stA 145 b2 [.slice A2 rs.length c2, .slice none ([] : List (Int × Rw)).length 0] :: rvA 45 1 A2 c2 rs.length (rs.flatMap secV) :: rvA 152 2 none 0 ([] : List (Int × Rw)).length (([] : List (Int × Rw)).flatMap waitV) :: (rows (rs ++ ([] : List (Int × Rw)).map (·.2)) ++ (ddkA b D :: R))) := by
    rw [List.map_nil, List.append_nil]
    exact S
  exact Sat.toDd (D := (F, [])) ⟨hrF, rfl⟩ S
end
end Go.Proofs.YticnjkdaccacaaaGreatDoor.Sx
end
