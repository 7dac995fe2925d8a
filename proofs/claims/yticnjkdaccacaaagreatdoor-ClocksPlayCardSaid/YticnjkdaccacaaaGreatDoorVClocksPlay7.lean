/- Texts of this work, one behind the other. -/
import Derived.Test.YticnjkdaccacaaaGreatDoorVClocksPlay6
import Derived.Test.YticnjkdaccacaaaGreatDoorProg
import Derived.IntWalk
section
/- A region that draws its order, some operations of which may come up in several orders: by what holds when so many of them have come up. -/
namespace Go.Proofs.YticnjkdaccacaaaGreatDoor.Sx
open Go Go.RowKit Base Own

/-- So many of them have come up: which, and which may come up next (each with what it leads to). -/
structure Pn where
  key : Nat
  fl : Array Bool
  js : List (Nat × Option Tmp × Nat)
def cntF (l : Array Bool) : Nat := l.toList.count false
def endI (I : Act → World → Prop) (e : Exit) (a : Act) (w : World) : Prop := e = .normal ∧ I a w
section
variable {P : Program} {ops : Array Oper} {Q : Exit → Act → World → Prop} {S : World → Prop}
def okNode (ops : Array Oper) (all : List Pn) (lf : Array Bool) (kf : Nat) (nd : Pn) : Bool :=
  (Region.ready .any ops nd.fl == nd.js.map (·.1)) && !nd.js.isEmpty && nd.js.all fun x =>
    (cntF nd.fl == cntF (nd.fl.setIfInBounds x.1 true) + 1) && ((x.2.2 == kf && nd.fl.setIfInBounds x.1 true == lf) || all.any fun m => m.key == x.2.2 && m.fl == nd.fl.setIfInBounds x.1 true)
def stripJ (ops : Array Oper) : List (Nat × Option Tmp × Nat) → Option (List (SOp × Nat))
  | [] => some []
  | (j, N, k) :: r => (strip ops (j, false, N)).bind fun s => if s.g.isNone && ((ops[j]?).map (·.dst) == some N) then (stripJ ops r).map ((s, k) :: ·) else none
def stripP (ops : Array Oper) : List Pn → Option (List (Nat × List (SOp × Nat)))
  | [] => some []
  | nd :: r => (stripJ ops nd.js).bind fun l => (stripP ops r).map ((nd.key, l) :: ·)
def PJ (P : Program) (S : World → Prop) (I : Nat → Act → World → Prop) (k : Nat) : List (SOp × Nat) → Prop
  | [] => True
  | (s, k') :: r => (∀ a w, S w → I k a w → SL P (endI (I k')) S [.one s] a w) ∧ PJ P S I k r
def PSteps (P : Program) (S : World → Prop) (I : Nat → Act → World → Prop) : List (Nat × List (SOp × Nat)) → Prop
  | [] => True
  | (k, l) :: r => PJ P S I k l ∧ PSteps P S I r
theorem pj_at {I : Nat → Act → World → Prop} {k : Nat} : ∀ {js : List (Nat × Option Tmp × Nat)} {l : List (SOp × Nat)}, stripJ ops js = some l → PJ P S I k l → ∀ x ∈ js, ∃ o, ops[x.1]? = some o ∧ (∀ t, Region.wanted o t = true) ∧
    ∀ a w, S w → I k a w → ∀ K : Act → World → Prop, (∀ a' w', S w' → I x.2.2 a' w' → K a' w') → Oper.wp P o a w K (fun _ _ _ => False) := by
  intro js
  induction js with
  | nil => intro l _ _ x hx; cases hx
  | cons y js ih =>
    obtain ⟨j, N, k'⟩ := y
    intro l hl hp x hx
    simp only [stripJ, Option.bind_eq_some_iff] at hl
    obtain ⟨s, hs, hl⟩ := hl
    split at hl
    case isFalse => cases hl
    rename_i hg
    rw [Option.map_eq_some_iff] at hl
    obtain ⟨l', hl', rfl⟩ := hl
    simp only [Bool.and_eq_true, Option.isNone_iff_eq_none, beq_iff_eq] at hg
    rcases List.mem_cons.1 hx with rfl | hx
    · cases ho : ops[j]? with
      | none => rw [ho] at hg; simp at hg
      | some o =>
        rw [ho] at hg
        have hd : o.dst = N := by simpa using hg.2
        have hgo : o.guard = none := by
          have hs' := hs
          unfold strip at hs'
          rw [ho] at hs'
          simp only [Option.bind_some] at hs'
          cases hgg : o.guard with
          | none => rfl
          | some g =>
            rw [hgg] at hs'
            simp only [Option.map_eq_some_iff] at hs'
            obtain ⟨t', _, rfl⟩ := hs'
            exact absurd hg.1 (by simp)
        refine ⟨o, rfl, fun t => by simp [Region.wanted, hgo], fun a w hS hI K hK => ?_⟩
        obtain ⟨_, hq, hsd, hop, hty⟩ := strip_wanted (x := (j, false, N)) ho hs a.tmps
        rcases hp.1 a w hS hI with ⟨h1, _, _⟩ | ⟨_, h2, _⟩ | ⟨_, _, h3⟩
        · have : s.wanted a.tmps = true := by simp [SOp.wanted, hg.1]
          rw [this] at h1; cases h1
        · have h2' : s.q = true := h2
          rw [hq] at h2'; cases h2'
        · exact oper_same hop hty (hsd.trans hd.symm) (h3 K fun a' w' hS' hh => hK a' w' hS' hh.2)
    · exact ih hl' hp.2 x hx
theorem psteps_at {I : Nat → Act → World → Prop} : ∀ {nodes : List Pn} {L : List (Nat × List (SOp × Nat))}, stripP ops nodes = some L → PSteps P S I L → ∀ nd ∈ nodes, ∃ l, stripJ ops nd.js = some l ∧ PJ P S I nd.key l := by
  intro nodes
  induction nodes with
  | nil => intro L _ _ nd h; cases h
  | cons n nodes ih =>
    intro L hL hp nd hnd
    simp only [stripP, Option.bind_eq_some_iff, Option.map_eq_some_iff] at hL
    obtain ⟨l, hl, L', hL', rfl⟩ := hL
    rcases List.mem_cons.1 hnd with rfl | hnd
    · exact ⟨l, hl, hp.1⟩
    · exact ih hL' hp.2 nd hnd
theorem pool_held {I : Nat → Act → World → Prop} {nodes : List Pn} {lf : Array Bool} {kf : Nat} {L : List (Nat × List (SOp × Nat))} (hall : nodes.all (okNode ops nodes lf kf) = true) (hL : stripP ops nodes = some L) (hs : PSteps P S I L)
    (hfin : ∀ a w, S w → I kf a w → wpAnyH P .any ops (np Q) S (cntF lf) lf a w) : ∀ (n : Nat) (nd : Pn), nd ∈ nodes → cntF nd.fl = n → ∀ a w, S w → I nd.key a w → wpAnyH P .any ops (np Q) S n nd.fl a w := by
  intro n
  induction n with
  | zero =>
    intro nd hnd hc a w hS hI
    have hok := List.all_eq_true.1 hall nd hnd
    unfold okNode at hok
    simp only [Bool.and_eq_true, List.all_eq_true, beq_iff_eq, Bool.not_eq_true', List.isEmpty_eq_false_iff] at hok
    obtain ⟨⟨h1, h2⟩, h3⟩ := hok
    obtain ⟨x, hx⟩ := List.exists_mem_of_ne_nil _ h2
    have := (h3 x hx).1
    omega
  | succ n ih =>
    intro nd hnd hc a w hS hI
    have hok := List.all_eq_true.1 hall nd hnd
    unfold okNode at hok
    simp only [Bool.and_eq_true, List.all_eq_true, beq_iff_eq, Bool.not_eq_true', List.isEmpty_eq_false_iff] at hok
    obtain ⟨⟨h1, h2⟩, h3⟩ := hok
    obtain ⟨l, hl, hj⟩ := psteps_at hL hs nd hnd
    refine wpAnyH_all h1 (by simpa using h2) fun i hi => ?_
    obtain ⟨x, hx, rfl⟩ := List.mem_map.1 hi
    obtain ⟨o, ho, hw, hstep⟩ := pj_at hl hj x hx
    have h4 := h3 x hx
    simp only [Bool.or_eq_true, Bool.and_eq_true, beq_iff_eq, List.any_eq_true] at h4
    obtain ⟨h5, h6⟩ := h4
    refine wpOp_of ho hw (hstep a w hS hI _ fun a' w' hS' hI' => ⟨hS', ?_⟩)
    rcases h6 with ⟨h7, h8⟩ | ⟨m, hm, h7, h8⟩
    · rw [h8]
      rw [h8] at h5
      have := hfin a' w' hS' (by rw [← h7]; exact hI')
      rwa [show cntF lf = n by omega] at this
    · rw [← h8]
      rw [← h8] at h5
      exact ih m hm (by omega) a' w' hS' (by rw [h7]; exact hI')
def flagsB : Array Bool → List Sg → Array Bool
  | l, [] => l
  | l, .one (i, _, _) :: r => flagsB (l.setIfInBounds i true) r
  | l, .two i j _ _ :: r => flagsB ((l.setIfInBounds i true).setIfInBounds j true) r
def okPre (ops : Array Oper) : Array Bool → List Sg → Bool
  | _, [] => true
  | l, .one (i, true, _) :: r => Region.free .any ops l i && (Region.ready .any ops l).contains i && okPre ops (l.setIfInBounds i true) r
  | _, _ => false
theorem pre_held (hsel : Region.noSelect ops = true) {Q0 : Exit → Act → World → Prop} {n : Nat} : ∀ (σ : List Sg) (l : Array Bool) (a : Act) (w : World), okPre ops l σ = true → S w → (∀ a w, S w → Q0 .normal a w → wpAnyH P .any ops (np Q) S n (flagsB l σ) a w) → Sched P ops Q0 S σ a w →
    wpAnyH P .any ops (np Q) S (n + cost σ) l a w := by
  intro σ
  induction σ with
  | nil => intro l a w _ hS hf h; exact hf a w hS h
  | cons x r ih =>
    intro l a w hok hS hf h
    cases x with
    | two i j N M => simp [okPre] at hok
    | one x =>
      obtain ⟨i, b, N⟩ := x
      cases b with
      | false => simp [okPre] at hok
      | true =>
        obtain ⟨o, v, ho, rfl, hy, h⟩ := h
        simp only [okPre, Bool.and_eq_true] at hok
        exact wpAnyH_take ho hsel hok.1.1 hok.1.2 (fun _ _ _ hp => hp) hy hS (ih _ _ _ hok.2 hS hf h)
/-- The beginning: what only yields; the pool; what stands behind it. -/
theorem wp_region_pool {id : Nat} {a : Act} {w : World} (I : Nat → Act → World → Prop) (σ0 : List Sg) (L0 : List Itm) (nodes : List Pn) (n0 : Pn) (L : List (Nat × List (SOp × Nat))) (lf : Array Bool) (kf : Nat) (σ1 : List Sg) (L1 : List Itm) (S : World → Prop) (hm : P.follows .mixedOrders = true)
    (hok : (Region.noSelect ops && okPre ops (Array.replicate ops.size false) σ0 && (flagsB (Array.replicate ops.size false) σ0 == n0.fl) && (ops.size == cntF n0.fl + cost σ0) && (cntF lf == cost σ1) && okS ops lf σ1 && dstsOk ops σ0 && dstsOk ops σ1) = true)
    (hn0 : n0 ∈ nodes) (hall : nodes.all (okNode ops nodes lf kf) = true) (hL0 : strips ops σ0 = some L0) (hL : stripP ops nodes = some L) (hL1 : strips ops σ1 = some L1) (hS : S w.drew)
    (h0 : SL P (endI (I n0.key)) S L0 a w.drew) (hs : PSteps P S I L) (h1 : ∀ a w, S w → I kf a w → SL P Q S L1 a w) : (Code.region id ops true).wp P Q a w := by
  simp only [Bool.and_eq_true, beq_iff_eq] at hok
  obtain ⟨⟨⟨⟨⟨⟨⟨q1, q2⟩, q3⟩, q4⟩, q5⟩, q6⟩, q7⟩, q8⟩ := hok
  refine np_mono (wp_region_held (S := S) hm ?_)
  rw [q4] at *
  have key := pre_held (P := P) (S := S) (Q := Q) (n := cntF n0.fl) q1 σ0 (Array.replicate (cntF n0.fl + cost σ0) false) a w.drew (by rw [← q4] at q2 ⊢; exact q2) hS (Q0 := endI (I n0.key)) (fun a' w' hS' hq => by
    have e : flagsB (Array.replicate (cntF n0.fl + cost σ0) false) σ0 = n0.fl := q3
    rw [e]
    refine pool_held hall hL hs (fun a'' w'' hS'' hI => ?_) _ n0 hn0 rfl a' w' hS' hq.2
    rw [q5]
    exact sched_held q1 σ1 lf a'' w'' q6 hS'' (sl_sched σ1 L1 a'' w'' hL1 q8 (h1 a'' w'' hS'' hI))) (sl_sched σ0 L0 a _ hL0 q7 h0)
  exact key
end
end Go.Proofs.YticnjkdaccacaaaGreatDoor.Sx
end
section
/- The document's clock (concordatref09): a row of those that are set; its calls. -/
namespace Go.Proofs.YticnjkdaccacaaaGreatDoor.Sx
open Go Go.RowKit Base Own OwnV

theorem vok1_c {v : Value} {vs : List Value} (h : vok1 v = true) (h2 : vs.all vok1 = true) : (v :: vs).all vok1 = true := by rw [List.all_cons, h, h2]; rfl
theorem vok1_ag {vs : List Value} (h : vs.all vok1 = true) : vok (.agg vs.toArray) = true := h
/-- A struct's variable, written over whole. -/
theorem wl_stu {P : Program} {T : Orc} {ops : Array Oper} {Q : Exit → Act → World → Prop} {Df : List Deferred} {N : Nat} {a : Act} {w w0 : World} {L : Env} {R : List Asn} (hT : T.Ok P) {o : Oper} {rest : List Oper} {te : TypeId} {p v : Operand} {b e' : Nat} {cs vs : List Value} (fr : FrD Df N a L) (hw : wantL ops L o = some true) (hd : o.dst = none) (ho : o.op = .store te p v) (hp : ev L p = some (.pointer (some ⟨b, 0, none⟩))) (hv : ev L v = some (.agg vs.toArray)) (hs : T.sz.lookup te = some vs.length)
    (hl : cs.length = vs.length) (h1 : vs.all (fun v => v.oneCell') = true) (h2 : vs.all vok = true) (S : Sat w0 w (stA e' b cs :: R)) (h : ∀ w', Sat w0 w' (stA e' b vs :: R) → wpList P ops Q rest a w') : wpList P ops Q (o :: rest) a w := by
  refine wl_stg hT fr hw hd ho hp hv hs hl ?_ S h
  rw [List.all_eq_true] at h1 h2 ⊢
  exact fun x hx => by rw [h1 x hx, h2 x hx]; rfl
def orcQ : Orc := ⟨[(3, .int .i64), (4, .bool), (86, .int .u32), (25, .int .i64), (91, .slice 86), (171, .struct #[Go.Field.mk "id" 86 0 false "" "concordat/concordatref09" 0, Go.Field.mk "left" 3 1 false "" "concordat/concordatref09" 8]), (83, .slice 171), (85, .struct #[Go.Field.mk "l" 83 0 false "" "concordat/concordatref09" 0]), (82, .pointer 85)],
  [(3, 1), (4, 1), (86, 1), (25, 1), (91, 1), (171, 2), (83, 1), (85, 1), (82, 1)]⟩
theorem orcQ_ok : orcQ.Ok Tryz.prog := ⟨⟨Tryz.underlying3, Tryz.underlying4, Tryz.underlying86, Tryz.underlying25, Tryz.underlying91, Tryz.underlying171, Tryz.underlying83, Tryz.underlying85, Tryz.underlying82, trivial⟩, ⟨by kernel_rfl, by kernel_rfl, by kernel_rfl, by kernel_rfl, by kernel_rfl, by kernel_rfl, by kernel_rfl, by kernel_rfl, by kernel_rfl, trivial⟩⟩
theorem enQat : Enters Tryz.prog 129 := fun _ _ => by kernel_rfl
theorem enQclear : Enters Tryz.prog 42 := fun _ _ => by kernel_rfl
theorem rowQ : RowTy Tryz.prog 91 86 .u32 := ⟨Tryz.underlying91, 4, by decide, by kernel_rfl⟩
theorem infoQ : (Tryz.prog.info? 171).map (fun i => (i.zero.map (·.cells.size), i.size, i.bytes)) = some (some 2, 2, 16) := by kernel_rfl
theorem zeroSet : ∀ W, (zeroValue 171).run Tryz.prog W = .ok (.agg ([.int .u32 0, .int .i64 0] : List Value).toArray) W := fun _ => by kernel_rfl
abbrev QM := List (Int × Int)
def setV (p : Int × Int) : List Value := [.int .u32 p.1, .int .i64 p.2]
theorem setV_len (p : Int × Int) : (setV p).length = 2 := rfl
def atM (m : QM) (id : Int) : Option Nat := m.findIdx? fun p => p.1 == id
def atI (m : QM) (id : Int) : Int := match atM m id with | some i => i | none => -1
def clearM (m : QM) (id : Int) : QM := match atM m id with | some k => m.take k ++ m.drop (k + 1) | none => m
def clearE (m : QM) (id : Int) : Int := match atM m id with | some _ => 0 | none => 6
def leadM (m : QM) (id : Int) : Nat := (m.takeWhile fun p => decide (p.1 < id)).length
def setE (ticks : Int) : Int := if ticks < 1 ∨ ticks > 1073741824 then 1 else 0
def setM (m : QM) (id ticks : Int) : QM := if ticks < 1 ∨ ticks > 1073741824 then m else (clearM m id).take (leadM (clearM m id) id) ++ [(id, ticks)] ++ (clearM m id).drop (leadM (clearM m id) id)
def lessM (m : QM) : QM := m.map fun p => (p.1, IntKind.wrap .i64 (p.2 - 1))
def toldM (m : QM) : List Int := ((lessM m).filter fun p => p.2 == 0).map (·.1)
def restM (m : QM) : QM := (lessM m).filter fun p => !(p.2 == 0)
def leftI (m : QM) (id : Int) : Int := match atM m id with | some k => (m.getD k (0, 0)).2 | none => 0
def leftB (m : QM) (id : Int) : Bool := (atM m id).isSome
def rclkA (b : Nat) (m : QM) : Asn := exA fun p : Option Addr × Nat => sepA (stA 85 b [.slice p.1 m.length p.2]) (rvA 171 2 p.1 p.2 m.length (m.flatMap setV))
section
variable {w w0 : World} {R M : List Asn} {b : Nat} {m : QM} {A : Option Addr} {c : Nat}
theorem Sat.ofClk (S : Sat w0 w (rclkA b m :: R)) : ∃ A c, Sat w0 w (stA 85 b [.slice A m.length c] :: rvA 171 2 A c m.length (m.flatMap setV) :: R) := by
  obtain ⟨⟨A, c⟩, S⟩ := Sat.ofEx S
  exact ⟨A, c, Sat.ofSep S⟩
theorem Sat.toClk (S : Sat w0 w (stA 85 b [.slice A m.length c] :: rvA 171 2 A c m.length (m.flatMap setV) :: R)) : Sat w0 w (rclkA b m :: R) :=
  Sat.toEx (f := fun p : Option Addr × Nat => sepA (stA 85 b [.slice p.1 m.length p.2]) (rvA 171 2 p.1 p.2 m.length (m.flatMap setV))) (A, c) (Sat.toSep S)
theorem Sat.newClk (S : Sat w0 w (stA 85 b [.slice none 0 0] :: R)) : Sat w0 w (rclkA b [] :: R) :=
  Sat.toClk (m := []) (A := none) (c := 0) ((rv_nil 171 2 S).frontAt 1 rfl)
theorem setV_wf (S : Sat w0 w M) (j : Nat) (hj : M[j]? = some (rvA 171 2 A c m.length (m.flatMap setV))) {i : Nat} (hi : i < m.length) : (∃ g, A = some ⟨g, 0, none⟩ ∧ w.rangeAt g (i * 2) (setV m[i])) ∧ (Lit.int .u32 m[i].1).wf = true ∧ (Lit.int .i64 m[i].2).wf = true := by
  obtain ⟨h1, h2, h3, h4, h5⟩ := S.rvAt j hj
  have hget : ∀ q u, (setV m[i])[q]? = some u → (m.flatMap setV)[i * 2 + q]? = some u := fun q u hu => el_get setV_len m i q u hi hu
  refine ⟨?_, h4 _ (List.mem_of_getElem? (hget 0 _ rfl)), h4 _ (List.mem_of_getElem? (hget 1 _ rfl))⟩
  cases A with
  | none => have := h3 rfl; omega
  | some ad =>
    obtain ⟨g, rfl, hr⟩ := h5 ad rfl
    exact ⟨g, rfl, fun q u hu => by have := hr (i * 2 + q) u (hget q u hu); rwa [Nat.zero_add] at this⟩
theorem atM_none {m : QM} {id : Int} (h : ∀ j (hj : j < m.length), m[j].1 ≠ id) : atM m id = none := by
  unfold atM
  rw [List.findIdx?_eq_none_iff]
  intro x hx
  obtain ⟨j, hj, rfl⟩ := List.getElem_of_mem hx
  simpa using h j hj
theorem atM_some {m : QM} {id : Int} {i : Nat} (hi : i < m.length) (h : m[i].1 = id) (hb : ∀ j (hj : j < i), m[j].1 ≠ id) : atM m id = some i := by
  unfold atM
  rw [List.findIdx?_eq_some_iff_getElem]
  exact ⟨hi, by simpa using h, fun j hj => by simpa using hb j hj⟩
theorem atM_lt {m : QM} {id : Int} {i : Nat} (h : atM m id = some i) : i < m.length := by
  unfold atM at h
  rw [List.findIdx?_eq_some_iff_getElem] at h
  exact h.1
set_option maxRecDepth 100000 in
set_option maxHeartbeats 1000000 in
theorem clk_at {id : Int} (hid : (Lit.int .u32 id).wf = true) (hb : m.length ≤ 1000000) (S : Sat w0 w (stA 85 b [.slice A m.length c] :: rvA 171 2 A c m.length (m.flatMap setV) :: R)) :
    Calls Tryz.prog 129 #[.pointer (some ⟨b, 0, none⟩), .int .u32 id] w fun e w' => e = .returned (.int .i64 (atI m id)) ∧ vok (.int .i64 (atI m id)) = true ∧ Sat w0 w' (stA 85 b [.slice A m.length c] :: rvA 171 2 A c m.length (m.flatMap setV) :: R) := by
  refine calls_start (N := 26) [.pointer (some ⟨b, 0, none⟩), .int .u32 id] Tryz.func129 rfl rfl rfl (vok_c rfl (vok_c hid rfl)) fun a fr => ?_
  skip; (repeat (with_reducible refine wp_seq ?_)); refine wp_region_lit ?_
  refine wl_run orcQ_ok 1 rfl fr fun a fr => ?_
  refine wpList_nil ?_; (repeat (with_reducible refine then_n ?_))
  skip; (repeat (with_reducible refine wp_seq ?_)); refine wp_region_lit ?_
  refine wl_run orcQ_ok 1 rfl fr fun a fr => ?_
  refine wpList_nil ?_; (repeat (with_reducible refine then_n ?_))
  skip; (repeat (with_reducible refine wp_seq ?_))
  refine wp_block ?_
  refine cw_loop (fun q a w1 => ∃ i : Nat, i + q = m.length + 1 ∧ i ≤ m.length ∧ (∀ j (hj : j < m.length), j < i → m[j].1 ≠ id) ∧ Fr 26 a [(0, .pointer (some ⟨b, 0, none⟩)), (1, .int .u32 id), (5, .int .i64 (i : Int))] ∧ Sat w0 w1 (stA 85 b [.slice A m.length c] :: rvA 171 2 A c m.length (m.flatMap setV) :: R)) (m.length + 1)
    ⟨0, by omega, by omega, fun j hj h => by omega, fr.sub ⟨rfl, rfl, rfl, trivial⟩, S⟩ ?_ ?_
  · rintro a w1 ⟨i, h, h', -⟩
    omega
  clear fr S
  rintro q a w1 ⟨i, hi, hi', hno, fr, S⟩
  skip; (repeat (with_reducible refine wp_seq ?_)); refine wp_region_lit ?_
  refine wl_run orcQ_ok 4 rfl fr fun a fr => ?_
  refine wl_ldf orcQ_ok (Sat.stAt S 0 rfl (j := 0) rfl) fr rfl rfl rfl rfl rfl rfl rfl fun a fr => ?_
  refine wl_run orcQ_ok 2 rfl fr fun a fr => ?_
  refine wpList_nil ?_; (repeat (with_reducible refine then_n ?_))
  by_cases hlt : i < m.length
  rotate_left
  · have fr := fr.bool (d := 12) rfl (decide_eq_false (show ¬ (i : Int) < (m.length : Int) by omega))
    skip; (repeat (with_reducible refine wp_seq ?_))
    refine cw_f fr rfl ?_
    refine wp_exit ?_
    skip; (repeat (first | (with_reducible refine then_e ?_) | (with_reducible refine ng_e ?_) | (with_reducible refine blk_e (by decide) ?_))); (with_reducible refine blk_y ?_); (repeat (with_reducible refine then_n ?_))
    skip; (repeat (with_reducible refine wp_seq ?_)); refine wp_region_lit ?_
    refine wl_run orcQ_ok 1 rfl fr fun a fr => ?_
    refine wpList_nil ?_; (repeat (with_reducible refine then_n ?_))
    refine wp_ret ?_
    skip; (repeat (first | (with_reducible refine then_r ?_) | (with_reducible refine blk_r ?_) | (with_reducible refine ng_r ?_)))
    refine ret1 fr rfl rfl ?_
    have e : atI m id = -1 := by unfold atI; rw [atM_none fun j hj => hno j hj (by omega)]
    rw [e]
    exact ⟨rfl, rfl, S⟩
  have fr := fr.bool (d := 12) rfl (decide_eq_true (show (i : Int) < (m.length : Int) by omega))
  obtain ⟨⟨g, hA, hr⟩, hw1, hw2⟩ := setV_wf S 1 rfl hlt
  subst hA
  skip; (repeat (with_reducible refine wp_seq ?_))
  refine cw_t fr rfl ?_
  refine wp_skip ?_
  (with_reducible refine then_n ?_)
  skip; (repeat (with_reducible refine wp_seq ?_))
  refine wp_block ?_
  skip; (repeat (with_reducible refine wp_seq ?_)); refine wp_region_lit ?_
  refine wl_run orcQ_ok 3 rfl fr fun a fr => ?_
  refine wl_ldf orcQ_ok (Sat.stAt S 0 rfl (j := 0) rfl) fr rfl rfl rfl rfl rfl rfl rfl fun a fr => ?_
  refine wl_run orcQ_ok 1 rfl fr fun a fr => ?_
  refine wl_val fr rfl rfl rfl (indexAddr_run orcQ_ok fr rfl rfl rfl rfl rfl (Int.natCast_nonneg _) (show (i : Int) < ((m.length : Nat) : Int) by omega) _) rfl fun a fr => ?_
  refine wl_run orcQ_ok 1 rfl fr fun a fr => ?_
  refine wl_ldf orcQ_ok ⟨elem_cell (j := 0) hr rfl, hw1⟩ fr rfl rfl rfl rfl rfl rfl rfl fun a fr => ?_
  refine wl_run orcQ_ok 2 rfl fr fun a fr => ?_
  refine wpList_nil ?_; (repeat (with_reducible refine then_n ?_))
  by_cases he : m[i].1 = id
  · have fr := fr.bool (d := 24) rfl (show (m[i].1 == id) = true by simp [he])
    skip; (repeat (with_reducible refine wp_seq ?_))
    refine cw_t fr rfl ?_
    skip; (repeat (with_reducible refine wp_seq ?_)); refine wp_region_lit ?_
    refine wl_run orcQ_ok 2 rfl fr fun a fr => ?_
    refine wpList_nil ?_; (repeat (with_reducible refine then_n ?_))
    refine wp_ret ?_
    skip; (repeat (first | (with_reducible refine then_r ?_) | (with_reducible refine blk_r ?_) | (with_reducible refine ng_r ?_)))
    have e : atI m id = (i : Int) := by unfold atI; rw [atM_some hlt he fun j hj => hno j (by omega) hj]
    rw [e]
    refine ret1 fr rfl rfl ?_
    exact ⟨rfl, fr.vok (d := 4) rfl, S⟩
  · have fr := fr.bool (d := 24) rfl (show (m[i].1 == id) = false by simp [he])
    skip; (repeat (with_reducible refine wp_seq ?_))
    refine cw_f fr rfl ?_
    refine wp_skip ?_
    (repeat (first | (with_reducible refine then_n ?_) | (with_reducible refine blk_n ?_) | (with_reducible refine ng_n ?_)))
    skip; (repeat (with_reducible refine wp_seq ?_)); refine wp_region_lit ?_
    refine wl_run orcQ_ok 3 rfl fr fun a fr => ?_
    refine wpList_nil ?_; (repeat (with_reducible refine then_n ?_))
    have fr := fr.spell (d := 5) rfl (congrArg (Value.int .i64) (i64_next hlt (by omega)))
    refine ⟨i + 1, by omega, by omega, fun j hj hji => ?_, fr.sub ⟨rfl, rfl, rfl, trivial⟩, S⟩
    by_cases hje : j = i
    · subst hje; exact he
    · exact hno j hj (by omega)
set_option maxRecDepth 100000 in
set_option maxHeartbeats 1000000 in
theorem clk_left {id : Int} (hid : (Lit.int .u32 id).wf = true) (hb : m.length ≤ 1000000) (S : Sat w0 w (rclkA b m :: R)) :
    Calls Tryz.prog 48 #[.pointer (some ⟨b, 0, none⟩), .int .u32 id] w fun e w' => e = .returned (.tuple #[.int .i64 (leftI m id), .bool (leftB m id)]) ∧ vok (.tuple #[.int .i64 (leftI m id), .bool (leftB m id)]) = true ∧ Sat w0 w' (rclkA b m :: R) := by
  obtain ⟨A, c, S⟩ := S.ofClk
  refine calls_start (N := 20) [.pointer (some ⟨b, 0, none⟩), .int .u32 id] Tryz.func48 rfl rfl rfl (vok_c rfl (vok_c hid rfl)) fun a fr => ?_
  skip; (repeat (with_reducible refine wp_seq ?_)); refine wp_region_lit ?_
  refine wl_run orcQ_ok 2 rfl fr fun a fr => ?_
  refine wpList_nil ?_; (repeat (with_reducible refine then_n ?_))
  skip; (repeat (with_reducible refine wp_seq ?_)); refine wp_region_lit ?_
  refine wl_run orcQ_ok 2 rfl fr fun a fr => ?_
  refine wl_call fr rfl rfl rfl rfl enQat (clk_at hid hb S) ?_
  rintro _ w2 ⟨rfl, hv, S⟩
  refine ⟨_, rfl, hv, fun a fr => ?_⟩
  refine wl_run orcQ_ok 1 rfl fr fun a fr => ?_
  refine wpList_nil ?_; (repeat (with_reducible refine then_n ?_))
  skip; (repeat (with_reducible refine wp_seq ?_)); refine wp_region_lit ?_
  refine wl_run orcQ_ok 2 rfl fr fun a fr => ?_
  refine wpList_nil ?_; (repeat (with_reducible refine then_n ?_))
  cases hm : atM m id with
  | none =>
    have e1 : atI m id = -1 := by unfold atI; rw [hm]
    have e2 : leftI m id = 0 := by unfold leftI; rw [hm]
    have e3 : leftB m id = false := by unfold leftB; rw [hm]; rfl
    have fr := fr.bool (d := 11) rfl (show decide (atI m id < 0) = true by rw [e1]; rfl)
    skip; (repeat (with_reducible refine wp_seq ?_))
    refine cw_t fr rfl ?_
    skip; (repeat (with_reducible refine wp_seq ?_)); refine wp_region_lit ?_
    refine wl_run orcQ_ok 2 rfl fr fun a fr => ?_
    refine wpList_nil ?_; (repeat (with_reducible refine then_n ?_))
    refine wp_ret ?_
    skip; (repeat (first | (with_reducible refine then_r ?_) | (with_reducible refine blk_r ?_) | (with_reducible refine ng_r ?_)))
    rw [e2, e3]
    refine ret2 fr rfl rfl rfl ?_
    exact ⟨rfl, rfl, S.toClk⟩
  | some i =>
    have hlt := atM_lt hm
    have e1 : atI m id = (i : Int) := by unfold atI; rw [hm]
    have e2 : leftI m id = m[i].2 := by unfold leftI; rw [hm]; simp only; rw [List.getD_eq_getElem?_getD, List.getElem?_eq_getElem hlt]; rfl
    have e3 : leftB m id = true := by unfold leftB; rw [hm]; rfl
    rw [e1] at fr
    have fr := fr.bool (d := 11) rfl (decide_eq_false (show ¬ (i : Int) < 0 by omega))
    obtain ⟨⟨g, hA, hr⟩, hw1, hw2⟩ := setV_wf S 1 rfl hlt
    subst hA
    skip; (repeat (with_reducible refine wp_seq ?_))
    refine cw_f fr rfl ?_
    refine wp_skip ?_
    (with_reducible refine then_n ?_)
    skip; (repeat (with_reducible refine wp_seq ?_)); refine wp_region_lit ?_
    refine wl_run orcQ_ok 3 rfl fr fun a fr => ?_
    refine wl_ldf orcQ_ok (Sat.stAt S 0 rfl (j := 0) rfl) fr rfl rfl rfl rfl rfl rfl rfl fun a fr => ?_
    refine wl_run orcQ_ok 1 rfl fr fun a fr => ?_
    refine wl_val fr rfl rfl rfl (indexAddr_run orcQ_ok fr rfl rfl rfl rfl rfl (Int.natCast_nonneg _) (show (i : Int) < ((m.length : Nat) : Int) by omega) _) rfl fun a fr => ?_
    refine wl_run orcQ_ok 1 rfl fr fun a fr => ?_
    refine wl_ldf orcQ_ok ⟨elem_cell (j := 1) hr rfl, hw2⟩ fr rfl rfl rfl rfl rfl rfl rfl fun a fr => ?_
    refine wl_run orcQ_ok 2 rfl fr fun a fr => ?_
    refine wpList_nil ?_; (repeat (with_reducible refine then_n ?_))
    refine wp_ret ?_
    skip; (repeat (first | (with_reducible refine then_r ?_) | (with_reducible refine blk_r ?_) | (with_reducible refine ng_r ?_)))
    rw [e2, e3]
    refine ret2 fr rfl rfl rfl ?_
    exact ⟨rfl, vok_tupib fr (d := 4) (e := 5) rfl rfl, S.toClk⟩
/-- The document's clock, less one: its own row goes, the parts go to a new one. -/
theorem flat_one (l : QM) : ∀ u ∈ l.flatMap setV, u.oneCell' = true := by
  intro u hu
  rw [List.mem_flatMap] at hu
  obtain ⟨p, _, hp⟩ := hu
  simp only [setV, List.mem_cons, List.not_mem_nil, or_false] at hp
  rcases hp with rfl | rfl <;> rfl
set_option maxRecDepth 100000 in
set_option maxHeartbeats 1000000 in
theorem clk_clear {id : Int} (hid : (Lit.int .u32 id).wf = true) (hb : m.length ≤ 1000000) (S : Sat w0 w (rclkA b m :: R)) :
    Calls Tryz.prog 42 #[.pointer (some ⟨b, 0, none⟩), .int .u32 id] w fun e w' => e = .returned (.int .i64 (clearE m id)) ∧ vok (.int .i64 (clearE m id)) = true ∧ Sat w0 w' (rclkA b (clearM m id) :: R) := by
  obtain ⟨A, c, S⟩ := S.ofClk
  refine calls_start (N := 32) [.pointer (some ⟨b, 0, none⟩), .int .u32 id] Tryz.func42 rfl rfl rfl (vok_c rfl (vok_c hid rfl)) fun a fr => ?_
  skip; (repeat (with_reducible refine wp_seq ?_)); refine wp_region_lit ?_
  refine wl_run orcQ_ok 1 rfl fr fun a fr => ?_
  refine wpList_nil ?_; (repeat (with_reducible refine then_n ?_))
  skip; (repeat (with_reducible refine wp_seq ?_)); refine wp_region_lit ?_
  refine wl_run orcQ_ok 2 rfl fr fun a fr => ?_
  refine wl_call fr rfl rfl rfl rfl enQat (clk_at hid hb S) ?_
  rintro _ w2 ⟨rfl, hv, S⟩
  refine ⟨_, rfl, hv, fun a fr => ?_⟩
  refine wl_run orcQ_ok 1 rfl fr fun a fr => ?_
  refine wpList_nil ?_; (repeat (with_reducible refine then_n ?_))
  skip; (repeat (with_reducible refine wp_seq ?_)); refine wp_region_lit ?_
  refine wl_run orcQ_ok 2 rfl fr fun a fr => ?_
  refine wpList_nil ?_; (repeat (with_reducible refine then_n ?_))
  cases hm : atM m id with
  | none =>
    have e1 : atI m id = -1 := by unfold atI; rw [hm]
    have e2 : clearE m id = 6 := by unfold clearE; rw [hm]
    have e3 : clearM m id = m := by unfold clearM; rw [hm]
    have fr := fr.bool (d := 11) rfl (show decide (atI m id < 0) = true by rw [e1]; rfl)
    skip; (repeat (with_reducible refine wp_seq ?_))
    refine cw_t fr rfl ?_
    skip; (repeat (with_reducible refine wp_seq ?_)); refine wp_region_lit ?_
    refine wl_run orcQ_ok 1 rfl fr fun a fr => ?_
    refine wpList_nil ?_; (repeat (with_reducible refine then_n ?_))
    refine wp_ret ?_
    skip; (repeat (first | (with_reducible refine then_r ?_) | (with_reducible refine blk_r ?_) | (with_reducible refine ng_r ?_)))
    rw [e2, e3]
    refine ret1 fr rfl rfl ?_
    exact ⟨rfl, rfl, S.toClk⟩
  | some i =>
    have hlt := atM_lt hm
    have e1 : atI m id = (i : Int) := by unfold atI; rw [hm]
    have e2 : clearE m id = 0 := by unfold clearE; rw [hm]
    have e3 : clearM m id = m.take i ++ m.drop (i + 1) := by unfold clearM; rw [hm]
    rw [e1] at fr
    have fr := fr.bool (d := 11) rfl (decide_eq_false (show ¬ (i : Int) < 0 by omega))
    skip; (repeat (with_reducible refine wp_seq ?_))
    refine cw_f fr rfl ?_
    refine wp_skip ?_
    (with_reducible refine then_n ?_)
    skip; (repeat (with_reducible refine wp_seq ?_)); refine wp_region_lit ?_
    refine wl_run orcQ_ok 1 rfl fr fun a fr => ?_
    refine wpList_nil ?_; (repeat (with_reducible refine then_n ?_))
    have S : Sat w0 w2 (rvA 171 2 none 0 0 [] :: stA 85 b [.slice A m.length c] :: rvA 171 2 A c m.length (m.flatMap setV) :: R) := rv_nil 171 2 S
    obtain ⟨r1, r2, r3, r4, r5⟩ := S.rvAt 2 rfl
    skip; (repeat (with_reducible refine wp_seq ?_)); refine wp_region_lit ?_
    refine wl_run orcQ_ok 3 rfl fr fun a fr => ?_
    refine wl_run orcQ_ok 1 rfl fr fun a fr => ?_
    refine wl_ldf orcQ_ok (Sat.stAt S 1 rfl (j := 0) rfl) fr rfl rfl rfl rfl rfl rfl rfl fun a fr => ?_
    refine wl_run orcQ_ok 1 rfl fr fun a fr => ?_
    refine wl_takev orcQ_ok (i := i) fr rfl rfl rfl rfl rfl rfl rfl rfl (by omega) fun a fr => ?_
    have hsub : ∀ u ∈ (m.take i).flatMap setV, u ∈ m.flatMap setV := fun u hu => by rw [el_take setV_len] at hu; exact List.mem_of_mem_take hu
    refine wl_rvappm (m := i) (news := (m.take i).flatMap setV) Tryz.underlying83 infoQ rfl rfl fr rfl rfl rfl rfl rfl rfl (by rw [el_len setV_len, List.length_take]; congr 1; omega) (fun h => by have := r3 h; omega) (fun ad he j u hu => by
      obtain ⟨g, rfl, hr⟩ := r5 ad he
      rw [el_take setV_len, List.getElem?_take] at hu
      split at hu
      · rw [addr0]; have := hr j u hu; rwa [Nat.zero_add] at this
      · cases hu) (fun u hu => ⟨flat_one _ u hu, r4 u (hsub u hu)⟩) (by omega) S ?_
    intro w3 A3 c3 S a fr
    rw [Nat.zero_add] at fr S
    refine wl_run orcQ_ok 1 rfl fr fun a fr => ?_
    refine wpList_nil ?_; (repeat (with_reducible refine then_n ?_))
    obtain ⟨r1, r2, r3, r4, r5⟩ := S.rvAt 2 rfl
    skip; (repeat (with_reducible refine wp_seq ?_)); refine wp_region_lit ?_
    refine wl_run orcQ_ok 5 rfl fr fun a fr => ?_
    refine wl_ldf orcQ_ok (Sat.stAt S 1 rfl (j := 0) rfl) fr rfl rfl rfl rfl rfl rfl rfl fun a fr => ?_
    refine wl_run orcQ_ok 2 rfl fr fun a fr => ?_
    have fr := fr.spell (d := 27) rfl (congrArg (Value.int .i64) (i64_next hlt (by omega)))
    refine wl_dropv orcQ_ok (z := 2) (i := i + 1) fr rfl rfl rfl rfl rfl rfl rfl rfl (by omega) fun a fr => ?_
    have hsub : ∀ u ∈ (m.drop (i + 1)).flatMap setV, u ∈ m.flatMap setV := fun u hu => by rw [el_drop setV_len] at hu; exact List.mem_of_mem_drop hu
    refine wl_rvappm (m := m.length - (i + 1)) (news := (m.drop (i + 1)).flatMap setV) Tryz.underlying83 infoQ rfl rfl fr rfl rfl rfl rfl rfl rfl (by rw [el_len setV_len, List.length_drop]) (dropV_none r3) (fun ad he j u hu => dropV_reads r5 (by rw [r1]; exact Nat.mul_le_mul_right _ r2.1) ad he j u (by rw [← el_drop setV_len]; exact hu)) (fun u hu => ⟨flat_one _ u hu, r4 u (hsub u hu)⟩) (by omega) S ?_
    intro w4 A4 c4 S a fr
    refine wl_run orcQ_ok 2 rfl fr fun a fr => ?_
    have S := S.frontAt 1 rfl
    refine wl_stf (j := 0) orcQ_ok fr rfl rfl rfl rfl rfl rfl rfl rfl S rfl ?_
    intro w5 S
    refine wpList_nil ?_; (repeat (with_reducible refine then_n ?_))
    skip; (repeat (with_reducible refine wp_seq ?_)); refine wp_region_lit ?_
    refine wl_run orcQ_ok 1 rfl fr fun a fr => ?_
    refine wpList_nil ?_; (repeat (with_reducible refine then_n ?_))
    refine wp_ret ?_
    skip; (repeat (first | (with_reducible refine then_r ?_) | (with_reducible refine blk_r ?_) | (with_reducible refine ng_r ?_)))
    rw [e2, e3]
    refine ret1 fr rfl rfl ?_
    refine ⟨rfl, rfl, Sat.toClk (A := A4) (c := c4) ?_⟩
    have el : (m.take i ++ m.drop (i + 1)).length = i + (m.length - (i + 1)) := by rw [List.length_append, List.length_take, List.length_drop]; omega
    have ef : (m.take i ++ m.drop (i + 1)).flatMap setV = [] ++ (m.take i).flatMap setV ++ (m.drop (i + 1)).flatMap setV := by simp
    rw [el, ef]
    have S2 : Sat w0 w5 (stA 85 b [.slice A4 (i + (m.length - (i + 1))) c4] :: rvA 171 2 A4 c4 (i + (m.length - (i + 1))) ([] ++ (m.take i).flatMap setV ++ (m.drop (i + 1)).flatMap setV) :: rvA 171 2 A c m.length (m.flatMap setV) :: R) := S
    exact (S2.frontAt 2 rfl).tl
theorem lead_stop {m : QM} {id : Int} {i : Nat} (hi : i ≤ m.length) (h1 : ∀ j (hj : j < m.length), j < i → m[j].1 < id) (h2 : ∀ hj : i < m.length, ¬ m[i].1 < id) : leadM m id = i := by
  unfold leadM
  have e : m = m.take i ++ m.drop i := (List.take_append_drop i m).symm
  have ht : ∀ x ∈ m.take i, (fun p : Int × Int => decide (p.1 < id)) x = true := fun x hx => by
    obtain ⟨j, hj, rfl⟩ := List.getElem_of_mem hx
    rw [List.length_take] at hj
    rw [List.getElem_take]
    exact decide_eq_true (h1 j (by omega) (by omega))
  rw [e, List.takeWhile_append_of_pos ht]
  have hd : (m.drop i).takeWhile (fun p : Int × Int => decide (p.1 < id)) = [] := by
    by_cases hlt : i < m.length
    · rw [List.drop_eq_getElem_cons hlt, List.takeWhile_cons_of_neg (by simpa using h2 hlt)]
    · rw [List.drop_eq_nil_of_le (by omega)]; rfl
  rw [hd, List.append_nil, List.length_take]
  omega
theorem clearM_len (m : QM) (id : Int) : (clearM m id).length ≤ m.length := by
  unfold clearM
  split
  · rw [List.length_append, List.length_take, List.length_drop]; omega
  · exact Nat.le_refl _
set_option maxRecDepth 100000 in
set_option maxHeartbeats 1000000 in
theorem clk_set {id ticks : Int} (hid : (Lit.int .u32 id).wf = true) (htk : (Lit.int .i64 ticks).wf = true) (hb : m.length ≤ 1000000) (S : Sat w0 w (rclkA b m :: R)) :
    Calls Tryz.prog 40 #[.pointer (some ⟨b, 0, none⟩), .int .u32 id, .int .i64 ticks] w fun e w' => e = .returned (.int .i64 (setE ticks)) ∧ vok (.int .i64 (setE ticks)) = true ∧ Sat w0 w' (rclkA b (setM m id ticks) :: R) := by
  refine calls_start (N := 63) [.pointer (some ⟨b, 0, none⟩), .int .u32 id, .int .i64 ticks] Tryz.func40 rfl rfl rfl (vok_c rfl (vok_c hid (vok_c htk rfl))) fun a fr => ?_
  skip; (repeat (with_reducible refine wp_seq ?_)); refine wp_region_lit ?_
  refine wl_run orcQ_ok 1 rfl fr fun a fr => ?_
  refine wpList_nil ?_; (repeat (with_reducible refine then_n ?_))
  by_cases hbad : ticks < 1 ∨ ticks > 1073741824
  · have e1 : setE ticks = 1 := by unfold setE; rw [if_pos hbad]
    have e2 : setM m id ticks = m := by unfold setM; rw [if_pos hbad]
    rw [e1, e2]
    skip; (repeat (with_reducible refine wp_seq ?_)); refine wp_region_lit ?_
    refine wl_run orcQ_ok 3 rfl fr fun a fr => ?_
    by_cases h1 : ticks < 1
    · have fr := fr.bool (d := 11) rfl (decide_eq_true h1)
      refine wl_run orcQ_ok 3 rfl fr fun a fr => ?_
      refine wpList_nil ?_; (repeat (with_reducible refine then_n ?_))
      skip; (repeat (with_reducible refine wp_seq ?_))
      refine cw_t fr rfl ?_
      skip; (repeat (with_reducible refine wp_seq ?_)); refine wp_region_lit ?_
      refine wl_run orcQ_ok 1 rfl fr fun a fr => ?_
      refine wpList_nil ?_; (repeat (with_reducible refine then_n ?_))
      refine wp_ret ?_
      skip; (repeat (first | (with_reducible refine then_r ?_) | (with_reducible refine blk_r ?_) | (with_reducible refine ng_r ?_)))
      refine ret1 fr rfl rfl ?_
      exact ⟨rfl, rfl, S⟩
    · have h2 : ticks > 1073741824 := by omega
      have fr := fr.bool (d := 11) rfl (decide_eq_false h1)
      refine wl_run orcQ_ok 2 rfl fr fun a fr => ?_
      have fr := fr.bool (d := 13) rfl (decide_eq_true h2)
      refine wl_run orcQ_ok 1 rfl fr fun a fr => ?_
      refine wpList_nil ?_; (repeat (with_reducible refine then_n ?_))
      skip; (repeat (with_reducible refine wp_seq ?_))
      refine cw_t fr rfl ?_
      skip; (repeat (with_reducible refine wp_seq ?_)); refine wp_region_lit ?_
      refine wl_run orcQ_ok 1 rfl fr fun a fr => ?_
      refine wpList_nil ?_; (repeat (with_reducible refine then_n ?_))
      refine wp_ret ?_
      skip; (repeat (first | (with_reducible refine then_r ?_) | (with_reducible refine blk_r ?_) | (with_reducible refine ng_r ?_)))
      refine ret1 fr rfl rfl ?_
      exact ⟨rfl, rfl, S⟩
  have e1 : setE ticks = 0 := by unfold setE; rw [if_neg hbad]
  have e2 : setM m id ticks = (clearM m id).take (leadM (clearM m id) id) ++ [(id, ticks)] ++ (clearM m id).drop (leadM (clearM m id) id) := by unfold setM; rw [if_neg hbad]
  rw [e1, e2]
  skip; (repeat (with_reducible refine wp_seq ?_)); refine wp_region_lit ?_
  refine wl_run orcQ_ok 3 rfl fr fun a fr => ?_
  have fr := fr.bool (d := 11) rfl (decide_eq_false (show ¬ ticks < 1 by omega))
  refine wl_run orcQ_ok 2 rfl fr fun a fr => ?_
  have fr := fr.bool (d := 13) rfl (decide_eq_false (show ¬ ticks > 1073741824 by omega))
  refine wl_run orcQ_ok 1 rfl fr fun a fr => ?_
  refine wpList_nil ?_; (repeat (with_reducible refine then_n ?_))
  skip; (repeat (with_reducible refine wp_seq ?_))
  refine cw_f fr rfl ?_
  refine wp_skip ?_
  (with_reducible refine then_n ?_)
  skip; (repeat (with_reducible refine wp_seq ?_)); refine wp_region_lit ?_
  refine wl_run orcQ_ok 2 rfl fr fun a fr => ?_
  refine wl_call fr rfl rfl rfl rfl enQclear (clk_clear hid hb S) ?_
  rintro _ w2 ⟨rfl, hv, S⟩
  refine ⟨_, rfl, hv, fun a fr => ?_⟩
  refine wpList_nil ?_; (repeat (with_reducible refine then_n ?_))
  have hcl := clearM_len m id
  obtain ⟨m1, hm1⟩ : ∃ m1, clearM m id = m1 := ⟨_, rfl⟩
  rw [hm1] at S hcl ⊢
  obtain ⟨A, c, S⟩ := S.ofClk
  skip; (repeat (with_reducible refine wp_seq ?_)); refine wp_region_lit ?_
  refine wl_run orcQ_ok 1 rfl fr fun a fr => ?_
  refine wpList_nil ?_; (repeat (with_reducible refine then_n ?_))
  have fr := fr.sub (L' := [(0, .pointer (some ⟨b, 0, none⟩)), (1, .int .u32 id), (2, .int .i64 ticks), (7, .int .i64 ((0 : Nat) : Int))]) ⟨rfl, rfl, rfl, rfl, trivial⟩
  have hkl : leadM m1 id ≤ m1.length := List.Sublist.length_le (List.takeWhile_sublist _)
  skip; (repeat (with_reducible refine wp_seq ?_))
  refine cw_blk (fun a w1 => Fr 63 a [(0, .pointer (some ⟨b, 0, none⟩)), (1, .int .u32 id), (2, .int .i64 ticks), (7, .int .i64 ((leadM m1 id : Nat) : Int))] ∧ Sat w0 w1 (stA 85 b [.slice A m1.length c] :: rvA 171 2 A c m1.length (m1.flatMap setV) :: R)) ?_ ?_
  · refine cw_loop (fun q a w1 => ∃ i : Nat, i + q = m1.length + 1 ∧ i ≤ m1.length ∧ (∀ j (hj : j < m1.length), j < i → m1[j].1 < id) ∧ Fr 63 a [(0, .pointer (some ⟨b, 0, none⟩)), (1, .int .u32 id), (2, .int .i64 ticks), (7, .int .i64 (i : Int))] ∧ Sat w0 w1 (stA 85 b [.slice A m1.length c] :: rvA 171 2 A c m1.length (m1.flatMap setV) :: R)) (m1.length + 1)
      ⟨0, by omega, by omega, fun j hj h => by omega, fr, S⟩ ?_ ?_
    · rintro a w1 ⟨i, h, h', -⟩
      omega
    clear fr S
    rintro q a w1 ⟨i, hi, hi', hno, fr, S⟩
    skip; (repeat (with_reducible refine wp_seq ?_)); refine wp_region_lit ?_
    refine wl_run orcQ_ok 4 rfl fr fun a fr => ?_
    refine wl_ldf orcQ_ok (Sat.stAt S 0 rfl (j := 0) rfl) fr rfl rfl rfl rfl rfl rfl rfl fun a fr => ?_
    refine wl_run orcQ_ok 3 rfl fr fun a fr => ?_
    by_cases hlt : i < m1.length
    rotate_left
    · have fr := fr.bool (d := 25) rfl (decide_eq_false (show ¬ (i : Int) < (m1.length : Int) by omega))
      refine wl_run orcQ_ok 11 rfl fr fun a fr => ?_
      refine wpList_nil ?_; (repeat (with_reducible refine then_n ?_))
      skip; (repeat (with_reducible refine wp_seq ?_))
      refine cw_f fr rfl ?_
      refine wp_exit ?_
      skip; (repeat (first | (with_reducible refine then_e ?_) | (with_reducible refine ng_e ?_) | (with_reducible refine blk_e (by decide) ?_))); (with_reducible refine blk_y ?_); (repeat (with_reducible refine then_n ?_))
      rw [lead_stop hi' hno fun hj => absurd hj hlt]
      exact ⟨fr.sub ⟨rfl, rfl, rfl, rfl, trivial⟩, S⟩
    have fr := fr.bool (d := 25) rfl (decide_eq_true (show (i : Int) < (m1.length : Int) by omega))
    obtain ⟨⟨g, hA, hr⟩, hw1, hw2⟩ := setV_wf S 1 rfl hlt
    subst hA
    refine wl_run orcQ_ok 3 rfl fr fun a fr => ?_
    refine wl_ldf orcQ_ok (Sat.stAt S 0 rfl (j := 0) rfl) fr rfl rfl rfl rfl rfl rfl rfl fun a fr => ?_
    refine wl_run orcQ_ok 1 rfl fr fun a fr => ?_
    refine wl_val fr rfl rfl rfl (indexAddr_run orcQ_ok fr rfl rfl rfl rfl rfl (Int.natCast_nonneg _) (show (i : Int) < ((m1.length : Nat) : Int) by omega) _) rfl fun a fr => ?_
    refine wl_run orcQ_ok 1 rfl fr fun a fr => ?_
    refine wl_ldf orcQ_ok ⟨elem_cell (j := 0) hr rfl, hw1⟩ fr rfl rfl rfl rfl rfl rfl rfl fun a fr => ?_
    refine wl_run orcQ_ok 2 rfl fr fun a fr => ?_
    by_cases he : m1[i].1 < id
    rotate_left
    · have fr := fr.bool (d := 35) rfl (decide_eq_false he)
      refine wl_run orcQ_ok 1 rfl fr fun a fr => ?_
      refine wpList_nil ?_; (repeat (with_reducible refine then_n ?_))
      skip; (repeat (with_reducible refine wp_seq ?_))
      refine cw_f fr rfl ?_
      refine wp_exit ?_
      skip; (repeat (first | (with_reducible refine then_e ?_) | (with_reducible refine ng_e ?_) | (with_reducible refine blk_e (by decide) ?_))); (with_reducible refine blk_y ?_); (repeat (with_reducible refine then_n ?_))
      rw [lead_stop hi' hno fun _ => he]
      exact ⟨fr.sub ⟨rfl, rfl, rfl, rfl, trivial⟩, S⟩
    have fr := fr.bool (d := 35) rfl (decide_eq_true he)
    refine wl_run orcQ_ok 1 rfl fr fun a fr => ?_
    refine wpList_nil ?_; (repeat (with_reducible refine then_n ?_))
    skip; (repeat (with_reducible refine wp_seq ?_))
    refine cw_t fr rfl ?_
    refine wp_skip ?_
    (with_reducible refine then_n ?_)
    skip; (repeat (with_reducible refine wp_seq ?_))
    refine wp_block ?_
    skip; (repeat (with_reducible refine wp_seq ?_)); refine wp_region_lit ?_
    refine wl_run orcQ_ok 3 rfl fr fun a fr => ?_
    refine wpList_nil ?_; (repeat (with_reducible refine then_n ?_))
    (repeat (first | (with_reducible refine then_n ?_) | (with_reducible refine blk_n ?_) | (with_reducible refine ng_n ?_)))
    have fr := fr.spell (d := 7) rfl (congrArg (Value.int .i64) (i64_next hlt (by omega)))
    refine ⟨i + 1, by omega, by omega, fun j hj hji => ?_, fr.sub ⟨rfl, rfl, rfl, rfl, trivial⟩, S⟩
    by_cases hje : j = i
    · subst hje; exact he
    · exact hno j hj (by omega)
  clear fr S
  rintro a w3 ⟨fr, S⟩
  (repeat (with_reducible refine then_n ?_))
  generalize leadM m1 id = i at hkl fr ⊢
  skip; (repeat (with_reducible refine wp_seq ?_)); refine wp_region_lit ?_
  refine wl_run orcQ_ok 1 rfl fr fun a fr => ?_
  refine wpList_nil ?_; (repeat (with_reducible refine then_n ?_))
  have S : Sat w0 w3 (rvA 171 2 none 0 0 [] :: stA 85 b [.slice A m1.length c] :: rvA 171 2 A c m1.length (m1.flatMap setV) :: R) := rv_nil 171 2 S
  obtain ⟨r1, r2, r3, r4, r5⟩ := S.rvAt 2 rfl
  skip; (repeat (with_reducible refine wp_seq ?_)); refine wp_region_lit ?_
  refine wl_run orcQ_ok 4 rfl fr fun a fr => ?_
  refine wl_ldf orcQ_ok (Sat.stAt S 1 rfl (j := 0) rfl) fr rfl rfl rfl rfl rfl rfl rfl fun a fr => ?_
  refine wl_run orcQ_ok 1 rfl fr fun a fr => ?_
  refine wl_takev orcQ_ok (i := i) fr rfl rfl rfl rfl rfl rfl rfl rfl hkl fun a fr => ?_
  have hsub : ∀ u ∈ (m1.take i).flatMap setV, u ∈ m1.flatMap setV := fun u hu => by rw [el_take setV_len] at hu; exact List.mem_of_mem_take hu
  refine wl_rvappm (m := i) (news := (m1.take i).flatMap setV) Tryz.underlying83 infoQ rfl rfl fr rfl rfl rfl rfl rfl rfl (by rw [el_len setV_len, List.length_take]; congr 1; omega) (fun h => by have := r3 h; omega) (fun ad he j u hu => by
    obtain ⟨g, rfl, hr⟩ := r5 ad he
    rw [el_take setV_len, List.getElem?_take] at hu
    split at hu
    · rw [addr0]; have := hr j u hu; rwa [Nat.zero_add] at this
    · cases hu) (fun u hu => ⟨flat_one _ u hu, r4 u (hsub u hu)⟩) (by omega) S ?_
  intro w4 A3 c3 S a fr
  rw [Nat.zero_add] at fr S
  refine wl_run orcQ_ok 2 rfl fr fun a fr => ?_
  refine wl_build (cs := [.int .u32 id, .int .i64 ticks]) (L2 := [(0, .int .u32 id), (1, .int .i64 ticks)]) fr rfl rfl rfl rfl (by
    have e1 := (fr.ev (o := .tmp 47) rfl).1
    have e2 := (fr.ev (o := .tmp 48) rfl).1
    simp [e1, e2]) (by kernel_rfl) (vok_agg fun v hv => by
    simp only [List.mem_cons, List.not_mem_nil, or_false] at hv
    rcases hv with rfl | rfl
    · exact hid
    · exact htk) fun a fr => ?_
  refine wl_lit1 (cs := setV (id, ticks)) Tryz.underlying83 (by kernel_rfl) rfl fr rfl rfl rfl rfl rfl rfl (by
    simp only [setV, List.all_cons, List.all_nil, Bool.and_true, Bool.and_eq_true]
    exact ⟨hid, htk⟩) S ?_
  intro w5 A4 c4 S a fr
  refine wl_rvapp Tryz.underlying83 infoQ rfl rfl fr rfl rfl rfl rfl rfl rfl rfl (by omega) S ?_
  intro w6 A5 c5 S a fr
  refine wl_run orcQ_ok 1 rfl fr fun a fr => ?_
  refine wpList_nil ?_; (repeat (with_reducible refine then_n ?_))
  obtain ⟨r1, r2, r3, r4, r5⟩ := S.rvAt 2 rfl
  skip; (repeat (with_reducible refine wp_seq ?_)); refine wp_region_lit ?_
  refine wl_run orcQ_ok 5 rfl fr fun a fr => ?_
  refine wl_ldf orcQ_ok (Sat.stAt S 1 rfl (j := 0) rfl) fr rfl rfl rfl rfl rfl rfl rfl fun a fr => ?_
  refine wl_run orcQ_ok 1 rfl fr fun a fr => ?_
  refine wl_dropv orcQ_ok (z := 2) (i := i) fr rfl rfl rfl rfl rfl rfl rfl rfl hkl fun a fr => ?_
  have hsub : ∀ u ∈ (m1.drop i).flatMap setV, u ∈ m1.flatMap setV := fun u hu => by rw [el_drop setV_len] at hu; exact List.mem_of_mem_drop hu
  refine wl_rvappm (m := m1.length - i) (news := (m1.drop i).flatMap setV) Tryz.underlying83 infoQ rfl rfl fr rfl rfl rfl rfl rfl rfl (by rw [el_len setV_len, List.length_drop]) (dropV_none r3) (fun ad he j u hu => dropV_reads r5 (by rw [r1]; exact Nat.mul_le_mul_right _ r2.1) ad he j u (by rw [← el_drop setV_len]; exact hu)) (fun u hu => ⟨flat_one _ u hu, r4 u (hsub u hu)⟩) (by omega) S ?_
  intro w7 A6 c6 S a fr
  refine wl_run orcQ_ok 2 rfl fr fun a fr => ?_
  have S := S.frontAt 1 rfl
  refine wl_stf (j := 0) orcQ_ok fr rfl rfl rfl rfl rfl rfl rfl rfl S rfl ?_
  intro w8 S
  refine wpList_nil ?_; (repeat (with_reducible refine then_n ?_))
  skip; (repeat (with_reducible refine wp_seq ?_)); refine wp_region_lit ?_
  refine wl_run orcQ_ok 1 rfl fr fun a fr => ?_
  refine wpList_nil ?_; (repeat (with_reducible refine then_n ?_))
  refine wp_ret ?_
  skip; (repeat (first | (with_reducible refine then_r ?_) | (with_reducible refine blk_r ?_) | (with_reducible refine ng_r ?_)))
  refine ret1 fr rfl rfl ?_
  refine ⟨rfl, rfl, Sat.toClk (A := A6) (c := c6) ?_⟩
  have el : (m1.take i ++ [(id, ticks)] ++ m1.drop i).length = i + 1 + (m1.length - i) := by rw [List.length_append, List.length_append, List.length_take, List.length_drop, List.length_singleton]; omega
  have ef : (m1.take i ++ [(id, ticks)] ++ m1.drop i).flatMap setV = [] ++ (m1.take i).flatMap setV ++ setV (id, ticks) ++ (m1.drop i).flatMap setV := by simp
  rw [el, ef]
  have S2 : Sat w0 w8 (stA 85 b [.slice A6 (i + 1 + (m1.length - i)) c6] :: rvA 171 2 A6 c6 (i + 1 + (m1.length - i)) ([] ++ (m1.take i).flatMap setV ++ setV (id, ticks) ++ (m1.drop i).flatMap setV) :: rvA 171 2 A c m1.length (m1.flatMap setV) :: R) := S
  exact (S2.frontAt 2 rfl).tl
theorem lessM_take (m : QM) (i : Nat) (hi : i < m.length) : lessM (m.take (i + 1)) = lessM (m.take i) ++ [(m[i].1, IntKind.wrap .i64 (m[i].2 - 1))] := by
  unfold lessM
  rw [List.take_add_one, List.getElem?_eq_getElem hi, List.map_append]
  rfl
theorem toldM_take (m : QM) (i : Nat) (hi : i < m.length) : toldM (m.take (i + 1)) = toldM (m.take i) ++ if IntKind.wrap .i64 (m[i].2 - 1) = 0 then [m[i].1] else [] := by
  unfold toldM
  rw [lessM_take m i hi, List.filter_append, List.map_append]
  by_cases h : IntKind.wrap .i64 (m[i].2 - 1) = 0 <;> simp [h]
theorem restM_take (m : QM) (i : Nat) (hi : i < m.length) : restM (m.take (i + 1)) = restM (m.take i) ++ if IntKind.wrap .i64 (m[i].2 - 1) = 0 then [] else [(m[i].1, IntKind.wrap .i64 (m[i].2 - 1))] := by
  unfold restM
  rw [lessM_take m i hi, List.filter_append]
  by_cases h : IntKind.wrap .i64 (m[i].2 - 1) = 0 <;> simp [h]
theorem toldM_len (m : QM) : (toldM m).length ≤ m.length := by
  unfold toldM
  rw [List.length_map]
  refine Nat.le_trans (List.length_filter_le _ _) ?_
  unfold lessM
  rw [List.length_map]
  exact Nat.le_refl _
theorem restM_len (m : QM) : (restM m).length ≤ m.length := by
  unfold restM
  refine Nat.le_trans (List.length_filter_le _ _) ?_
  unfold lessM
  rw [List.length_map]
  exact Nat.le_refl _
set_option maxRecDepth 100000 in
set_option maxHeartbeats 1000000 in
theorem clk_tick (hb : m.length ≤ 1000000) (S : Sat w0 w (rclkA b m :: R)) :
    Calls Tryz.prog 45 #[.pointer (some ⟨b, 0, none⟩)] w fun e w' => ∃ A c, e = .returned (.slice A (toldM m).length c) ∧ vok (.slice A (toldM m).length c) = true ∧ Sat w0 w' (ownA .u32 86 A c (toldM m) :: rclkA b (restM m) :: R) := by
  obtain ⟨A, c, S⟩ := S.ofClk
  refine calls_start (N := 44) [.pointer (some ⟨b, 0, none⟩)] Tryz.func45 rfl rfl rfl (vok_c rfl rfl) fun a fr => ?_
  skip; (repeat (with_reducible refine wp_seq ?_)); refine wp_region_lit ?_
  refine wl_run orcQ_ok 1 rfl fr fun a fr => ?_
  refine wpList_nil ?_; (repeat (with_reducible refine then_n ?_))
  skip; (repeat (with_reducible refine wp_seq ?_)); refine wp_region_lit ?_
  refine wl_run orcQ_ok 1 rfl fr fun a fr => ?_
  refine wpList_nil ?_; (repeat (with_reducible refine then_n ?_))
  skip; (repeat (with_reducible refine wp_seq ?_)); refine wp_region_lit ?_
  refine wl_run orcQ_ok 1 rfl fr fun a fr => ?_
  refine wpList_nil ?_; (repeat (with_reducible refine then_n ?_))
  skip; (repeat (with_reducible refine wp_seq ?_)); refine wp_region_lit ?_
  refine wl_run orcQ_ok 1 rfl fr fun a fr => ?_
  refine wpList_nil ?_; (repeat (with_reducible refine then_n ?_))
  have S : Sat w0 w (rvA 171 2 none 0 0 [] :: stA 85 b [.slice A m.length c] :: rvA 171 2 A c m.length (m.flatMap setV) :: R) := rv_nil 171 2 S
  have S : Sat w0 w (ownA .u32 86 none 0 [] :: rvA 171 2 none 0 0 [] :: stA 85 b [.slice A m.length c] :: rvA 171 2 A c m.length (m.flatMap setV) :: R) := S.nilRow .u32 86
  skip; (repeat (with_reducible refine wp_seq ?_))
  refine wp_block ?_
  refine cw_loop (fun q a w1 => ∃ (i : Nat) (A1 : Option Addr) (c1 : Nat) (A2 : Option Addr) (c2 : Nat), i + q = m.length + 1 ∧ i ≤ m.length ∧ Fr 44 a [(0, .pointer (some ⟨b, 0, none⟩)), (3, .slice A1 (toldM (m.take i)).length c1), (4, .slice A2 (restM (m.take i)).length c2), (5, .int .i64 (i : Int))] ∧ Sat w0 w1 (ownA .u32 86 A1 c1 (toldM (m.take i)) :: rvA 171 2 A2 c2 (restM (m.take i)).length ((restM (m.take i)).flatMap setV) :: stA 85 b [.slice A m.length c] :: rvA 171 2 A c m.length (m.flatMap setV) :: R)) (m.length + 1)
    ⟨0, none, 0, none, 0, by omega, by omega, fr.sub ⟨rfl, rfl, rfl, rfl, trivial⟩, S⟩ ?_ ?_
  · rintro a w1 ⟨i, _, _, _, _, h, h', -⟩
    omega
  clear fr S
  rintro q a w1 ⟨i, A1, c1, A2, c2, hi, hi', fr, S⟩
  skip; (repeat (with_reducible refine wp_seq ?_)); refine wp_region_lit ?_
  refine wl_run orcQ_ok 4 rfl fr fun a fr => ?_
  refine wl_ldf orcQ_ok (Sat.stAt S 2 rfl (j := 0) rfl) fr rfl rfl rfl rfl rfl rfl rfl fun a fr => ?_
  refine wl_run orcQ_ok 2 rfl fr fun a fr => ?_
  refine wpList_nil ?_; (repeat (with_reducible refine then_n ?_))
  by_cases hlt : i < m.length
  rotate_left
  · have fr := fr.bool (d := 13) rfl (decide_eq_false (show ¬ (i : Int) < (m.length : Int) by omega))
    have hie : m.take i = m := List.take_of_length_le (by omega)
    rw [hie] at fr S
    skip; (repeat (with_reducible refine wp_seq ?_))
    refine cw_f fr rfl ?_
    refine wp_exit ?_
    skip; (repeat (first | (with_reducible refine then_e ?_) | (with_reducible refine ng_e ?_) | (with_reducible refine blk_e (by decide) ?_))); (with_reducible refine blk_y ?_); (repeat (with_reducible refine then_n ?_))
    skip; (repeat (with_reducible refine wp_seq ?_)); refine wp_region_lit ?_
    refine wl_run orcQ_ok 4 rfl fr fun a fr => ?_
    have S := S.frontAt 2 rfl
    refine wl_stf (j := 0) orcQ_ok fr rfl rfl rfl rfl rfl rfl rfl rfl S rfl ?_
    intro w2 S
    refine wpList_nil ?_; (repeat (with_reducible refine then_n ?_))
    skip; (repeat (with_reducible refine wp_seq ?_)); refine wp_region_lit ?_
    refine wl_run orcQ_ok 2 rfl fr fun a fr => ?_
    refine wpList_nil ?_; (repeat (with_reducible refine then_n ?_))
    refine wp_ret ?_
    skip; (repeat (first | (with_reducible refine then_r ?_) | (with_reducible refine blk_r ?_) | (with_reducible refine ng_r ?_)))
    refine ret1 fr rfl rfl ?_
    refine ⟨A1, c1, rfl, fr.vok (d := 2) rfl, ?_⟩
    have S2 : Sat w0 w2 (stA 85 b [.slice A2 (restM m).length c2] :: ownA .u32 86 A1 c1 (toldM m) :: rvA 171 2 A2 c2 (restM m).length ((restM m).flatMap setV) :: rvA 171 2 A c m.length (m.flatMap setV) :: R) := S
    have S3 := (S2.frontAt 3 rfl).tl
    exact (Sat.toClk (S3.frontAt 2 rfl |>.frontAt 1 rfl)).frontAt 1 rfl
  have fr := fr.bool (d := 13) rfl (decide_eq_true (show (i : Int) < (m.length : Int) by omega))
  obtain ⟨⟨g, hA, hr⟩, hw1, hw2⟩ := setV_wf S 3 rfl hlt
  subst hA
  have hl1 := toldM_len (m.take i)
  have hl2 := restM_len (m.take i)
  have hl3 : (m.take i).length ≤ i := List.length_take_le _ _
  have et := toldM_take m i hlt
  have er := restM_take m i hlt
  generalize toldM (m.take i) = told at *
  generalize restM (m.take i) = rest at *
  skip; (repeat (with_reducible refine wp_seq ?_))
  refine cw_t fr rfl ?_
  refine wp_skip ?_
  (with_reducible refine then_n ?_)
  skip; (repeat (with_reducible refine wp_seq ?_))
  refine wp_block ?_
  skip; (repeat (with_reducible refine wp_seq ?_)); refine wp_region_lit ?_
  refine wl_run orcQ_ok 3 rfl fr fun a fr => ?_
  refine wl_ldf orcQ_ok (Sat.stAt S 2 rfl (j := 0) rfl) fr rfl rfl rfl rfl rfl rfl rfl fun a fr => ?_
  refine wl_run orcQ_ok 1 rfl fr fun a fr => ?_
  refine wl_ldv orcQ_ok (z := 2) (i := (i : Int)) (cs := setV m[i]) (fun ad he => by
    injection he with he; subst he
    exact ⟨g, rfl, by rw [Int.toNat_natCast]; exact hr⟩) (by simp) (by
    intro v hv
    simp only [setV, List.mem_cons, List.not_mem_nil, or_false] at hv
    rcases hv with rfl | rfl
    · exact hw1
    · exact hw2) fr rfl rfl rfl rfl rfl rfl rfl rfl rfl rfl rfl rfl rfl rfl rfl rfl ⟨by omega, by omega⟩ fun a fr => ?_
  refine wl_allocg (zs := [.int .u32 0, .int .i64 0]) fr rfl rfl rfl rfl zeroSet rfl S ?_
  intro w2 bx S a fr
  refine wl_stg orcQ_ok (cs := [.int .u32 0, .int .i64 0]) (vs := setV m[i]) fr rfl rfl rfl rfl rfl rfl rfl (by
    simp only [setV, List.all_cons, List.all_nil, Bool.and_true, Bool.and_eq_true]
    exact ⟨⟨rfl, hw1⟩, rfl, hw2⟩) S ?_
  intro w3 S
  refine wpList_nil ?_; (repeat (with_reducible refine then_n ?_))
  skip; (repeat (with_reducible refine wp_seq ?_)); refine wp_region_lit ?_
  refine wl_run orcQ_ok 1 rfl fr fun a fr => ?_
  refine wl_ldf orcQ_ok (Sat.stAt S 0 rfl (j := 1) rfl) fr rfl rfl rfl rfl rfl rfl rfl fun a fr => ?_
  refine wl_run orcQ_ok 2 rfl fr fun a fr => ?_
  refine wl_stf (j := 1) orcQ_ok fr rfl rfl rfl rfl rfl rfl rfl rfl S rfl ?_
  intro w4 S
  refine wpList_nil ?_; (repeat (with_reducible refine then_n ?_))
  have S : Sat w0 w4 (stA 171 bx (setV (m[i].1, IntKind.wrap .i64 (m[i].2 - 1))) :: ownA .u32 86 A1 c1 told :: rvA 171 2 A2 c2 rest.length (rest.flatMap setV) :: stA 85 b [.slice (some ⟨g, 0, none⟩) m.length c] :: rvA 171 2 (some ⟨g, 0, none⟩) c m.length (m.flatMap setV) :: R) := S
  have hwx : (Lit.int .i64 (IntKind.wrap .i64 (m[i].2 - 1))).wf = true := (Sat.stAt S 0 rfl (j := 1) rfl).2
  generalize IntKind.wrap .i64 (m[i].2 - 1) = y at *
  skip; (repeat (with_reducible refine wp_seq ?_)); refine wp_region_lit ?_
  refine wl_run orcQ_ok 1 rfl fr fun a fr => ?_
  refine wl_ldf orcQ_ok (Sat.stAt S 0 rfl (j := 1) rfl) fr rfl rfl rfl rfl rfl rfl rfl fun a fr => ?_
  refine wl_run orcQ_ok 1 rfl fr fun a fr => ?_
  refine wpList_nil ?_; (repeat (with_reducible refine then_n ?_))
  by_cases h0 : y = 0
  · rw [if_pos h0] at et er
    have fr := fr.bool (d := 29) rfl (show (y == 0) = true by simp [h0])
    skip; (repeat (with_reducible refine wp_seq ?_))
    refine cw_t fr rfl ?_
    skip; (repeat (with_reducible refine wp_seq ?_)); refine wp_region_lit ?_
    refine wl_run orcQ_ok 2 rfl fr fun a fr => ?_
    refine wl_ldf orcQ_ok (Sat.stAt S 0 rfl (j := 0) rfl) fr rfl rfl rfl rfl rfl rfl rfl fun a fr => ?_
    refine wl_lit orcQ_ok rowQ (xs := [m[i].1]) fr rfl rfl rfl rfl ⟨rfl, rfl, trivial⟩ rfl rfl S ?_
    intro w5 A3 c3 S a fr
    refine wl_app rowQ (l := told) (news := [m[i].1]) fr rfl rfl rfl rfl rfl rfl rfl rfl (S.ownAt 0 rfl) (by simp only [List.length_singleton]; omega) (S.frontAt 2 rfl) ?_
    intro w6 A4 c4 S a fr
    refine wl_run orcQ_ok 1 rfl fr fun a fr => ?_
    refine wpList_nil ?_; (repeat (with_reducible refine then_n ?_))
    (repeat (first | (with_reducible refine then_n ?_) | (with_reducible refine blk_n ?_) | (with_reducible refine ng_n ?_)))
    skip; (repeat (with_reducible refine wp_seq ?_)); refine wp_region_lit ?_
    refine wl_run orcQ_ok 3 rfl fr fun a fr => ?_
    refine wpList_nil ?_; (repeat (with_reducible refine then_n ?_))
    have fr := fr.spell (d := 5) rfl (congrArg (Value.int .i64) (i64_next hlt (by omega)))
    rw [← et] at fr S
    rw [List.append_nil] at er
    have S := (S.frontAt 1 rfl).tl
    have S := (S.frontAt 1 rfl).tl
    rw [← er] at fr S
    exact ⟨i + 1, A4, c4, A2, c2, by omega, by omega, fr.sub ⟨rfl, rfl, rfl, rfl, trivial⟩, S⟩
  · rw [if_neg h0] at et er
    rw [List.append_nil] at et
    have fr := fr.bool (d := 29) rfl (show (y == 0) = false by simp [h0])
    skip; (repeat (with_reducible refine wp_seq ?_))
    refine cw_f fr rfl ?_
    skip; (repeat (with_reducible refine wp_seq ?_)); refine wp_region_lit ?_
    refine wl_run orcQ_ok 1 rfl fr fun a fr => ?_
    refine wl_val fr rfl rfl rfl (ldagg_run orcQ_ok fr rfl (g := bx) (j := 0) (cs := setV (m[i].1, y)) rfl rfl rfl rfl (fun j u hu => by have := (Sat.stAt S 0 rfl hu).1; rw [addr0] at this; rwa [Nat.zero_add])) (vok_agg fun v hv => by
      simp only [setV, List.mem_cons, List.not_mem_nil, or_false] at hv
      rcases hv with rfl | rfl
      · exact hw1
      · exact hwx) fun a fr => ?_
    refine wl_lit1 (cs := setV (m[i].1, y)) Tryz.underlying83 (by kernel_rfl) rfl fr rfl rfl rfl rfl rfl rfl (by
      simp only [setV, List.all_cons, List.all_nil, Bool.and_true, Bool.and_eq_true]
      exact ⟨hw1, hwx⟩) S ?_
    intro w5 A3 c3 S a fr
    have S := (S.frontAt 3 rfl).frontAt 1 rfl
    refine wl_rvapp Tryz.underlying83 infoQ rfl rfl fr rfl rfl rfl rfl rfl rfl rfl (by omega) S ?_
    intro w6 A4 c4 S a fr
    refine wl_run orcQ_ok 1 rfl fr fun a fr => ?_
    refine wpList_nil ?_; (repeat (with_reducible refine then_n ?_))
    (repeat (first | (with_reducible refine then_n ?_) | (with_reducible refine blk_n ?_) | (with_reducible refine ng_n ?_)))
    skip; (repeat (with_reducible refine wp_seq ?_)); refine wp_region_lit ?_
    refine wl_run orcQ_ok 3 rfl fr fun a fr => ?_
    refine wpList_nil ?_; (repeat (with_reducible refine then_n ?_))
    have fr := fr.spell (d := 5) rfl (congrArg (Value.int .i64) (i64_next hlt (by omega)))
    rw [← el_snoc] at S
    have eln : rest.length + 1 = (rest ++ [(m[i].1, y)]).length := by rw [List.length_append]; rfl
    rw [eln] at fr S
    rw [← er] at fr S
    have S := (S.frontAt 1 rfl).tl
    have S := S.frontAt 1 rfl
    rw [← et] at fr S
    exact ⟨i + 1, A1, c1, A4, c4, by omega, by omega, fr.sub ⟨rfl, rfl, rfl, rfl, trivial⟩, S⟩
end
end Go.Proofs.YticnjkdaccacaaaGreatDoor.Sx
end
