/- A region that draws its order, some operations of which may come up in several orders: by what holds when so many of them have come up. -/
import Derived.Test.YticnjkdaccacaaaDoorSy
namespace Go.Proofs.YticnjkdaccacaaaDoor.Sx
open Go Go.RowKit Base Own

/-- So many of them have come up: which, and which may come up next (each with what it leads to). -/
structure Pn where
  key : Nat
  fl : Array Bool
  js : List (Nat × Option Tmp × Nat)
def cntF (l : Array Bool) : Nat := l.toList.count false
def endI (I : Act → World → Prop) (e : Exit) (a : Act) (w : World) : Prop := e = .normal ∧ I a w
section
variable {P : Program} {ops : Array Oper} {Q : Exit → Act → World → Prop} {S : World → Prop}
def okNode (ops : Array Oper) (all : List Pn) (lf : Array Bool) (kf : Nat) (nd : Pn) : Bool :=
  (Region.ready .any ops nd.fl == nd.js.map (·.1)) && !nd.js.isEmpty && nd.js.all fun x =>
    (cntF nd.fl == cntF (nd.fl.setIfInBounds x.1 true) + 1) && ((x.2.2 == kf && nd.fl.setIfInBounds x.1 true == lf) || all.any fun m => m.key == x.2.2 && m.fl == nd.fl.setIfInBounds x.1 true)
def stripJ (ops : Array Oper) : List (Nat × Option Tmp × Nat) → Option (List (SOp × Nat))
  | [] => some []
  | (j, N, k) :: r => (strip ops (j, false, N)).bind fun s => if s.g.isNone && ((ops[j]?).map (·.dst) == some N) then (stripJ ops r).map ((s, k) :: ·) else none
def stripP (ops : Array Oper) : List Pn → Option (List (Nat × List (SOp × Nat)))
  | [] => some []
  | nd :: r => (stripJ ops nd.js).bind fun l => (stripP ops r).map ((nd.key, l) :: ·)
def PJ (P : Program) (S : World → Prop) (I : Nat → Act → World → Prop) (k : Nat) : List (SOp × Nat) → Prop
  | [] => True
  | (s, k') :: r => (∀ a w, S w → I k a w → SL P (endI (I k')) S [.one s] a w) ∧ PJ P S I k r
def PSteps (P : Program) (S : World → Prop) (I : Nat → Act → World → Prop) : List (Nat × List (SOp × Nat)) → Prop
  | [] => True
  | (k, l) :: r => PJ P S I k l ∧ PSteps P S I r
theorem pj_at {I : Nat → Act → World → Prop} {k : Nat} : ∀ {js : List (Nat × Option Tmp × Nat)} {l : List (SOp × Nat)}, stripJ ops js = some l → PJ P S I k l → ∀ x ∈ js, ∃ o, ops[x.1]? = some o ∧ (∀ t, Region.wanted o t = true) ∧
    ∀ a w, S w → I k a w → ∀ K : Act → World → Prop, (∀ a' w', S w' → I x.2.2 a' w' → K a' w') → Oper.wp P o a w K (fun _ _ _ => False) := by
  intro js
  induction js with
  | nil => intro l _ _ x hx; cases hx
  | cons y js ih =>
    obtain ⟨j, N, k'⟩ := y
    intro l hl hp x hx
    simp only [stripJ, Option.bind_eq_some_iff] at hl
    obtain ⟨s, hs, hl⟩ := hl
    split at hl
    case isFalse => cases hl
    rename_i hg
    rw [Option.map_eq_some_iff] at hl
    obtain ⟨l', hl', rfl⟩ := hl
    simp only [Bool.and_eq_true, Option.isNone_iff_eq_none, beq_iff_eq] at hg
    rcases List.mem_cons.1 hx with rfl | hx
    · cases ho : ops[j]? with
      | none => rw [ho] at hg; simp at hg
      | some o =>
        rw [ho] at hg
        have hd : o.dst = N := by simpa using hg.2
        have hgo : o.guard = none := by
          have hs' := hs
          unfold strip at hs'
          rw [ho] at hs'
          simp only [Option.bind_some] at hs'
          cases hgg : o.guard with
          | none => rfl
          | some g =>
            rw [hgg] at hs'
            simp only [Option.map_eq_some_iff] at hs'
            obtain ⟨t', _, rfl⟩ := hs'
            exact absurd hg.1 (by simp)
        refine ⟨o, rfl, fun t => by simp [Region.wanted, hgo], fun a w hS hI K hK => ?_⟩
        obtain ⟨_, hq, hsd, hop, hty⟩ := strip_wanted (x := (j, false, N)) ho hs a.tmps
        rcases hp.1 a w hS hI with ⟨h1, _, _⟩ | ⟨_, h2, _⟩ | ⟨_, _, h3⟩
        · have : s.wanted a.tmps = true := by simp [SOp.wanted, hg.1]
          rw [this] at h1; cases h1
        · have h2' : s.q = true := h2
          rw [hq] at h2'; cases h2'
        · exact oper_same hop hty (hsd.trans hd.symm) (h3 K fun a' w' hS' hh => hK a' w' hS' hh.2)
    · exact ih hl' hp.2 x hx
theorem psteps_at {I : Nat → Act → World → Prop} : ∀ {nodes : List Pn} {L : List (Nat × List (SOp × Nat))}, stripP ops nodes = some L → PSteps P S I L → ∀ nd ∈ nodes, ∃ l, stripJ ops nd.js = some l ∧ PJ P S I nd.key l := by
  intro nodes
  induction nodes with
  | nil => intro L _ _ nd h; cases h
  | cons n nodes ih =>
    intro L hL hp nd hnd
    simp only [stripP, Option.bind_eq_some_iff, Option.map_eq_some_iff] at hL
    obtain ⟨l, hl, L', hL', rfl⟩ := hL
    rcases List.mem_cons.1 hnd with rfl | hnd
    · exact ⟨l, hl, hp.1⟩
    · exact ih hL' hp.2 nd hnd
theorem pool_held {I : Nat → Act → World → Prop} {nodes : List Pn} {lf : Array Bool} {kf : Nat} {L : List (Nat × List (SOp × Nat))} (hall : nodes.all (okNode ops nodes lf kf) = true) (hL : stripP ops nodes = some L) (hs : PSteps P S I L)
    (hfin : ∀ a w, S w → I kf a w → wpAnyH P .any ops (np Q) S (cntF lf) lf a w) : ∀ (n : Nat) (nd : Pn), nd ∈ nodes → cntF nd.fl = n → ∀ a w, S w → I nd.key a w → wpAnyH P .any ops (np Q) S n nd.fl a w := by
  intro n
  induction n with
  | zero =>
    intro nd hnd hc a w hS hI
    have hok := List.all_eq_true.1 hall nd hnd
    unfold okNode at hok
    simp only [Bool.and_eq_true, List.all_eq_true, beq_iff_eq, Bool.not_eq_true', List.isEmpty_eq_false_iff] at hok
    obtain ⟨⟨h1, h2⟩, h3⟩ := hok
    obtain ⟨x, hx⟩ := List.exists_mem_of_ne_nil _ h2
    have := (h3 x hx).1
    omega
  | succ n ih =>
    intro nd hnd hc a w hS hI
    have hok := List.all_eq_true.1 hall nd hnd
    unfold okNode at hok
    simp only [Bool.and_eq_true, List.all_eq_true, beq_iff_eq, Bool.not_eq_true', List.isEmpty_eq_false_iff] at hok
    obtain ⟨⟨h1, h2⟩, h3⟩ := hok
    obtain ⟨l, hl, hj⟩ := psteps_at hL hs nd hnd
    refine wpAnyH_all h1 (by simpa using h2) fun i hi => ?_
    obtain ⟨x, hx, rfl⟩ := List.mem_map.1 hi
    obtain ⟨o, ho, hw, hstep⟩ := pj_at hl hj x hx
    have h4 := h3 x hx
    simp only [Bool.or_eq_true, Bool.and_eq_true, beq_iff_eq, List.any_eq_true] at h4
    obtain ⟨h5, h6⟩ := h4
    refine wpOp_of ho hw (hstep a w hS hI _ fun a' w' hS' hI' => ⟨hS', ?_⟩)
    rcases h6 with ⟨h7, h8⟩ | ⟨m, hm, h7, h8⟩
    · rw [h8]
      rw [h8] at h5
      have := hfin a' w' hS' (by rw [← h7]; exact hI')
      rwa [show cntF lf = n by omega] at this
    · rw [← h8]
      rw [← h8] at h5
      exact ih m hm (by omega) a' w' hS' (by rw [h7]; exact hI')
def flagsB : Array Bool → List Sg → Array Bool
  | l, [] => l
  | l, .one (i, _, _) :: r => flagsB (l.setIfInBounds i true) r
  | l, .two i j _ _ :: r => flagsB ((l.setIfInBounds i true).setIfInBounds j true) r
def okPre (ops : Array Oper) : Array Bool → List Sg → Bool
  | _, [] => true
  | l, .one (i, true, _) :: r => Region.free .any ops l i && (Region.ready .any ops l).contains i && okPre ops (l.setIfInBounds i true) r
  | _, _ => false
theorem pre_held (hsel : Region.noSelect ops = true) {Q0 : Exit → Act → World → Prop} {n : Nat} : ∀ (σ : List Sg) (l : Array Bool) (a : Act) (w : World), okPre ops l σ = true → S w → (∀ a w, S w → Q0 .normal a w → wpAnyH P .any ops (np Q) S n (flagsB l σ) a w) → Sched P ops Q0 S σ a w →
    wpAnyH P .any ops (np Q) S (n + cost σ) l a w := by
  intro σ
  induction σ with
  | nil => intro l a w _ hS hf h; exact hf a w hS h
  | cons x r ih =>
    intro l a w hok hS hf h
    cases x with
    | two i j N M => simp [okPre] at hok
    | one x =>
      obtain ⟨i, b, N⟩ := x
      cases b with
      | false => simp [okPre] at hok
      | true =>
        obtain ⟨o, v, ho, rfl, hy, h⟩ := h
        simp only [okPre, Bool.and_eq_true] at hok
        exact wpAnyH_take ho hsel hok.1.1 hok.1.2 (fun _ _ _ hp => hp) hy hS (ih _ _ _ hok.2 hS hf h)
/-- The beginning: what only yields; the pool; what stands behind it. -/
theorem wp_region_pool {id : Nat} {a : Act} {w : World} (I : Nat → Act → World → Prop) (σ0 : List Sg) (L0 : List Itm) (nodes : List Pn) (n0 : Pn) (L : List (Nat × List (SOp × Nat))) (lf : Array Bool) (kf : Nat) (σ1 : List Sg) (L1 : List Itm) (S : World → Prop) (hm : P.follows .mixedOrders = true)
    (hok : (Region.noSelect ops && okPre ops (Array.replicate ops.size false) σ0 && (flagsB (Array.replicate ops.size false) σ0 == n0.fl) && (ops.size == cntF n0.fl + cost σ0) && (cntF lf == cost σ1) && okS ops lf σ1 && dstsOk ops σ0 && dstsOk ops σ1) = true)
    (hn0 : n0 ∈ nodes) (hall : nodes.all (okNode ops nodes lf kf) = true) (hL0 : strips ops σ0 = some L0) (hL : stripP ops nodes = some L) (hL1 : strips ops σ1 = some L1) (hS : S w.drew)
    (h0 : SL P (endI (I n0.key)) S L0 a w.drew) (hs : PSteps P S I L) (h1 : ∀ a w, S w → I kf a w → SL P Q S L1 a w) : (Code.region id ops true).wp P Q a w := by
  simp only [Bool.and_eq_true, beq_iff_eq] at hok
  obtain ⟨⟨⟨⟨⟨⟨⟨q1, q2⟩, q3⟩, q4⟩, q5⟩, q6⟩, q7⟩, q8⟩ := hok
  refine np_mono (wp_region_held (S := S) hm ?_)
  rw [q4] at *
  have key := pre_held (P := P) (S := S) (Q := Q) (n := cntF n0.fl) q1 σ0 (Array.replicate (cntF n0.fl + cost σ0) false) a w.drew (by rw [← q4] at q2 ⊢; exact q2) hS (Q0 := endI (I n0.key)) (fun a' w' hS' hq => by
    have e : flagsB (Array.replicate (cntF n0.fl + cost σ0) false) σ0 = n0.fl := q3
    rw [e]
    refine pool_held hall hL hs (fun a'' w'' hS'' hI => ?_) _ n0 hn0 rfl a' w' hS' hq.2
    rw [q5]
    exact sched_held q1 σ1 lf a'' w'' q6 hS'' (sl_sched σ1 L1 a'' w'' hL1 q8 (h1 a'' w'' hS'' hI))) (sl_sched σ0 L0 a _ hL0 q7 h0)
  exact key
end
end Go.Proofs.YticnjkdaccacaaaDoor.Sx
