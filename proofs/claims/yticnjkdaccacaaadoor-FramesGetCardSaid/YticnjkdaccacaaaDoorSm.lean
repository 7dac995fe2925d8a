/- Memory as a list of things that lie apart. -/
import Derived.Test.YticnjkdaccacaaaDoorSy
namespace Go.Proofs.YticnjkdaccacaaaDoor.Sx
open Go Go.RowKit Base Own

/-- A thing in memory, with the blocks that it is in. -/
structure Asn where
  holds : World → Nat → (Nat → Prop) → Prop
  keep : ∀ {w w' : World} {B : Nat} {F G : Nat → Prop}, holds w B F → Chg G w w' → (∀ k, F k → ¬ G k) → (∀ k, k < B → ¬ G k) → holds w' B F
  dom : ∀ {w : World} {B : Nat} {F : Nat → Prop}, holds w B F → ∀ k, F k → B ≤ k ∧ k < w.heap.size
def SatF (w : World) (B : Nat) : (Nat → Prop) → List Asn → Prop
  | _, [] => True
  | U, A :: L => ∃ F, A.holds w B F ∧ (∀ k, F k → ¬ U k) ∧ SatF w B (fun k => U k ∨ F k) L
structure Sat (w0 w : World) (L : List Asn) : Prop where
  below : Below w0.heap.size w0 w
  parts : SatF w w0.heap.size (fun _ => False) L
section
variable {w0 w w' : World} {B : Nat} {U V : Nat → Prop} {A A' : Asn} {L M X Y : List Asn}
theorem SatF.weak : ∀ {L : List Asn} {U V : Nat → Prop}, SatF w B U L → (∀ k, V k → U k) → SatF w B V L := by
  intro L
  induction L with
  | nil => intro _ _ _ _; trivial
  | cons A L ih =>
    rintro U V ⟨F, h1, h2, h3⟩ hv
    exact ⟨F, h1, fun k hk hv' => h2 k hk (hv k hv'), ih h3 fun k hk => hk.imp (hv k) id⟩
theorem SatF.swap {A A' : Asn} (h : SatF w B U (A :: A' :: L)) : SatF w B U (A' :: A :: L) := by
  obtain ⟨F, h1, h2, F', h3, h4, h5⟩ := h
  exact ⟨F', h3, fun k hk hu => h4 k hk (.inl hu), F, h1, fun k hk hu => hu.elim (h2 k hk) (fun hf => h4 k hf (.inr hk)), h5.weak fun k hk => by
    rcases hk with (h | h) | h
    · exact .inl (.inl h)
    · exact .inr h
    · exact .inl (.inr h)⟩
theorem SatF.front : ∀ {X : List Asn} {U : Nat → Prop}, SatF w B U (X ++ A :: Y) → SatF w B U (A :: (X ++ Y)) := by
  intro X
  induction X with
  | nil => intro U h; exact h
  | cons C X ih =>
    rintro U ⟨F, h1, h2, h3⟩
    exact SatF.swap ⟨F, h1, h2, ih h3⟩
/-- The thing number i stands first. -/
theorem Sat.front (X : List Asn) {A : Asn} {Y : List Asn} (h : Sat w0 w (X ++ A :: Y)) : Sat w0 w (A :: (X ++ Y)) := ⟨h.below, h.parts.front⟩
theorem Sat.tl (h : Sat w0 w (A :: L)) : Sat w0 w L := by
  obtain ⟨F, _, _, h3⟩ := h.parts
  exact ⟨h.below, h3.weak fun _ hk => hk.elim⟩
theorem SatF.kept {G : Nat → Prop} (hc : Chg G w w') (hB : ∀ k, k < B → ¬ G k) : ∀ {L : List Asn} {U : Nat → Prop}, (∀ k, G k → U k) → SatF w B U L → SatF w' B U L := by
  intro L
  induction L with
  | nil => intro _ _ _; trivial
  | cons A L ih =>
    rintro U hG ⟨F, h1, h2, h3⟩
    exact ⟨F, A.keep h1 hc (fun k hk hg => h2 k hk (hG k hg)) hB, h2, ih (fun k hk => .inl (hG k hk)) h3⟩
theorem Sat.start (w : World) : Sat w w [] := ⟨Below.refl _ _, trivial⟩
theorem SatF.keptU {G : Nat → Prop} (hc : Chg G w w') (hB : ∀ k, k < B → ¬ G k) (h0 : ∀ k, k < w.heap.size → ¬ G k) : ∀ {L : List Asn} {U : Nat → Prop}, SatF w B U L → SatF w' B U L := by
  intro L
  induction L with
  | nil => intro _ _; trivial
  | cons A L ih =>
    rintro U ⟨F, h1, h2, h3⟩
    exact ⟨F, A.keep h1 hc (fun k hk hg => h0 k (A.dom h1 k hk).2 hg) hB, h2, ih h3⟩
theorem Sat.new (h : Sat w0 w L) (hb : Below w.heap.size w w') : Sat w0 w' L :=
  ⟨h.below.trans (below_weak h.below.size hb), h.parts.keptU (Chg.of_new hb) (fun _ _ h => h) (fun _ _ h => h)⟩
theorem Sat.drew (h : Sat w0 w L) : Sat w0 w.drew L := h.new (Below.refl _ _).drew
theorem Sat.alloc (h : Sat w0 w L) (o : Obj) : Sat w0 (w.alloc o) L := h.new ((Below.refl _ _).alloc (Nat.le_refl _) o)
theorem Sat.lower (h : Sat w w' L) (h0 : Below w0.heap.size w0 w) (hd : ∀ A ∈ L, ∀ F, A.holds w' w.heap.size F → A.holds w' w0.heap.size F) : Sat w0 w' L := by
  refine ⟨h0.trans (below_weak h0.size h.below), ?_⟩
  have key : ∀ {L : List Asn} {U : Nat → Prop}, (∀ A ∈ L, ∀ F, A.holds w' w.heap.size F → A.holds w' w0.heap.size F) → SatF w' w.heap.size U L → SatF w' w0.heap.size U L := by
    intro L
    induction L with
    | nil => intro _ _ _; trivial
    | cons A L ih =>
      rintro U hd ⟨F, h1, h2, h3⟩
      exact ⟨F, hd A (List.mem_cons_self) F h1, h2, ih (fun A hA => hd A (List.mem_cons_of_mem _ hA)) h3⟩
  exact key hd h.parts
/-- Something new. -/
theorem Sat.add {F : Nat → Prop} (h : Sat w0 w L) (hb : Below w.heap.size w w') (hA : A.holds w' w0.heap.size F) (hF : ∀ k, F k → w.heap.size ≤ k) : Sat w0 w' (A :: L) := by
  have h2 := h.new hb
  refine ⟨h2.below, F, hA, fun _ _ h => h, ?_⟩
  have key : ∀ {L : List Asn} {U : Nat → Prop}, SatF w w0.heap.size U L → SatF w' w0.heap.size (fun k => U k ∨ F k) L := by
    intro L
    induction L with
    | nil => intro _ _; trivial
    | cons C L ih =>
      rintro U ⟨G, h1, h2, h3⟩
      refine ⟨G, C.keep h1 (Chg.of_new hb) (fun _ _ h => h) (fun _ _ h => h), fun k hk hu => ?_, (ih h3).weak fun k hk => ?_⟩
      · rcases hu with hu | hu
        · exact h2 k hk hu
        · have := (C.dom h1 k hk).2; have := hF k hu; omega
      · rcases hk with (h | h) | h
        · exact .inl (.inl h)
        · exact .inr h
        · exact .inl (.inr h)
  exact key h.parts
/-- The first thing changes. -/
theorem Sat.opened (h : Sat w0 w (A :: L)) : ∃ F, A.holds w w0.heap.size F ∧ (∀ k, F k → w0.heap.size ≤ k ∧ k < w.heap.size) ∧
    ∀ {A' : Asn} {w' : World} {F' G : Nat → Prop}, A'.holds w' w0.heap.size F' → Chg G w w' → (∀ k, k < w.heap.size → G k → F k) → (∀ k, F' k → F k ∨ w.heap.size ≤ k) → Sat w0 w' (A' :: L) := by
  obtain ⟨F, h1, h2, h3⟩ := h.parts
  refine ⟨F, h1, A.dom h1, fun {A' w' F' G} hA' hc hG hF' => ?_⟩
  have hc' : Chg F w w' := hc.mono hG
  have hB : ∀ k, k < w0.heap.size → ¬ F k := fun k hk hf => by have := (A.dom h1 k hf).1; omega
  refine ⟨hc'.below h.below h.below.size (fun k hk => (A.dom h1 k hk).1), F', hA', fun _ _ h => h, ?_⟩
  have key : ∀ {L : List Asn} {U : Nat → Prop}, (∀ k, F k → U k) → SatF w w0.heap.size U L → SatF w' w0.heap.size (fun k => U k ∨ F' k) L := by
    intro L
    induction L with
    | nil => intro _ _ _; trivial
    | cons C L ih =>
      rintro U hU ⟨H, h1, h2, h3⟩
      refine ⟨H, C.keep h1 hc' (fun k hk hf => h2 k hk (hU k hf)) hB, fun k hk hu => ?_, (ih (fun k hk => .inl (hU k hk)) h3).weak fun k hk => ?_⟩
      · rcases hu with hu | hu
        · exact h2 k hk hu
        · rcases hF' k hu with h | h
          · exact h2 k hk (hU k h)
          · have := (C.dom h1 k hk).2; omega
      · rcases hk with (h | h) | h
        · exact .inl (.inl h)
        · exact .inr h
        · exact .inl (.inr h)
  exact (key (U := fun k => False ∨ F k) (fun k hk => .inr hk) h3).weak fun k hk => hk.elim (fun h => h.elim) .inr
theorem erase_split : ∀ {L : List Asn} {i : Nat}, L[i]? = some A → L = L.take i ++ A :: L.drop (i + 1) ∧ L.eraseIdx i = L.take i ++ L.drop (i + 1) := by
  intro L
  induction L with
  | nil => intro i h; simp at h
  | cons C L ih =>
    intro i h
    cases i with
    | zero => simp at h; subst h; exact ⟨rfl, rfl⟩
    | succ i =>
      obtain ⟨h1, h2⟩ := ih (by simpa using h)
      exact ⟨by simp only [List.take_succ_cons, List.drop_succ_cons, List.cons_append]; rw [← h1], by simp [h2]⟩
theorem Sat.frontAt (h : Sat w0 w L) (i : Nat) (hi : L[i]? = some A) : Sat w0 w (A :: L.eraseIdx i) := by
  obtain ⟨h1, h2⟩ := erase_split hi
  rw [h2]
  rw [h1] at h
  exact h.front _
def maskL : List Bool → List Asn → List Asn
  | [], L => L
  | _ :: _, [] => []
  | true :: m, A :: L => A :: maskL m L
  | false :: m, _ :: L => maskL m L
theorem Sat.mask (h : Sat w0 w L) (m : List Bool) : Sat w0 w (maskL m L) := by
  refine ⟨h.below, ?_⟩
  have key : ∀ {m : List Bool} {L : List Asn} {U : Nat → Prop}, SatF w w0.heap.size U L → SatF w w0.heap.size U (maskL m L) := by
    intro m
    induction m with
    | nil => intro L U h; exact h
    | cons b m ih =>
      intro L U h
      cases L with
      | nil => trivial
      | cons A L =>
        obtain ⟨F, h1, h2, h3⟩ := h
        cases b with
        | true => exact ⟨F, h1, h2, ih h3⟩
        | false => exact ih (h3.weak fun k hk => .inl hk)
  exact key h.parts
/-- What a call made for itself joins the rest. -/
theorem Sat.join {w1 : World} {M : List Asn} (h : Sat w0 w L) (h2 : Sat w w1 M) (hd : ∀ A ∈ M, ∀ F, A.holds w1 w.heap.size F → A.holds w1 w0.heap.size F) : Sat w0 w1 (M ++ L) := by
  have h3 := h.new h2.below
  refine ⟨h3.below, ?_⟩
  have key : ∀ {M : List Asn} {U : Nat → Prop}, (∀ A ∈ M, ∀ F, A.holds w1 w.heap.size F → A.holds w1 w0.heap.size F) → (∀ k, U k → w.heap.size ≤ k) → SatF w1 w.heap.size U M → SatF w1 w0.heap.size U (M ++ L) := by
    intro M
    induction M with
    | nil =>
      intro U _ hU _
      have : ∀ {L : List Asn} {U V : Nat → Prop}, (∀ k, U k → w.heap.size ≤ k) → SatF w w0.heap.size V L → SatF w1 w0.heap.size (fun k => U k ∨ V k) L := by
        intro L
        induction L with
        | nil => intro _ _ _ _; trivial
        | cons C L ih =>
          rintro U V hU ⟨G, g1, g2, g3⟩
          refine ⟨G, C.keep g1 (Chg.of_new h2.below) (fun _ _ h => h) (fun _ _ h => h), fun k hk hu => ?_, (ih hU g3).weak fun k hk => ?_⟩
          · rcases hu with hu | hu
            · have := (C.dom g1 k hk).2; have := hU k hu; omega
            · exact g2 k hk hu
          · rcases hk with (h | h) | h
            · exact .inl h
            · exact .inr (.inl h)
            · exact .inr (.inr h)
      exact (this hU h.parts).weak fun k hk => .inl hk
    | cons A M ih =>
      rintro U hd hU ⟨F, h1, h2, h3⟩
      exact ⟨F, hd A (List.mem_cons_self) F h1, h2, ih (fun A hA => hd A (List.mem_cons_of_mem _ hA)) (fun k hk => hk.elim (hU k) fun hf => (A.dom h1 k hf).1) h3⟩
  exact key hd (fun _ h => h.elim) h2.parts
theorem Sat.hd (h : Sat w0 w (A :: L)) : ∃ F, A.holds w w0.heap.size F := by
  obtain ⟨F, h1, _⟩ := h.parts
  exact ⟨F, h1⟩
end

/-! ### Rows of whole numbers -/
/-- What a slice reads as, and that its numbers are of its kind. -/
structure Rk (k : IntKind) (w : World) (A : Option Addr) (l : List Int) : Prop where
  rd : Rd k w A l
  wf : ∀ z ∈ l, (Lit.int k z).wf = true
section
variable {k : IntKind} {w w0 w' : World} {A : Option Addr} {l : List Int}
theorem Rk.below (h : Rk k w A l) (hb : Below w.heap.size w w') : Rk k w' A l := ⟨h.rd.below hb, h.wf⟩
theorem Rk.at {L : List Asn} (h : Rk k w0 A l) (S : Sat w0 w L) : Rk k w A l := h.below S.below
theorem Rk.take (h : Rk k w A l) (n : Nat) : Rk k w A (l.take n) := ⟨h.rd.take n, fun z hz => h.wf z (List.mem_of_mem_take hz)⟩
theorem Rk.drop (h : Rk k w A l) {n c : Nat} (hc : l.length ≤ c) : Rk k w (dropA A c n) (l.drop n) := ⟨h.rd.drop hc, fun z hz => h.wf z (List.mem_of_mem_drop hz)⟩
theorem Rk.nil : Rk k w A [] := ⟨Rd.nil, fun z hz => by cases hz⟩
theorem Rk.bytes (h : Rk .u8 w A l) : ∀ z ∈ l, 0 ≤ z ∧ z < 256 := fun z hz => by
  have := h.wf z hz
  rw [wf_int] at this
  have h1 : IntKind.u8.min = 0 := by decide
  have h2 : IntKind.u8.max = 255 := by decide
  omega
/-- A row of the call's own. -/
def ownA (k : IntKind) (e : TypeId) (A : Option Addr) (c : Nat) (l : List Int) : Asn where
  holds := fun w B F => OwnI k w B e (.slice A l.length c) l ∧ (∀ z ∈ l, (Lit.int k z).wf = true) ∧ ∀ g, F g ↔ (Value.slice A l.length c).ownBlock = some g
  keep := fun ⟨h1, h2, h3⟩ hc hF _ => ⟨h1.kept hc fun g hg => hF g ((h3 g).2 hg), h2, h3⟩
  dom := fun ⟨h1, _, h3⟩ g hg => h1.lt g ((h3 g).1 hg)
variable {e : TypeId} {c : Nat} {R : List Asn}
theorem Sat.own (S : Sat w0 w (ownA k e A c l :: R)) : Rk k w A l ∧ l.length ≤ c ∧ c ≤ maxLen := by
  obtain ⟨F, h1, h2, _⟩ := S.hd
  obtain ⟨A', c', e', h3, h4, h5, _⟩ := h1.slice
  injection e' with e1 e2 e3
  subst e1 e3
  exact ⟨⟨h5, h2⟩, h3, h4⟩
theorem Sat.ownAt {L : List Asn} (S : Sat w0 w L) (i : Nat) (hi : L[i]? = some (ownA k e A c l)) : Rk k w A l := (S.frontAt i hi).own.1
theorem own_lower {w : World} {B B' : Nat} (hB : B' ≤ B) : ∀ F, (ownA k e A c l).holds w B F → (ownA k e A c l).holds w B' F := fun _ ⟨h1, h2, h3⟩ => ⟨h1.lower hB, h2, h3⟩
theorem Sat.nilRow (k : IntKind) (e : TypeId) (S : Sat w0 w R) : Sat w0 w (ownA k e none 0 [] :: R) :=
  S.add (F := fun _ => False) (Below.refl _ _) ⟨OwnI.nil k w _ e, fun z hz => (by cases hz), fun g => by simp [Value.ownBlock]⟩ fun _ h => h.elim
/-- A row that a call made. -/
theorem Sat.row {v : Value} (S : Sat w0 w R) (hb : Below w.heap.size w w') (h : OwnI k w' w.heap.size e v l) (hwf : ∀ z ∈ l, (Lit.int k z).wf = true) : ∃ A c, v = .slice A l.length c ∧ vok (.slice A l.length c) = true ∧ Sat w0 w' (ownA k e A c l :: R) := by
  obtain ⟨A, c, rfl, h1, h2, _, _⟩ := h.slice
  refine ⟨A, c, rfl, by simp [vok, vokC, vok1, h1, h2], S.add (F := fun g => (Value.slice A l.length c).ownBlock = some g) hb ⟨h.lower S.below.size, hwf, fun g => Iff.rfl⟩ fun g hg => (h.lt g hg).1⟩
end
section
variable {P : Program} {T : Orc} {ops : Array Oper} {Q : Exit → Act → World → Prop} {Df : List Deferred} {N : Nat} {a : Act} {w w0 : World} {L : Env} {k : IntKind}
theorem indexAddr_run (hT : T.Ok P) (fr : FrD Df N a L) {o : Oper} {t : TypeId} {x ix : Operand} (ho : o.op = .indexAddr t x ix) {A : Addr} {n c : Nat} {e s : Nat} {ki : IntKind} {i : Int} (hx : ev L x = some (.slice (some A) n c)) (hi : ev L ix = some (.int ki i))
    (ht : T.ty.lookup t = some (.slice e)) (hs : T.sz.lookup e = some s) (h0 : 0 ≤ i) (hlt : i < n) (w : World) : (execOp a.eval o).run P w = .ok (.value (.pointer (some (A.add (i.toNat * s))))) w := by
  unfold execOp
  simp only [ho, (fr.ev hx).1, (fr.ev hi).1, Instr.indexAt, asIntOf]
  simp [run_underlying (hT.und ht), size_run hT hs, h0, hlt]
theorem load_run (hT : T.Ok P) (fr : FrD Df N a L) {o : Oper} {t : TypeId} {x : Operand} (ho : o.op = .load t x) {A : Addr} {v : Value} {d : TypeDesc} (hx : ev L x = some (.pointer (some A))) (ht : T.ty.lookup t = some d) (hd : aggD d = false) (hc : w.cell? A = some v) : (execOp a.eval o).run P w = .ok (.value v) w := by
  unfold execOp
  simp only [ho, (fr.ev hx).1, Instr.loadAt, Instr.sureAddr, loadVar]
  simp [isAgg_run (hT.und ht), hd, run_load, hc]
theorem FrD.skip {d : Nat} {v : Value} (fr : FrD Df N a ((d, v) :: L)) (h : L.lookup d = none) : FrD Df N a L := ⟨fr.size, fr.defers, fun e u he => fr.get e u (by
  rw [lookup_cons]
  by_cases hd : e = d
  · subst hd; rw [h] at he; cases he
  · rw [if_neg hd]; exact he)⟩
/-- An element of a slice of whole numbers. -/
theorem wl_ld (hT : T.Ok P) {o1 o2 : Oper} {rest : List Oper} {t te : TypeId} {x ix : Operand} {d1 d2 : Nat} {A : Option Addr} {l : List Int} {n c e : Nat} {ki : IntKind} {i : Int} {de : TypeDesc}
    (hr : Rk k w A l) (fr : FrD Df N a L) (hw : wantL ops L o1 = some true) (ho1 : o1.op = .indexAddr t x ix) (hd1 : o1.dst = some d1) (hw2 : wantL ops L o2 = some true) (ho2 : o2.op = .load te (.tmp d1)) (hd2 : o2.dst = some d2) (hl1 : Nat.blt d1 N = true) (hl2 : Nat.blt d2 N = true)
    (hx : ev L x = some (.slice A n c)) (hi : ev L ix = some (.int ki i)) (ht : T.ty.lookup t = some (.slice e)) (hs : T.sz.lookup e = some 1) (hte : T.ty.lookup te = some de) (hde : aggD de = false) (hn : n = l.length) (hf : L.lookup d1 = none) (hb : 0 ≤ i ∧ i < (l.length : Int))
    (h : ∀ a', FrD Df N a' ((d2, .int k (l.getD i.toNat 0)) :: L) → wpList P ops Q rest a' w) : wpList P ops Q (o1 :: o2 :: rest) a w := by
  subst hn
  obtain ⟨j, rfl⟩ : ∃ j : Nat, i = j := ⟨i.toNat, by omega⟩
  have hj : j < l.length := by omega
  obtain ⟨ad, rfl, -, hc⟩ := hr.rd.cell hj
  refine wl_val fr hw hd1 hl1 (indexAddr_run hT fr ho1 hx hi ht hs (by omega) hb.2 w) rfl fun a1 fr1 => ?_
  have hw3 : wantL ops ((d1, .pointer (some (ad.add ((j : Int).toNat * 1)))) :: L) o2 = some true := by
    have hk := hw2
    unfold wantL at hk ⊢
    split at hk
    · exact hk
    · rename_i j' want hg'
      split at hk
      · rename_i t' ht'
        split at hk
        · rename_i b hb'
          have hne : t' ≠ d1 := fun e => by subst e; rw [hf] at hb'; cases hb'
          rw [lookup_cons, if_neg hne, hb']; exact hk
        · cases hk
        · cases hk
      · cases hk
  refine wl_val (v := .int k (l.getD j 0)) fr1 hw3 hd2 hl2 (load_run hT fr1 ho2 (by show ((d1, _) :: L).lookup d1 = _; rw [lookup_cons, if_pos rfl]) hte hde (by rw [Int.toNat_natCast, Nat.mul_one]; exact hc)) ?_ fun a2 fr2 => h a2 ?_
  · have hm : l.getD j 0 ∈ l := by rw [List.getD_eq_getElem?_getD, List.getElem?_eq_getElem hj]; exact List.getElem_mem hj
    exact hr.wf _ hm
  · refine ⟨fr2.size, fr2.defers, fun e u he => fr2.get e u ?_⟩
    rw [lookup_cons] at he ⊢
    by_cases h1 : e = d2
    · rw [if_pos h1] at he ⊢; rw [Int.toNat_natCast] at he; exact he
    · rw [if_neg h1] at he ⊢
      rw [lookup_cons]
      by_cases h2 : e = d1
      · subst h2; rw [hf] at he; cases he
      · rw [if_neg h2]; exact he
end
theorem ite_h {ρ : Type} {c : Prop} [Decidable c] {E1 E2 : Option ρ} {r : ρ} {G : Prop} (h : (if c then E1 else E2) = some r) (h1 : c → E1 = some r → G) (h2 : ¬ c → E2 = some r → G) : G := by
  by_cases hc : c
  · rw [if_pos hc] at h; exact h1 hc h
  · rw [if_neg hc] at h; exact h2 hc h
end Go.Proofs.YticnjkdaccacaaaDoor.Sx
