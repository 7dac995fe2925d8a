/- Rows of rows: slices of slices of numbers, read in place; and those of the call's own, that grow. -/
import Derived.Test.YticnjkdaccacaaaDoorRdr
import Derived.Test.YticnjkdaccacaaaDoorRf
namespace Go.Proofs.YticnjkdaccacaaaDoor.Sx
open Go Go.RowKit Base Own OwnV

/-! ### What is read -/
theorem row_of_rk {k : IntKind} {w : World} {A : Option Addr} {l : List Int} (h : Rk k w A l) : Rdr.Row (Rdr.int k) w A l := fun hne => by
  obtain ⟨ad, e, h1, h2⟩ := h.rd hne
  refine ⟨ad, e, fun _ => h1, fun i y hy => ⟨[.int k y], ⟨rfl, h.wf y (List.mem_of_getElem? hy)⟩, fun j u hu => ?_⟩⟩
  cases j with
  | zero =>
    injection hu with hu
    obtain ⟨hi, hy⟩ := List.getElem?_eq_some_iff.1 hy
    have := h2 i hi
    rw [show i * (Rdr.int k).sz + 0 = i from by show i * 1 + 0 = i; omega, this, ← hu, List.getD_eq_getElem?_getD, List.getElem?_eq_getElem hi, ← hy]; rfl
  | succ j => cases hu
theorem rk_of_row {k : IntKind} {w : World} {A : Option Addr} {l : List Int} (h : Rdr.Row (Rdr.int k) w A l) : Rk k w A l := ⟨(Rdr.Row.rd h).1, (Rdr.Row.rd h).2⟩
/-- Rows of rows of numbers of a kind. -/
abbrev RR (k : IntKind) (w : World) (A : Option Addr) (ls : List (List Int)) : Prop := Rdr.Row (Rdr.sl (Rdr.int k)) w A ls
theorem RR.take {k : IntKind} {w : World} {A : Option Addr} {ls : List (List Int)} (h : RR k w A ls) (n : Nat) : RR k w A (ls.take n) := fun hne => by
  have hn : ls ≠ [] := fun e => hne (by rw [e, List.take_nil])
  obtain ⟨ad, e, h1, h2⟩ := h hn
  refine ⟨ad, e, h1, fun i y hy => ?_⟩
  rw [List.getElem?_take] at hy
  split at hy
  · exact h2 i y hy
  · cases hy
theorem RR.nil {k : IntKind} {w : World} {A : Option Addr} : RR k w A [] := fun h => absurd rfl h
/-- An element. -/
theorem RR.get {k : IntKind} {w : World} {A : Option Addr} {ls : List (List Int)} (h : RR k w A ls) {i : Int} (hi : 0 ≤ i ∧ i < (ls.length : Int)) :
    ∃ A' c', Rk k w A' (ls.getD i.toNat []) ∧ ((ls.getD i.toNat []).length ≤ c' ∧ c' ≤ maxLen) ∧ ∃ ad, A = some ad ∧ w.cell? (ad.add (i.toNat * 1)) = some (.slice A' (ls.getD i.toNat []).length c') := by
  obtain ⟨j, rfl⟩ : ∃ j : Nat, i = j := ⟨i.toNat, by omega⟩
  have hj : j < ls.length := by omega
  obtain ⟨ad, e, _, h2⟩ := h (by intro e; rw [e] at hj; exact absurd hj (Nat.not_lt_zero _))
  obtain ⟨c, ⟨A', c', rfl, h3, h4, h5⟩, h6⟩ := h2 j _ (List.getElem?_eq_getElem hj)
  have hg : ls.getD j [] = ls[j] := by rw [List.getD_eq_getElem?_getD, List.getElem?_eq_getElem hj]; rfl
  have h7 := h6 0 _ rfl
  have h8 : (Rdr.sl (Rdr.int k)).sz = 1 := rfl
  rw [h8, Nat.add_zero] at h7
  rw [Int.toNat_natCast, hg]
  exact ⟨A', c', rk_of_row h5, ⟨h3, h4⟩, ad, e, h7⟩
theorem RR.cellAt {w0 w : World} (hb : Below w0.heap.size w0 w) {ad : Addr} {v : Value} (h : w0.cell? ad = some v) : w.cell? ad = some v := by
  rw [hb.cell (World.block_lt_of_cell? w0 _ h)]; exact h
/-- All that is in it, and how long it may be. -/
theorem RR.facts {k : IntKind} {w : World} {A : Option Addr} {ls : List (List Int)} (h : RR k w A ls) : ∀ x ∈ ls, x.length ≤ maxLen ∧ ∀ z ∈ x, (Lit.int k z).wf = true := fun x hx => by
  obtain ⟨i, hi, rfl⟩ := List.getElem_of_mem hx
  obtain ⟨ad, e, _, h2⟩ := h (by intro e; rw [e] at hi; exact absurd hi (Nat.not_lt_zero _))
  obtain ⟨c, ⟨A', c', rfl, h3, h4, h5⟩, h6⟩ := h2 i _ (List.getElem?_eq_getElem hi)
  exact ⟨Nat.le_trans h3 h4, (rk_of_row h5).wf⟩
section
variable {P : Program} {T : Orc} {ops : Array Oper} {Q : Exit → Act → World → Prop} {S' : World → Prop} {Df : List Deferred} {N : Nat} {a : Act} {w w0 : World} {L : Env} {R : List Asn}
theorem FrD.skip2 {d1 d2 : Nat} {v1 v2 : Value} (fr : FrD Df N a ((d2, v2) :: (d1, v1) :: L)) (h1 : L.lookup d1 = none) : FrD Df N a ((d2, v2) :: L) :=
  ⟨fr.size, fr.defers, fun e u he => fr.get e u (by
    rw [lookup_cons] at he ⊢
    by_cases h3 : e = d2
    · rw [if_pos h3] at he ⊢; exact he
    · rw [if_neg h3] at he ⊢
      rw [lookup_cons]
      by_cases h4 : e = d1
      · subst h4; rw [h1] at he; cases he
      · rw [if_neg h4]; exact he)⟩
theorem want_skip {o : Oper} {d : Nat} {v : Value} {b : Bool} (h : wantL ops L o = some b) (hf : L.lookup d = none) : wantL ops ((d, v) :: L) o = some b := by
  unfold wantL at h ⊢
  split at h
  · exact h
  · rename_i j' want hg'
    split at h
    · rename_i t' ht'
      split at h
      · rename_i b hb'
        have hne : t' ≠ d := fun e => by subst e; rw [hf] at hb'; cases hb'
        rw [lookup_cons, if_neg hne, hb']; exact h
      · rename_i vs hb'
        have hne : t' ≠ d := fun e => by subst e; rw [hf] at hb'; cases hb'
        rw [lookup_cons, if_neg hne, hb']; exact h
      · cases h
    · cases h
/-- An element whose cell is known is loaded. -/
theorem wl_ldc (hT : T.Ok P) {o1 o2 : Oper} {rest : List Oper} {t te : TypeId} {x ix : Operand} {d1 d2 : Nat} {A : Option Addr} {v : Value} {n c e : Nat} {ki : IntKind} {i : Int} {de : TypeDesc}
    (hr : ∃ ad, A = some ad ∧ w.cell? (ad.add (i.toNat * 1)) = some v) (hv : vok v = true) (fr : FrD Df N a L) (hw : wantL ops L o1 = some true) (ho1 : o1.op = .indexAddr t x ix) (hd1 : o1.dst = some d1) (hw2 : wantL ops L o2 = some true) (ho2 : o2.op = .load te (.tmp d1)) (hd2 : o2.dst = some d2) (hl1 : Nat.blt d1 N = true) (hl2 : Nat.blt d2 N = true)
    (hx : ev L x = some (.slice A n c)) (hi : ev L ix = some (.int ki i)) (ht : T.ty.lookup t = some (.slice e)) (hs : T.sz.lookup e = some 1) (hte : T.ty.lookup te = some de) (hde : aggD de = false) (hf : L.lookup d1 = none) (hb : 0 ≤ i ∧ i < (n : Int))
    (h : ∀ a', FrD Df N a' ((d2, v) :: L) → wpList P ops Q rest a' w) : wpList P ops Q (o1 :: o2 :: rest) a w := by
  obtain ⟨ad, rfl, hc⟩ := hr
  refine wl_val fr hw hd1 hl1 (indexAddr_run hT fr ho1 hx hi ht hs hb.1 hb.2 w) rfl fun a1 fr1 => ?_
  exact wl_val fr1 (want_skip hw2 hf) hd2 hl2 (load_run hT fr1 ho2 (by show ((d1, _) :: L).lookup d1 = _; rw [lookup_cons, if_pos rfl]) hte hde hc) hv fun a2 fr2 => h a2 (fr2.skip2 hf)
/-! ### Rows of one's own -/
def rwsA (e : TypeId) (A : Option Addr) (c : Nat) (rs : List Rw) : Asn where
  holds := fun w B F => RowV w B e 1 (.slice A rs.length c) rs.length (rs.map rwV) ∧ (∀ r ∈ rs, vok (rwV r) = true) ∧ ∀ g, F g ↔ (Value.slice A rs.length c).ownBlock = some g
  keep := fun ⟨h1, h2, h3⟩ hc hF _ => ⟨h1.kept hc fun g hg => hF g ((h3 g).2 hg), h2, h3⟩
  dom := fun ⟨h1, _, h3⟩ g hg => h1.lt g ((h3 g).1 hg)
def empA : Asn where
  holds := fun _ _ F => ∀ g, ¬ F g
  keep := fun h _ _ _ => h
  dom := fun h g hg => absurd hg (h g)
def allA : List Asn → Asn
  | [] => empA
  | A :: L => sepA A (allA L)
theorem allA_mem {w : World} {B : Nat} : ∀ {L : List Asn} {F : Nat → Prop}, (allA L).holds w B F → ∀ A ∈ L, ∃ F', A.holds w B F' := by
  intro L
  induction L with
  | nil => intro F _ A hA; cases hA
  | cons C L ih =>
    rintro F ⟨F1, F2, h1, h2, _, _⟩ A hA
    rcases List.mem_cons.1 hA with rfl | hA
    · exact ⟨F1, h1⟩
    · exact ih h2 A hA
theorem Sat.empA (S : Sat w0 w R) : Sat w0 w (empA :: R) := S.add (F := fun _ => False) (Below.refl _ _) (fun _ h => h) fun _ h => h.elim
/-- Rows of one's own: the outer row, and each inner one. -/
def recsA (k : IntKind) (eo ei : TypeId) (A : Option Addr) (c : Nat) (ls : List (List Int)) : Asn :=
  exA fun rs : { rs : List Rw // rs.map (·.2.2) = ls } => sepA (rwsA eo A c rs.1) (allA (rs.1.reverse.map fun r => ownA k ei r.1 r.2.1 r.2.2))
theorem Sat.noRecs (k : IntKind) (eo ei : TypeId) (S : Sat w0 w R) : Sat w0 w (recsA k eo ei none 0 [] :: R) := by
  refine Sat.toEx (f := fun rs : { rs : List Rw // rs.map (·.2.2) = [] } => sepA (rwsA eo none 0 rs.1) (allA (rs.1.reverse.map fun r => ownA k ei r.1 r.2.1 r.2.2))) ⟨[], rfl⟩ (Sat.toSep ?_)
  exact S.empA.add (F := fun _ => False) (Below.refl _ _) ⟨RowV.nil w _ eo 1, fun r hr => (by cases hr), fun g => by simp [Value.ownBlock]⟩ fun _ h => h.elim
theorem rec_read {k : IntKind} {eo ei : TypeId} {A : Option Addr} {c : Nat} {ls : List (List Int)} {B : Nat} {F : Nat → Prop} (h : (recsA k eo ei A c ls).holds w B F) : RR k w A ls ∧ (ls.length ≤ c ∧ c ≤ maxLen) := by
  obtain ⟨⟨rs, rfl⟩, F1, F2, ⟨h1, h2, h3⟩, h4, _, _⟩ := h
  obtain ⟨A', c', e, h5, h6, h7, h8⟩ := h1.slice
  injection e with e1 e2 e3
  subst e1 e3
  rw [List.length_map]
  refine ⟨fun hne => ?_, h5, h6⟩
  have hpos : 0 < rs.length := by
    rcases Nat.eq_zero_or_pos rs.length with h0 | h0
    · rw [List.eq_nil_of_length_eq_zero h0] at hne; exact absurd rfl hne
    · exact h0
  cases A with
  | none =>
    have h0 : rs.length = 0 := h7 rfl
    omega
  | some ad =>
    obtain ⟨g, rfl, h9, h10, h11, _⟩ := h8 ad rfl
    refine ⟨⟨g, 0, none⟩, rfl, fun _ => h10, fun i y hy => ?_⟩
    rw [List.getElem?_map] at hy
    obtain ⟨r, hr, rfl⟩ := Option.map_eq_some_iff.1 hy
    have hm := List.mem_of_getElem? hr
    obtain ⟨F', g1, g2, _⟩ := allA_mem h4 (ownA k ei r.1 r.2.1 r.2.2) (List.mem_map.2 ⟨r, List.mem_reverse.2 hm, rfl⟩)
    obtain ⟨A2, c2, e', g3, g4, g5, _⟩ := g1.slice
    injection e' with e1 e2 e3
    refine ⟨[rwV r], ⟨r.1, r.2.1, rfl, by rw [e3]; exact g3, by rw [e3]; exact g4, row_of_rk ⟨by rw [e1]; exact g5, g2⟩⟩, fun j u hu => ?_⟩
    cases j with
    | zero =>
      injection hu with hu
      subst hu
      have := h11 i (rwV r) (by rw [List.getElem?_map, hr]; rfl)
      rw [show i * (Rdr.sl (Rdr.int k)).sz + 0 = i from by show i * 1 + 0 = i; omega, addr0]
      rw [Nat.zero_add] at this
      exact this
    | succ j => cases hu
theorem Sat.recAt {M : List Asn} {k : IntKind} {eo ei : TypeId} {A : Option Addr} {c : Nat} {ls : List (List Int)} (S : Sat w0 w M) (i : Nat) (hi : M[i]? = some (recsA k eo ei A c ls)) : RR k w A ls ∧ (ls.length ≤ c ∧ c ≤ maxLen) := by
  obtain ⟨F, h1⟩ := (S.frontAt i hi).hd
  exact rec_read h1
/-- A literal of one cell. -/
theorem one_cell_exec {t e : TypeId} (fr : FrD Df N a L) {o : Oper} {x : Operand} {v : Value} (ho : o.op = .buildSlice t 1 #[(0, x)]) (hx : ev L x = some v) (hv : v.cells = #[v]) (hu : P.underlying t = some (.slice e)) (hi : (P.info? e).map (fun i => (i.zero.isSome, i.size)) = some (true, 1)) :
    (execOp a.eval o).run P w = .ok (.value (.slice (some ⟨w.heap.size, 0, none⟩) 1 1)) (w.alloc (.cells #[v] e)) := by
  obtain ⟨ie, hie, hzz⟩ := Option.map_eq_some_iff.1 hi
  simp only [Prod.mk.injEq] at hzz
  obtain ⟨z, hz⟩ := Option.isSome_iff_exists.1 hzz.1
  have hf : Instr.fill (fun i => some (i * ie.size, ie.size)) ((Array.range (1 * ie.size)).map (z.cells[· % z.cells.size]!)) (#[(0, x)].map fun (i, x) => (i, a.eval x)).toList = some #[v] := by
    rw [hzz.2]
    simp only [List.map_toArray, List.map_cons, List.map_nil, (fr.ev hx).1]
    rw [fill_step _ _ 0 0 1 v [] (by simp) (by rw [hv]; rfl) (by simp), Instr.fill]
    congr 1
    rw [hv]
    apply Array.toList_inj.1
    unfold splice
    simp
  unfold execOp
  simp only [ho]
  rw [Sem.run_bind, run_buildSlice w t e 1 _ #[v] ie z hu hie hz (by rw [hzz.2]; omega) (by rw [hzz.2]; omega) hf, Result.andThen_ok]
  rfl
theorem rws_app_exec {t e : TypeId} {bytes : Nat} (ht : P.underlying t = some (.slice e)) (hinfo : (P.info? e).map (fun i => (i.zero.map (·.cells.size), i.size, i.bytes)) = some (some 1, 1, bytes)) (hby : bytes ≤ 64) (fr : FrD Df N a L) {o : Oper} {x y : Operand} {A : Option Addr} {ad : Addr} {n c cy : Nat} {rs : List Rw} {r : Rw}
    (ho : o.op = .call { callee := .builtin .append, args := #[x, y], argTypes := #[t, t] }) (hx : ev L x = some (.slice A n c)) (hn : n = rs.length) (hy : ev L y = some (.slice (some ad) 1 cy)) (hc : w.cell? ad = some (rwV r)) (hv : vok (rwV r) = true) (hb : rs.length ≤ 1000000000) (S : Sat w0 w (rwsA e A c rs :: R)) :
    ∃ A' c' w', (execOp a.eval o).run P w = .ok (.value (.slice A' (rs ++ [r]).length c')) w' ∧ vok (.slice A' (rs ++ [r]).length c') = true ∧ Sat w0 w' (rwsA e A' c' (rs ++ [r]) :: R) := by
  subst hn
  obtain ⟨F, ⟨h1, h2, h3⟩, hF, hk⟩ := S.opened
  obtain ⟨i, hi, hzz⟩ := Option.map_eq_some_iff.1 hinfo
  simp only [Prod.mk.injEq] at hzz
  obtain ⟨hz1, hsz, hbi⟩ := hzz
  obtain ⟨z0, hz, hzc⟩ := Option.map_eq_some_iff.1 hz1
  have hmul : (rs.length + 1) * bytes ≤ (rs.length + 1) * 64 := Nat.mul_le_mul_left _ hby
  obtain ⟨v', w', hr, g2, g3, _, g5⟩ := run_append_own_at (P := P) w w0.heap.size t o.type e i z0 1 bytes ht hi hz hsz hbi hzc Nat.one_pos (.slice A rs.length c) rs.length (rs.map rwV) h1 ad 1 cy [rwV r] rfl (fun j u hu => by
    cases j with
    | zero => injection hu with hu; subst hu; rw [show ad.add 0 = ad from by cases ad; rename_i b o s; unfold Addr.add; cases s <;> rfl]; exact hc
    | succ j => cases hu) (fun u hu => by rw [List.mem_singleton] at hu; subst hu; rfl) (by unfold maxLen; omega) (by omega) S.below.size
  have g2' : RowV w' w0.heap.size e 1 v' (rs.length + 1) (rs.map rwV ++ [rwV r]) := g2
  obtain ⟨A', c', rfl, h7, h8, _, _⟩ := g2'.slice
  have hl : (rs ++ [r]).length = rs.length + 1 := by simp
  rw [hl]
  refine ⟨A', c', w', ?_, vok_sl ⟨h7, h8⟩, ?_⟩
  · unfold execOp
    simp only [ho, resolve]
    rw [Sem.run_bind, Sem.run_pure, Result.andThen_ok]
    simp only [invoke, builtin, List.map_toArray, List.map_cons, List.map_nil, (fr.ev hx).1, (fr.ev hy).1]
    rw [Sem.run_bind, hr]; rfl
  · refine hk (A' := rwsA e A' c' (rs ++ [r])) (F' := fun g => (Value.slice A' (rs ++ [r]).length c').ownBlock = some g) ⟨by rw [hl, List.map_append]; exact g2', fun q hq => ?_, fun g => Iff.rfl⟩ (Chg.of_grown g3) (fun g _ hg => (h3 g).2 hg.symm) fun g hg => ?_
    · rcases List.mem_append.1 hq with hq | hq
      · exact h2 q hq
      · rw [List.mem_singleton] at hq; subst hq; exact hv
    · rw [hl] at hg
      rcases g5 with h | h
      · rw [h] at hg; exact .inl ((h3 g).2 hg)
      · rw [h] at hg; injection hg with hg; subst hg; exact .inr (Nat.le_refl _)
end
end Go.Proofs.YticnjkdaccacaaaDoor.Sx
