/- Rows of small arrays of whole numbers, read in place. -/
import Derived.Test.YtjdholnlbhkmeaaRdr
import Derived.Test.YtjdholnlbhkmeaaSo
namespace Go.Proofs.Ytjdholnlbhkmeaa.Sx
open Go Go.RowKit Base Own

theorem Fr.skip3 {N : Nat} {a : Act} {d1 d2 d3 : Nat} {v1 v2 v3 : Value} {L : Env} (fr : Fr N a ((d3, v3) :: (d2, v2) :: (d1, v1) :: L)) (h1 : L.lookup d1 = none) (h2 : L.lookup d2 = none) : Fr N a ((d3, v3) :: L) :=
  ⟨fr.size, fr.defers, fun e u he => fr.get e u (by
    rw [lookup_cons] at he ⊢
    by_cases h3 : e = d3
    · rw [if_pos h3] at he ⊢; exact he
    · rw [if_neg h3] at he ⊢
      rw [lookup_cons, lookup_cons]
      by_cases h4 : e = d2
      · subst h4; rw [h2] at he; cases he
      · rw [if_neg h4]
        by_cases h5 : e = d1
        · subst h5; rw [h1] at he; cases he
        · rw [if_neg h5]; exact he)⟩
/-- What such a row holds: lists of one length, of numbers of the kind. -/
theorem ra_facts {k : IntKind} {m : Nat} {w : World} {A : Option Addr} {l : List (List Int)} (h : Rdr.Row (Rdr.arr m (Rdr.int k)) w A l) : ∀ x ∈ l, x.length = m ∧ ∀ z ∈ x, (Lit.int k z).wf = true := fun x hx => by
  obtain ⟨i, hi, rfl⟩ := List.getElem_of_mem hx
  obtain ⟨ad, e, h1, h2⟩ := h (by intro e; rw [e] at hi; exact absurd hi (Nat.not_lt_zero _))
  obtain ⟨c, h3, _⟩ := h2 i _ (List.getElem?_eq_getElem hi)
  have := Rdr.arr_int h3
  exact ⟨this.1, this.2.2⟩
theorem ra_cell {k : IntKind} {m : Nat} {w : World} {A : Option Addr} {l : List (List Int)} (h : Rdr.Row (Rdr.arr m (Rdr.int k)) w A l) {i : Nat} (hi : i < l.length) {j : Nat} (hj : j < m) :
    ∃ ad, A = some ad ∧ w.cell? ((ad.add (i * m)).add (j * 1)) = some (.int k ((l.getD i []).getD j 0)) ∧ (Lit.int k ((l.getD i []).getD j 0)).wf = true := by
  obtain ⟨ad, e, h1, h2⟩ := h (by intro e; rw [e] at hi; exact absurd hi (Nat.not_lt_zero _))
  obtain ⟨c, h3, h4⟩ := h2 i _ (List.getElem?_eq_getElem hi)
  obtain ⟨h5, h6, h7⟩ := Rdr.arr_int h3
  have hg : l.getD i [] = l[i] := by rw [List.getD_eq_getElem?_getD, List.getElem?_eq_getElem hi]; rfl
  have hjl : j < (l[i]).length := by omega
  have hgj : (l[i]).getD j 0 = (l[i])[j] := by rw [List.getD_eq_getElem?_getD, List.getElem?_eq_getElem hjl]; rfl
  refine ⟨ad, e, ?_, ?_⟩
  · have h8 := h4 j (.int k (l[i])[j]) (by rw [h6, List.getElem?_map, List.getElem?_eq_getElem hjl]; rfl)
    have h9 : (Rdr.arr m (Rdr.int k)).sz = m := by show m * 1 = m; omega
    rw [h9] at h8
    rw [hg, hgj, add_add, Nat.mul_one]; exact h8
  · rw [hg, hgj]; exact h7 _ (List.getElem_mem hjl)
section
variable {P : Program} {T : Orc} {ops : Array Oper} {Q : Exit → Act → World → Prop} {N : Nat} {a : Act} {w w0 : World} {L : Env} {k : IntKind}
/-- An element of an element. -/
theorem wl_ld2 (hT : T.Ok P) {o1 o2 o3 : Oper} {rest : List Oper} {t t2 te : TypeId} {x ix jx : Operand} {d1 d2 d3 : Nat} {A : Option Addr} {l : List (List Int)} {m n c e e2 : Nat} {ki kj : IntKind} {i j : Int} {de : TypeDesc}
    (hr : Rdr.Row (Rdr.arr m (Rdr.int k)) w A l) (fr : Fr N a L) (hw1 : o1.guard = none) (ho1 : o1.op = .indexAddr t x ix) (hd1 : o1.dst = some d1) (hw2 : o2.guard = none) (ho2 : o2.op = .indexAddr t2 (.tmp d1) jx) (hd2 : o2.dst = some d2)
    (hw3 : o3.guard = none) (ho3 : o3.op = .load te (.tmp d2)) (hd3 : o3.dst = some d3) (hl1 : Nat.blt d1 N = true) (hl2 : Nat.blt d2 N = true) (hl3 : Nat.blt d3 N = true)
    (hx : ev L x = some (.slice A n c)) (hi : ev L ix = some (.int ki i)) (hj : ∀ v, ev ((d1, v) :: L) jx = some (.int kj j)) (ht : T.ty.lookup t = some (.slice e)) (hs : T.sz.lookup e = some m) (ht2 : T.ty.lookup t2 = some (.array m e2)) (hs2 : T.sz.lookup e2 = some 1) (hte : T.ty.lookup te = some de) (hde : aggD de = false)
    (hn : n = l.length) (hf1 : L.lookup d1 = none) (hf2 : L.lookup d2 = none) (hb : (0 ≤ i ∧ i < (l.length : Int)) ∧ (0 ≤ j ∧ j < (m : Int)))
    (h : ∀ a', Fr N a' ((d3, .int k ((l.getD i.toNat []).getD j.toNat 0)) :: L) → wpList P ops Q rest a' w) : wpList P ops Q (o1 :: o2 :: o3 :: rest) a w := by
  subst hn
  obtain ⟨i, rfl⟩ : ∃ q : Nat, i = q := ⟨i.toNat, by omega⟩
  obtain ⟨j, rfl⟩ : ∃ q : Nat, j = q := ⟨j.toNat, by omega⟩
  rw [Int.toNat_natCast, Int.toNat_natCast] at h
  obtain ⟨ad, rfl, hc, hwf⟩ := ra_cell hr (i := i) (by omega) (j := j) (by omega)
  have hg : ∀ {o : Oper} {L : Env}, o.guard = none → wantL ops L o = some true := fun h => by unfold wantL; rw [h]
  refine wl_val fr (hg hw1) hd1 hl1 (indexAddr_run hT fr ho1 hx hi ht hs (by omega) hb.1.2 w) rfl fun a1 fr1 => ?_
  refine wl_val fr1 (hg hw2) hd2 hl2 (indexArr_run hT fr1 ho2 (by show ((d1, _) :: L).lookup d1 = _; rw [lookup_cons, if_pos rfl]) (hj _) ht2 hs2 (by omega) (by omega) w) rfl fun a2 fr2 => ?_
  refine wl_val (v := .int k ((l.getD i []).getD j 0)) fr2 (hg hw3) hd3 hl3 (load_run hT fr2 ho3 (by show ((d2, _) :: _).lookup d2 = _; rw [lookup_cons, if_pos rfl]) hte hde (by rw [Int.toNat_natCast, Int.toNat_natCast]; exact hc)) hwf fun a3 fr3 => h a3 (fr3.skip3 hf1 hf2)
end
end Go.Proofs.Ytjdholnlbhkmeaa.Sx
