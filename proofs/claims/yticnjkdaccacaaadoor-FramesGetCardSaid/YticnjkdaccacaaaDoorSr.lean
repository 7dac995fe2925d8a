/- Rows of structs that are read; slices of slices from here to there. -/
import Derived.Test.YticnjkdaccacaaaDoorRe
namespace Go.Proofs.YticnjkdaccacaaaDoor.Sx
open Go Go.RowKit Base Own

theorem rs_get {α : Type} [Inhabited α] {r : Rdr α} {w : World} {A : Option Addr} {l : List α} (h : Rdr.Row r w A l) {i : Int} (hi : 0 ≤ i ∧ i < (l.length : Int)) :
    ∃ cs, r.R w cs (l.getD i.toNat default) ∧ ∃ ad, A = some ad ∧ ∀ j u, cs[j]? = some u → w.cell? (ad.add (i.toNat * r.sz + j)) = some u := by
  obtain ⟨j, rfl⟩ : ∃ j : Nat, i = j := ⟨i.toNat, by omega⟩
  have hj : j < l.length := by omega
  obtain ⟨ad, e, _, h2⟩ := h (by intro e; rw [e] at hj; exact absurd hj (Nat.not_lt_zero _))
  obtain ⟨c, h3, h4⟩ := h2 j _ (List.getElem?_eq_getElem hj)
  have hg : l.getD j default = l[j] := by rw [List.getD_eq_getElem?_getD, List.getElem?_eq_getElem hj]; rfl
  rw [Int.toNat_natCast, hg]
  exact ⟨c, h3, ad, e, h4⟩
/-- What is known of each element. -/
theorem rs_facts {α : Type} {r : Rdr α} {w : World} {A : Option Addr} {l : List α} (h : Rdr.Row r w A l) : ∀ x ∈ l, ∃ cs, r.R w cs x := fun x hx => by
  obtain ⟨i, hi, rfl⟩ := List.getElem_of_mem hx
  obtain ⟨ad, e, _, h2⟩ := h (by intro e; rw [e] at hi; exact absurd hi (Nat.not_lt_zero _))
  obtain ⟨c, h3, _⟩ := h2 i _ (List.getElem?_eq_getElem hi)
  exact ⟨c, h3⟩
section
variable {P : Program} {T : Orc} {ops : Array Oper} {Q : Exit → Act → World → Prop} {S' : World → Prop} {Df : List Deferred} {N : Nat} {a : Act} {w w0 : World} {L : Env} {R : List Asn}
theorem ldagg_at (hT : T.Ok P) (fr : FrD Df N a L) {o : Oper} {t : TypeId} {x : Operand} (ho : o.op = .load t x) {ad : Addr} {cs : List Value} {d : TypeDesc} (hx : ev L x = some (.pointer (some ad))) (ht : T.ty.lookup t = some d) (hd : aggD d = true) (hs : T.sz.lookup t = some cs.length)
    (hc : ∀ j u, cs[j]? = some u → w.cell? (ad.add j) = some u) : (execOp a.eval o).run P w = .ok (.value (.agg cs.toArray)) w := by
  have hld := run_loadCells_list (P := P) w ad cs hc
  unfold execOp
  simp only [ho, (fr.ev hx).1, Instr.loadAt, Instr.sureAddr, loadVar]
  simp [isAgg_run (hT.und ht), hd, size_run hT hs, hld]
theorem vok_agl {cs : List Value} (h : ∀ v ∈ cs, vok1 v = true) : vok (.agg cs.toArray) = true := by
  simp only [vok, vokC, List.all_eq_true]
  exact h
/-- An element of a row of structs. -/
theorem wl_ldrs (hT : T.Ok P) {o1 o2 : Oper} {rest : List Oper} {t te : TypeId} {x ix : Operand} {d1 d2 : Nat} {n c e z : Nat} {A : Option Addr} {ki : IntKind} {i : Int} {de : TypeDesc} {cs : List Value}
    (hr : ∃ ad, A = some ad ∧ ∀ j u, cs[j]? = some u → w.cell? (ad.add (i.toNat * z + j)) = some u) (hv : vok (.agg cs.toArray) = true) (fr : FrD Df N a L) (hw : wantL ops L o1 = some true) (ho1 : o1.op = .indexAddr t x ix) (hd1 : o1.dst = some d1) (hw2 : wantL ops L o2 = some true) (ho2 : o2.op = .load te (.tmp d1)) (hd2 : o2.dst = some d2) (hl1 : Nat.blt d1 N = true) (hl2 : Nat.blt d2 N = true)
    (hx : ev L x = some (.slice A n c)) (hi : ev L ix = some (.int ki i)) (ht : T.ty.lookup t = some (.slice e)) (hs : T.sz.lookup e = some z) (hte : T.ty.lookup te = some de) (hde : aggD de = true) (hse : T.sz.lookup te = some cs.length) (hf : L.lookup d1 = none) (hb : 0 ≤ i ∧ i < (n : Int))
    (h : ∀ a', FrD Df N a' ((d2, .agg cs.toArray) :: L) → wpList P ops Q rest a' w) : wpList P ops Q (o1 :: o2 :: rest) a w := by
  obtain ⟨ad, rfl, hc⟩ := hr
  refine wl_val fr hw hd1 hl1 (indexAddr_run hT fr ho1 hx hi ht hs hb.1 hb.2 w) rfl fun a1 fr1 => ?_
  exact wl_val fr1 (want_skip hw2 hf) hd2 hl2 (ldagg_at hT fr1 ho2 (by show ((d1, _) :: L).lookup d1 = _; rw [lookup_cons, if_pos rfl]) hte hde hse (fun j u hu => by rw [add_add]; exact hc j u hu)) hv fun a2 fr2 => h a2 (fr2.skip2 hf)
/-- A slice of a slice, from here to there. -/
theorem mid_run (hT : T.Ok P) (fr : FrD Df N a L) {o : Oper} {t : TypeId} {x y z : Operand} (ho : o.op = .slice t x (some y) (some z) none) {A : Option Addr} {n c e : Nat} {k1 k2 : IntKind} {i j : Int} (hx : ev L x = some (.slice A n c)) (hy : ev L y = some (.int k1 i)) (hz : ev L z = some (.int k2 j))
    (ht : T.ty.lookup t = some (.slice e)) (hi : (P.info? e).map (·.size) = some 1) (hb : (0 ≤ i ∧ i ≤ j) ∧ j ≤ (c : Int)) (w : World) : (execOp a.eval o).run P w = .ok (.value (.slice (dropA A c i.toNat) (j.toNat - i.toNat) (c - i.toNat))) w := by
  refine slice_run hT fr ho hx (vlo := some (.int k1 i)) (vhi := some (.int k2 j)) (vmx := none) (by simp [(fr.ev hy).1]) (by simp [(fr.ev hz).1]) rfl ht (fun w => ?_) w
  exact sl_mid t e k1 k2 (hT.und ht) hi A n c i.toNat j.toNat i j (by omega) (by omega) (by omega) (by omega) w
theorem wl_mid (hT : T.Ok P) {o : Oper} {rest : List Oper} {t : TypeId} {x y z : Operand} {d : Nat} {A : Option Addr} {l : List Int} {n c e : Nat} {k1 k2 : IntKind} {i j : Int} (fr : FrD Df N a L) (hw : wantL ops L o = some true) (ho : o.op = .slice t x (some y) (some z) none) (hd : o.dst = some d) (hlt : Nat.blt d N = true)
    (hx : ev L x = some (.slice A n c)) (hy : ev L y = some (.int k1 i)) (hz : ev L z = some (.int k2 j)) (ht : T.ty.lookup t = some (.slice e)) (hi : (P.info? e).map (·.size) = some 1) (hn : n = l.length) (hb : (0 ≤ i ∧ i ≤ j) ∧ j ≤ (l.length : Int))
    (h : ∀ a', FrD Df N a' ((d, .slice (dropA A c i.toNat) ((l.take j.toNat).drop i.toNat).length (c - i.toNat)) :: L) → wpList P ops Q rest a' w) : wpList P ops Q (o :: rest) a w := by
  subst hn
  have hs := fr.ev hx
  have hc : l.length ≤ c ∧ c ≤ maxLen := by simpa [vok, vokC, vok1] using hs.2
  have e : ((l.take j.toNat).drop i.toNat).length = j.toNat - i.toNat := by rw [List.length_drop, List.length_take]; omega
  rw [e] at h
  exact wl_val fr hw hd hlt (mid_run hT fr ho hx hy hz ht hi ⟨hb.1, by omega⟩ w) (vok_sl ⟨by omega, by omega⟩) h
end
end Go.Proofs.YticnjkdaccacaaaDoor.Sx
