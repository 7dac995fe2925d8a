/- walls.Open, walked. -/
import Derived.Test.YtmpkoacpakepfaaWe
namespace Go.Proofs.Ytmpkoacpakepfaa.Sx
open Go Go.RowKit Base Own Disk

/-! ### A row of one's own among rows of one's own -/
section
variable {P : Program} {T : Orc} {ops : Array Oper} {Q : Exit → Act → World → Prop} {Df : List Deferred} {N : Nat} {a : Act} {w w0 : World} {L : Env} {R : List Asn}
theorem wl_recapp {o1 o2 : Oper} {rest : List Oper} {t eo ei : TypeId} {bytes d1 d2 n1 n c c1 : Nat} {x y : Operand} {A A1 : Option Addr} {l : List Int} {ls : List (List Int)} (ht : P.underlying t = some (.slice eo)) (hi : (P.info? eo).map (fun i => (i.zero.isSome, i.size)) = some (true, 1)) (hinfo : (P.info? eo).map (fun i => (i.zero.map (·.cells.size), i.size, i.bytes)) = some (some 1, 1, bytes)) (hby : bytes ≤ 64) (fr : FrD Df N a L)
    (hw1 : o1.guard = none) (ho1 : o1.op = .buildSlice t 1 #[(0, x)]) (hd1 : o1.dst = some d1) (hl1 : Nat.blt d1 N = true) (hw2 : o2.guard = none) (ho2 : o2.op = .call { callee := .builtin .append, args := #[y, .tmp d1], argTypes := #[t, t] }) (hd2 : o2.dst = some d2) (hl2 : Nat.blt d2 N = true)
    (hx : ev L x = some (.slice A1 n1 c1)) (hn1 : n1 = l.length) (hy : ∀ v, ev ((d1, v) :: L) y = some (.slice A n c)) (hn : n = ls.length) (hb : ls.length ≤ 1000000000) (hf : L.lookup d1 = none) (S : Sat w0 w (ownA .u8 ei A1 c1 l :: recsA .u8 eo ei A c ls :: R))
    (h : ∀ w' A' c', Sat w0 w' (recsA .u8 eo ei A' c' (ls ++ [l]) :: R) → ∀ a', FrD Df N a' ((d2, .slice A' (ls ++ [l]).length c') :: L) → wpList P ops Q rest a' w') : wpList P ops Q (o1 :: o2 :: rest) a w := by
  subst hn1 hn
  have hg : ∀ {o : Oper} {L : Env}, o.guard = none → wantL ops L o = some true := fun h => by unfold wantL; rw [h]
  obtain ⟨⟨rs, rfl⟩, S⟩ := (S.frontAt 1 rfl).ofEx
  have S := S.ofSep
  have hlen : (rs.map (·.2.2)).length = rs.length := List.length_map ..
  rw [hlen] at hb hy
  have hv1 := (fr.ev hx).2
  refine wl_val fr (hg hw1) hd1 hl1 (one_cell_exec fr ho1 hx rfl ht hi) (vok_sl ⟨Nat.le_refl _, by decide⟩) fun a1 fr1 => ?_
  have S := S.alloc (.cells #[.slice A1 l.length c1] eo)
  obtain ⟨A', c', w', h1, h2, h3⟩ := rws_app_exec (r := (A1, c1, l)) ht hinfo hby fr1 ho2 (hy _) rfl (by show ((d1, _) :: L).lookup d1 = _; rw [lookup_cons, if_pos rfl]) (by rw [cell_of_row _ _ _ _ _ _ (heap_alloc_new _ _)]; rfl) hv1 hb S
  refine wl_val fr1 (hg hw2) hd2 hl2 h1 h2 fun a2 fr2 => ?_
  have hl : (rs.map (·.2.2) ++ [l]).length = (rs ++ [(A1, c1, l)]).length := by simp
  rw [← hl] at fr2
  refine h w' A' c' ?_ a2 (fr2.skip2 hf)
  have h4 : Sat w0 w' (rwsA eo A' c' (rs ++ [(A1, c1, l)]) :: ownA .u8 ei A1 c1 l :: allA (rs.reverse.map fun r => ownA .u8 ei r.1 r.2.1 r.2.2) :: R) := by
    have := h3.frontAt 2 rfl
    exact this.frontAt 1 rfl
  have h5 : Sat w0 w' (ownA .u8 ei A1 c1 l :: allA (rs.reverse.map fun r => ownA .u8 ei r.1 r.2.1 r.2.2) :: rwsA eo A' c' (rs ++ [(A1, c1, l)]) :: R) := (h4.frontAt 2 rfl).frontAt 2 rfl
  have h6 := h5.toSep
  have h7 : Sat w0 w' (rwsA eo A' c' (rs ++ [(A1, c1, l)]) :: allA ((rs ++ [(A1, c1, l)]).reverse.map fun r => ownA .u8 ei r.1 r.2.1 r.2.2) :: R) := by
    rw [List.reverse_append]
    exact h6.frontAt 1 rfl
  exact Sat.toEx (f := fun q : { q : List Rw // q.map (·.2.2) = rs.map (·.2.2) ++ [l] } => sepA (rwsA eo A' c' q.1) (allA (q.1.reverse.map fun r => ownA .u8 ei r.1 r.2.1 r.2.2))) ⟨rs ++ [(A1, c1, l)], by simp⟩ h7.toSep
theorem results_cct {fn : Func} (hT : T.Ok P) {t1 t2 t3 : Nat} {y1 y2 : TypeId} {e1 e2 : TypeDesc} {p1 p2 : Addr} {v1 v2 v3 : Value} (hr : fn.results = #[.cell t1 y1, .cell t2 y2, .tmp t3]) (fr : FrD Df N a L) (h1 : L.lookup t1 = some (.pointer (some p1))) (h2 : L.lookup t2 = some (.pointer (some p2))) (h3 : L.lookup t3 = some v3)
    (u1 : T.ty.lookup y1 = some e1) (a1 : aggD e1 = false) (u2 : T.ty.lookup y2 = some e2) (a2 : aggD e2 = false) (c1 : w.cell? p1 = some v1) (c2 : w.cell? p2 = some v2) : (results fn a.tmps).run P w = .ok (.tuple #[v1, v2, v3]) w := by
  have g1 : a.tmps[t1]?.getD undef = .pointer (some p1) := by rw [(fr.get _ _ h1).1]; rfl
  have g2 : a.tmps[t2]?.getD undef = .pointer (some p2) := by rw [(fr.get _ _ h2).1]; rfl
  have g3 : a.tmps[t3]?.getD undef = v3 := by rw [(fr.get _ _ h3).1]; rfl
  simp [results, hr, g1, g2, g3, loadVar, asAddr, isAgg_run (hT.und u1), isAgg_run (hT.und u2), a1, a2, run_load, c1, c2]
end
/-! ### What it does -/
def found (D : Dk) : List (List Int × Nat) := parse (D.seen.flatten.length + 1) D.seen.flatten
def recsD (D : Dk) : List (List Int) := (found D).map (·.1)
def atD (D : Dk) : Nat := secs (found D)
/-- Sectors in which there is anything are wiped. -/
def clr (all : List Int) : Nat → Nat → Dk → Dk
  | 0, _, D => D
  | k + 1, i, D => clr all k (i + 1) (if (all.drop (i * 64)).take 64 = List.replicate 64 0 then D else D.writeR i (List.replicate 64 0))
def openD (D : Dk) : Dk := (clr D.seen.flatten (D.seen.length - atD D) (atD D) D).sync
theorem zeroLP : ∀ W, (zeroValue 23).run Try.prog W = .ok (.pointer none) W := fun _ => by kernel_rfl
theorem zeroRS : ∀ W, (zeroValue 34).run Try.prog W = .ok (.slice none 0 0) W := fun _ => by kernel_rfl
theorem litRi : (Try.prog.info? 22).map (fun i => (i.zero.isSome, i.size)) = some (true, 1) := by kernel_rfl
theorem litRj : (Try.prog.info? 22).map (fun i => (i.zero.map (·.cells.size), i.size, i.bytes)) = some (some 1, 1, 24) := by kernel_rfl
theorem flat_len {l : List (List Int)} (h : ∀ p ∈ l, Pc p) : l.flatten.length = l.length * 64 := by
  induction l with
  | nil => rfl
  | cons p l ih =>
    rw [List.flatten_cons, List.length_append, ih (fun q hq => h q (List.mem_cons_of_mem _ hq)), (h p List.mem_cons_self).1, List.length_cons]
    omega
/-- The variables of the range, and what they lead to. -/
def zA (b3 b2 g d : Nat) (l : List (List Int × Nat)) : Asn :=
  exA fun p : Option Addr × Nat => sepA (stA 34 b3 [.slice p.1 (l.map (·.1)).length p.2]) (sepA (recsA .u8 22 5 p.1 p.2 (l.map (·.1))) (sepA (stA 23 b2 [.pointer (some ⟨g, 0, none⟩)]) (logA g d (secs l))))
theorem Sat.openZ {w w0 : World} {R : List Asn} {b3 b2 g d : Nat} {l : List (List Int × Nat)} (S : Sat w0 w (zA b3 b2 g d l :: R)) : ∃ A c, Sat w0 w (stA 34 b3 [.slice A (l.map (·.1)).length c] :: recsA .u8 22 5 A c (l.map (·.1)) :: stA 23 b2 [.pointer (some ⟨g, 0, none⟩)] :: logA g d (secs l) :: R) := by
  obtain ⟨p, S⟩ := S.ofEx
  have S := (S.ofSep.frontAt 1 rfl).ofSep
  have S := (S.frontAt 1 rfl).ofSep
  have S : Sat w0 w (stA 34 b3 [.slice p.1 (l.map (·.1)).length p.2] :: recsA .u8 22 5 p.1 p.2 (l.map (·.1)) :: stA 23 b2 [.pointer (some ⟨g, 0, none⟩)] :: logA g d (secs l) :: R) := (S.frontAt 2 rfl).frontAt 3 rfl
  exact ⟨_, _, S⟩
theorem Sat.shutZ {w w0 : World} {R : List Asn} {b3 b2 g d : Nat} {l : List (List Int × Nat)} {A : Option Addr} {c : Nat} (S : Sat w0 w (stA 34 b3 [.slice A (l.map (·.1)).length c] :: recsA .u8 22 5 A c (l.map (·.1)) :: stA 23 b2 [.pointer (some ⟨g, 0, none⟩)] :: logA g d (secs l) :: R)) : Sat w0 w (zA b3 b2 g d l :: R) := by
  have S1 : Sat w0 w (stA 23 b2 [.pointer (some ⟨g, 0, none⟩)] :: logA g d (secs l) :: recsA .u8 22 5 A c (l.map (·.1)) :: stA 34 b3 [.slice A (l.map (·.1)).length c] :: R) := ((S.frontAt 1 rfl).frontAt 3 rfl).frontAt 3 rfl
  have S2 := (S1.toSep.frontAt 1 rfl).toSep
  have S3 := (S2.frontAt 1 rfl).toSep
  exact Sat.toEx (f := fun p : Option Addr × Nat => sepA (stA 34 b3 [.slice p.1 (l.map (·.1)).length p.2]) (sepA (recsA .u8 22 5 p.1 p.2 (l.map (·.1))) (sepA (stA 23 b2 [.pointer (some ⟨g, 0, none⟩)]) (logA g d (secs l))))) (A, c) S3
end Go.Proofs.Ytmpkoacpakepfaa.Sx
