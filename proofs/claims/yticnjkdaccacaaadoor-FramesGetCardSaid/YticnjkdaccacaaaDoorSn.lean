/- Steps of a walk over memory of the call's own. -/
import Derived.Test.YticnjkdaccacaaaDoorSm
import Derived.Test.YticnjkdaccacaaaDoorOwnV
namespace Go.Proofs.YticnjkdaccacaaaDoor.Sx
open Go Go.RowKit Base Own

section
variable {Df : List Deferred} {N : Nat} {a : Act} {L : Env}
theorem FrD.vok (fr : FrD Df N a L) {d : Nat} {v : Value} (h : L.lookup d = some v) : Sx.vok v = true := (fr.get _ _ h).2
theorem vok_tup2 (fr : FrD Df N a L) {d e : Nat} {k k' : IntKind} {x y : Int} (h1 : L.lookup d = some (.int k x)) (h2 : L.lookup e = some (.int k' y)) : Sx.vok (.tuple #[.int k x, .int k' y]) = true := by
  have e1 := fr.vok h1
  have e2 := fr.vok h2
  show [Value.int k x, Value.int k' y].all vokC = true
  rw [List.all_cons, List.all_cons, show vokC (.int k x) = true from e1, show vokC (.int k' y) = true from e2]; rfl
theorem vok_tupii (fr : FrD Df N a L) {d : Nat} {e : Nat} {k0 : IntKind} {x0 : Int} {k1 : IntKind} {x1 : Int} (h0 : L.lookup d = some (.int k0 x0)) (h1 : L.lookup e = some (.int k1 x1)) : Sx.vok (.tuple #[(.int k0 x0), (.int k1 x1)]) = true := by
  show [(Value.int k0 x0), (Value.int k1 x1)].all vokC = true
  rw [List.all_cons, List.all_cons, show vokC (.int k0 x0) = true from fr.vok h0, show vokC (.int k1 x1) = true from fr.vok h1]; rfl
theorem vok_tupib (fr : FrD Df N a L) {d : Nat} {e : Nat} {k0 : IntKind} {x0 : Int} {x1 : Bool} (h0 : L.lookup d = some (.int k0 x0)) (h1 : L.lookup e = some (.bool x1)) : Sx.vok (.tuple #[(.int k0 x0), (.bool x1)]) = true := by
  show [(Value.int k0 x0), (Value.bool x1)].all vokC = true
  rw [List.all_cons, List.all_cons, show vokC (.int k0 x0) = true from fr.vok h0, show vokC (.bool x1) = true from fr.vok h1]; rfl
theorem vok_tupbi (fr : FrD Df N a L) {d : Nat} {e : Nat} {x0 : Bool} {k1 : IntKind} {x1 : Int} (h0 : L.lookup d = some (.bool x0)) (h1 : L.lookup e = some (.int k1 x1)) : Sx.vok (.tuple #[(.bool x0), (.int k1 x1)]) = true := by
  show [(Value.bool x0), (Value.int k1 x1)].all vokC = true
  rw [List.all_cons, List.all_cons, show vokC (.bool x0) = true from fr.vok h0, show vokC (.int k1 x1) = true from fr.vok h1]; rfl
theorem vok_tupbb (fr : FrD Df N a L) {d : Nat} {e : Nat} {x0 : Bool} {x1 : Bool} (h0 : L.lookup d = some (.bool x0)) (h1 : L.lookup e = some (.bool x1)) : Sx.vok (.tuple #[(.bool x0), (.bool x1)]) = true := by
  show [(Value.bool x0), (Value.bool x1)].all vokC = true
  rw [List.all_cons, List.all_cons, show vokC (.bool x0) = true from fr.vok h0, show vokC (.bool x1) = true from fr.vok h1]; rfl
theorem vok_tupiii (fr : FrD Df N a L) {d : Nat} {e : Nat} {f : Nat} {k0 : IntKind} {x0 : Int} {k1 : IntKind} {x1 : Int} {k2 : IntKind} {x2 : Int} (h0 : L.lookup d = some (.int k0 x0)) (h1 : L.lookup e = some (.int k1 x1)) (h2 : L.lookup f = some (.int k2 x2)) : Sx.vok (.tuple #[(.int k0 x0), (.int k1 x1), (.int k2 x2)]) = true := by
  show [(Value.int k0 x0), (Value.int k1 x1), (Value.int k2 x2)].all vokC = true
  rw [List.all_cons, List.all_cons, List.all_cons, show vokC (.int k0 x0) = true from fr.vok h0, show vokC (.int k1 x1) = true from fr.vok h1, show vokC (.int k2 x2) = true from fr.vok h2]; rfl
theorem vok_tupiib (fr : FrD Df N a L) {d : Nat} {e : Nat} {f : Nat} {k0 : IntKind} {x0 : Int} {k1 : IntKind} {x1 : Int} {x2 : Bool} (h0 : L.lookup d = some (.int k0 x0)) (h1 : L.lookup e = some (.int k1 x1)) (h2 : L.lookup f = some (.bool x2)) : Sx.vok (.tuple #[(.int k0 x0), (.int k1 x1), (.bool x2)]) = true := by
  show [(Value.int k0 x0), (Value.int k1 x1), (Value.bool x2)].all vokC = true
  rw [List.all_cons, List.all_cons, List.all_cons, show vokC (.int k0 x0) = true from fr.vok h0, show vokC (.int k1 x1) = true from fr.vok h1, show vokC (.bool x2) = true from fr.vok h2]; rfl
theorem vok_tupibi (fr : FrD Df N a L) {d : Nat} {e : Nat} {f : Nat} {k0 : IntKind} {x0 : Int} {x1 : Bool} {k2 : IntKind} {x2 : Int} (h0 : L.lookup d = some (.int k0 x0)) (h1 : L.lookup e = some (.bool x1)) (h2 : L.lookup f = some (.int k2 x2)) : Sx.vok (.tuple #[(.int k0 x0), (.bool x1), (.int k2 x2)]) = true := by
  show [(Value.int k0 x0), (Value.bool x1), (Value.int k2 x2)].all vokC = true
  rw [List.all_cons, List.all_cons, List.all_cons, show vokC (.int k0 x0) = true from fr.vok h0, show vokC (.bool x1) = true from fr.vok h1, show vokC (.int k2 x2) = true from fr.vok h2]; rfl
theorem vok_tupibb (fr : FrD Df N a L) {d : Nat} {e : Nat} {f : Nat} {k0 : IntKind} {x0 : Int} {x1 : Bool} {x2 : Bool} (h0 : L.lookup d = some (.int k0 x0)) (h1 : L.lookup e = some (.bool x1)) (h2 : L.lookup f = some (.bool x2)) : Sx.vok (.tuple #[(.int k0 x0), (.bool x1), (.bool x2)]) = true := by
  show [(Value.int k0 x0), (Value.bool x1), (Value.bool x2)].all vokC = true
  rw [List.all_cons, List.all_cons, List.all_cons, show vokC (.int k0 x0) = true from fr.vok h0, show vokC (.bool x1) = true from fr.vok h1, show vokC (.bool x2) = true from fr.vok h2]; rfl
theorem vok_tupbii (fr : FrD Df N a L) {d : Nat} {e : Nat} {f : Nat} {x0 : Bool} {k1 : IntKind} {x1 : Int} {k2 : IntKind} {x2 : Int} (h0 : L.lookup d = some (.bool x0)) (h1 : L.lookup e = some (.int k1 x1)) (h2 : L.lookup f = some (.int k2 x2)) : Sx.vok (.tuple #[(.bool x0), (.int k1 x1), (.int k2 x2)]) = true := by
  show [(Value.bool x0), (Value.int k1 x1), (Value.int k2 x2)].all vokC = true
  rw [List.all_cons, List.all_cons, List.all_cons, show vokC (.bool x0) = true from fr.vok h0, show vokC (.int k1 x1) = true from fr.vok h1, show vokC (.int k2 x2) = true from fr.vok h2]; rfl
theorem vok_tupbib (fr : FrD Df N a L) {d : Nat} {e : Nat} {f : Nat} {x0 : Bool} {k1 : IntKind} {x1 : Int} {x2 : Bool} (h0 : L.lookup d = some (.bool x0)) (h1 : L.lookup e = some (.int k1 x1)) (h2 : L.lookup f = some (.bool x2)) : Sx.vok (.tuple #[(.bool x0), (.int k1 x1), (.bool x2)]) = true := by
  show [(Value.bool x0), (Value.int k1 x1), (Value.bool x2)].all vokC = true
  rw [List.all_cons, List.all_cons, List.all_cons, show vokC (.bool x0) = true from fr.vok h0, show vokC (.int k1 x1) = true from fr.vok h1, show vokC (.bool x2) = true from fr.vok h2]; rfl
theorem vok_tupbbi (fr : FrD Df N a L) {d : Nat} {e : Nat} {f : Nat} {x0 : Bool} {x1 : Bool} {k2 : IntKind} {x2 : Int} (h0 : L.lookup d = some (.bool x0)) (h1 : L.lookup e = some (.bool x1)) (h2 : L.lookup f = some (.int k2 x2)) : Sx.vok (.tuple #[(.bool x0), (.bool x1), (.int k2 x2)]) = true := by
  show [(Value.bool x0), (Value.bool x1), (Value.int k2 x2)].all vokC = true
  rw [List.all_cons, List.all_cons, List.all_cons, show vokC (.bool x0) = true from fr.vok h0, show vokC (.bool x1) = true from fr.vok h1, show vokC (.int k2 x2) = true from fr.vok h2]; rfl
theorem vok_tupbbb (fr : FrD Df N a L) {d : Nat} {e : Nat} {f : Nat} {x0 : Bool} {x1 : Bool} {x2 : Bool} (h0 : L.lookup d = some (.bool x0)) (h1 : L.lookup e = some (.bool x1)) (h2 : L.lookup f = some (.bool x2)) : Sx.vok (.tuple #[(.bool x0), (.bool x1), (.bool x2)]) = true := by
  show [(Value.bool x0), (Value.bool x1), (Value.bool x2)].all vokC = true
  rw [List.all_cons, List.all_cons, List.all_cons, show vokC (.bool x0) = true from fr.vok h0, show vokC (.bool x1) = true from fr.vok h1, show vokC (.bool x2) = true from fr.vok h2]; rfl
theorem vok_tupiiii (fr : FrD Df N a L) {d : Nat} {e : Nat} {f : Nat} {g : Nat} {k0 : IntKind} {x0 : Int} {k1 : IntKind} {x1 : Int} {k2 : IntKind} {x2 : Int} {k3 : IntKind} {x3 : Int} (h0 : L.lookup d = some (.int k0 x0)) (h1 : L.lookup e = some (.int k1 x1)) (h2 : L.lookup f = some (.int k2 x2)) (h3 : L.lookup g = some (.int k3 x3)) : Sx.vok (.tuple #[(.int k0 x0), (.int k1 x1), (.int k2 x2), (.int k3 x3)]) = true := by
  show [(Value.int k0 x0), (Value.int k1 x1), (Value.int k2 x2), (Value.int k3 x3)].all vokC = true
  rw [List.all_cons, List.all_cons, List.all_cons, List.all_cons, show vokC (.int k0 x0) = true from fr.vok h0, show vokC (.int k1 x1) = true from fr.vok h1, show vokC (.int k2 x2) = true from fr.vok h2, show vokC (.int k3 x3) = true from fr.vok h3]; rfl
theorem vok_tupiiib (fr : FrD Df N a L) {d : Nat} {e : Nat} {f : Nat} {g : Nat} {k0 : IntKind} {x0 : Int} {k1 : IntKind} {x1 : Int} {k2 : IntKind} {x2 : Int} {x3 : Bool} (h0 : L.lookup d = some (.int k0 x0)) (h1 : L.lookup e = some (.int k1 x1)) (h2 : L.lookup f = some (.int k2 x2)) (h3 : L.lookup g = some (.bool x3)) : Sx.vok (.tuple #[(.int k0 x0), (.int k1 x1), (.int k2 x2), (.bool x3)]) = true := by
  show [(Value.int k0 x0), (Value.int k1 x1), (Value.int k2 x2), (Value.bool x3)].all vokC = true
  rw [List.all_cons, List.all_cons, List.all_cons, List.all_cons, show vokC (.int k0 x0) = true from fr.vok h0, show vokC (.int k1 x1) = true from fr.vok h1, show vokC (.int k2 x2) = true from fr.vok h2, show vokC (.bool x3) = true from fr.vok h3]; rfl
theorem vok_tupiibi (fr : FrD Df N a L) {d : Nat} {e : Nat} {f : Nat} {g : Nat} {k0 : IntKind} {x0 : Int} {k1 : IntKind} {x1 : Int} {x2 : Bool} {k3 : IntKind} {x3 : Int} (h0 : L.lookup d = some (.int k0 x0)) (h1 : L.lookup e = some (.int k1 x1)) (h2 : L.lookup f = some (.bool x2)) (h3 : L.lookup g = some (.int k3 x3)) : Sx.vok (.tuple #[(.int k0 x0), (.int k1 x1), (.bool x2), (.int k3 x3)]) = true := by
  show [(Value.int k0 x0), (Value.int k1 x1), (Value.bool x2), (Value.int k3 x3)].all vokC = true
  rw [List.all_cons, List.all_cons, List.all_cons, List.all_cons, show vokC (.int k0 x0) = true from fr.vok h0, show vokC (.int k1 x1) = true from fr.vok h1, show vokC (.bool x2) = true from fr.vok h2, show vokC (.int k3 x3) = true from fr.vok h3]; rfl
theorem vok_tupiibb (fr : FrD Df N a L) {d : Nat} {e : Nat} {f : Nat} {g : Nat} {k0 : IntKind} {x0 : Int} {k1 : IntKind} {x1 : Int} {x2 : Bool} {x3 : Bool} (h0 : L.lookup d = some (.int k0 x0)) (h1 : L.lookup e = some (.int k1 x1)) (h2 : L.lookup f = some (.bool x2)) (h3 : L.lookup g = some (.bool x3)) : Sx.vok (.tuple #[(.int k0 x0), (.int k1 x1), (.bool x2), (.bool x3)]) = true := by
  show [(Value.int k0 x0), (Value.int k1 x1), (Value.bool x2), (Value.bool x3)].all vokC = true
  rw [List.all_cons, List.all_cons, List.all_cons, List.all_cons, show vokC (.int k0 x0) = true from fr.vok h0, show vokC (.int k1 x1) = true from fr.vok h1, show vokC (.bool x2) = true from fr.vok h2, show vokC (.bool x3) = true from fr.vok h3]; rfl
theorem vok_tupibii (fr : FrD Df N a L) {d : Nat} {e : Nat} {f : Nat} {g : Nat} {k0 : IntKind} {x0 : Int} {x1 : Bool} {k2 : IntKind} {x2 : Int} {k3 : IntKind} {x3 : Int} (h0 : L.lookup d = some (.int k0 x0)) (h1 : L.lookup e = some (.bool x1)) (h2 : L.lookup f = some (.int k2 x2)) (h3 : L.lookup g = some (.int k3 x3)) : Sx.vok (.tuple #[(.int k0 x0), (.bool x1), (.int k2 x2), (.int k3 x3)]) = true := by
  show [(Value.int k0 x0), (Value.bool x1), (Value.int k2 x2), (Value.int k3 x3)].all vokC = true
  rw [List.all_cons, List.all_cons, List.all_cons, List.all_cons, show vokC (.int k0 x0) = true from fr.vok h0, show vokC (.bool x1) = true from fr.vok h1, show vokC (.int k2 x2) = true from fr.vok h2, show vokC (.int k3 x3) = true from fr.vok h3]; rfl
theorem vok_tupibib (fr : FrD Df N a L) {d : Nat} {e : Nat} {f : Nat} {g : Nat} {k0 : IntKind} {x0 : Int} {x1 : Bool} {k2 : IntKind} {x2 : Int} {x3 : Bool} (h0 : L.lookup d = some (.int k0 x0)) (h1 : L.lookup e = some (.bool x1)) (h2 : L.lookup f = some (.int k2 x2)) (h3 : L.lookup g = some (.bool x3)) : Sx.vok (.tuple #[(.int k0 x0), (.bool x1), (.int k2 x2), (.bool x3)]) = true := by
  show [(Value.int k0 x0), (Value.bool x1), (Value.int k2 x2), (Value.bool x3)].all vokC = true
  rw [List.all_cons, List.all_cons, List.all_cons, List.all_cons, show vokC (.int k0 x0) = true from fr.vok h0, show vokC (.bool x1) = true from fr.vok h1, show vokC (.int k2 x2) = true from fr.vok h2, show vokC (.bool x3) = true from fr.vok h3]; rfl
theorem vok_tupibbi (fr : FrD Df N a L) {d : Nat} {e : Nat} {f : Nat} {g : Nat} {k0 : IntKind} {x0 : Int} {x1 : Bool} {x2 : Bool} {k3 : IntKind} {x3 : Int} (h0 : L.lookup d = some (.int k0 x0)) (h1 : L.lookup e = some (.bool x1)) (h2 : L.lookup f = some (.bool x2)) (h3 : L.lookup g = some (.int k3 x3)) : Sx.vok (.tuple #[(.int k0 x0), (.bool x1), (.bool x2), (.int k3 x3)]) = true := by
  show [(Value.int k0 x0), (Value.bool x1), (Value.bool x2), (Value.int k3 x3)].all vokC = true
  rw [List.all_cons, List.all_cons, List.all_cons, List.all_cons, show vokC (.int k0 x0) = true from fr.vok h0, show vokC (.bool x1) = true from fr.vok h1, show vokC (.bool x2) = true from fr.vok h2, show vokC (.int k3 x3) = true from fr.vok h3]; rfl
theorem vok_tupbiii (fr : FrD Df N a L) {d : Nat} {e : Nat} {f : Nat} {g : Nat} {x0 : Bool} {k1 : IntKind} {x1 : Int} {k2 : IntKind} {x2 : Int} {k3 : IntKind} {x3 : Int} (h0 : L.lookup d = some (.bool x0)) (h1 : L.lookup e = some (.int k1 x1)) (h2 : L.lookup f = some (.int k2 x2)) (h3 : L.lookup g = some (.int k3 x3)) : Sx.vok (.tuple #[(.bool x0), (.int k1 x1), (.int k2 x2), (.int k3 x3)]) = true := by
  show [(Value.bool x0), (Value.int k1 x1), (Value.int k2 x2), (Value.int k3 x3)].all vokC = true
  rw [List.all_cons, List.all_cons, List.all_cons, List.all_cons, show vokC (.bool x0) = true from fr.vok h0, show vokC (.int k1 x1) = true from fr.vok h1, show vokC (.int k2 x2) = true from fr.vok h2, show vokC (.int k3 x3) = true from fr.vok h3]; rfl
theorem vok_tupbiib (fr : FrD Df N a L) {d : Nat} {e : Nat} {f : Nat} {g : Nat} {x0 : Bool} {k1 : IntKind} {x1 : Int} {k2 : IntKind} {x2 : Int} {x3 : Bool} (h0 : L.lookup d = some (.bool x0)) (h1 : L.lookup e = some (.int k1 x1)) (h2 : L.lookup f = some (.int k2 x2)) (h3 : L.lookup g = some (.bool x3)) : Sx.vok (.tuple #[(.bool x0), (.int k1 x1), (.int k2 x2), (.bool x3)]) = true := by
  show [(Value.bool x0), (Value.int k1 x1), (Value.int k2 x2), (Value.bool x3)].all vokC = true
  rw [List.all_cons, List.all_cons, List.all_cons, List.all_cons, show vokC (.bool x0) = true from fr.vok h0, show vokC (.int k1 x1) = true from fr.vok h1, show vokC (.int k2 x2) = true from fr.vok h2, show vokC (.bool x3) = true from fr.vok h3]; rfl
theorem vok_tupbibi (fr : FrD Df N a L) {d : Nat} {e : Nat} {f : Nat} {g : Nat} {x0 : Bool} {k1 : IntKind} {x1 : Int} {x2 : Bool} {k3 : IntKind} {x3 : Int} (h0 : L.lookup d = some (.bool x0)) (h1 : L.lookup e = some (.int k1 x1)) (h2 : L.lookup f = some (.bool x2)) (h3 : L.lookup g = some (.int k3 x3)) : Sx.vok (.tuple #[(.bool x0), (.int k1 x1), (.bool x2), (.int k3 x3)]) = true := by
  show [(Value.bool x0), (Value.int k1 x1), (Value.bool x2), (Value.int k3 x3)].all vokC = true
  rw [List.all_cons, List.all_cons, List.all_cons, List.all_cons, show vokC (.bool x0) = true from fr.vok h0, show vokC (.int k1 x1) = true from fr.vok h1, show vokC (.bool x2) = true from fr.vok h2, show vokC (.int k3 x3) = true from fr.vok h3]; rfl
theorem vok_tupbbii (fr : FrD Df N a L) {d : Nat} {e : Nat} {f : Nat} {g : Nat} {x0 : Bool} {x1 : Bool} {k2 : IntKind} {x2 : Int} {k3 : IntKind} {x3 : Int} (h0 : L.lookup d = some (.bool x0)) (h1 : L.lookup e = some (.bool x1)) (h2 : L.lookup f = some (.int k2 x2)) (h3 : L.lookup g = some (.int k3 x3)) : Sx.vok (.tuple #[(.bool x0), (.bool x1), (.int k2 x2), (.int k3 x3)]) = true := by
  show [(Value.bool x0), (Value.bool x1), (Value.int k2 x2), (Value.int k3 x3)].all vokC = true
  rw [List.all_cons, List.all_cons, List.all_cons, List.all_cons, show vokC (.bool x0) = true from fr.vok h0, show vokC (.bool x1) = true from fr.vok h1, show vokC (.int k2 x2) = true from fr.vok h2, show vokC (.int k3 x3) = true from fr.vok h3]; rfl
theorem vok_sl {A : Option Addr} {n c : Nat} (h : n ≤ c ∧ c ≤ maxLen) : Sx.vok (.slice A n c) = true := by simp [Sx.vok, vokC, vok1, h]
theorem vok_c {v : Value} {l : List Value} (h : Sx.vok v = true) (hl : l.all Sx.vok = true) : (v :: l).all Sx.vok = true := by rw [List.all_cons, h, hl]; rfl
theorem vok_ag {k : IntKind} {l : List Int} (h : ∀ z ∈ l, (Lit.int k z).wf = true) : Sx.vok (.agg (l.map (Value.int k)).toArray) = true := by
  show (l.map (Value.int k)).all vok1 = true
  rw [List.all_eq_true]
  intro v hv
  obtain ⟨z, hz, rfl⟩ := List.mem_map.1 hv
  exact h z hz
theorem vok_agb (l : List Bool) : Sx.vok (.agg (l.map Value.bool).toArray) = true := by
  show (l.map Value.bool).all vok1 = true
  rw [List.all_eq_true]
  intro v hv
  obtain ⟨z, _, rfl⟩ := List.mem_map.1 hv
  rfl
end
section
variable {T : Orc} {L : Env} {op : Op} {t ty : TypeId} {x y : Operand} {k k' : IntKind} {p q : Int}
theorem po_shr (ho : op = .binOp .shr t x y ty) (hx : ev L x = some (.int k p)) (hy : ev L y = some (.int k' q)) (hq : 0 ≤ q) : pureOp T L op = some (.int k (p.fdiv (2 ^ min q.toNat k.bits))) := by
  subst ho
  simp only [pureOp, hx, hy, Option.bind_some, binV, shI]
  rw [if_neg (by omega)]
theorem po_shl (ho : op = .binOp .shl t x y ty) (hx : ev L x = some (.int k p)) (hy : ev L y = some (.int k' q)) (hq : 0 ≤ q) : pureOp T L op = some (.int k (k.wrap (p * 2 ^ min q.toNat k.bits))) := by
  subst ho
  simp only [pureOp, hx, hy, Option.bind_some, binV, shI]
  rw [if_neg (by omega)]
theorem po_rem (ho : op = .binOp .rem t x y ty) (hx : ev L x = some (.int k p)) (hy : ev L y = some (.int k q)) (hq : q ≠ 0) : pureOp T L op = some (.int k (p.tmod q)) := by
  subst ho
  simp only [pureOp, hx, hy, Option.bind_some, binV, binI]
  rw [if_pos trivial, if_neg hq]
theorem po_quo (ho : op = .binOp .quo t x y ty) (hx : ev L x = some (.int k p)) (hy : ev L y = some (.int k q)) (hq : q ≠ 0) : pureOp T L op = some (.int k (k.wrap (p.tdiv q))) := by
  subst ho
  simp only [pureOp, hx, hy, Option.bind_some, binV, binI]
  rw [if_pos trivial, if_neg hq]
end
/-! ### Arrays of the call's own -/
section
variable {α : Type}
def arrA (f : α → Value) (e n b : Nat) (l : List α) : Asn where
  holds := fun w B F => w.heap[b]? = some (.cells (l.map f).toArray e (0, 0)) ∧ l.length = n ∧ (∀ z ∈ l, vok (f z) = true) ∧ B ≤ b ∧ ∀ g, F g ↔ g = b
  keep := fun ⟨h1, h2, h3, h4, h5⟩ hc hF _ => ⟨by rw [hc.block _ (Array.getElem?_eq_some_iff.1 h1).1 (hF _ ((h5 _).2 rfl))]; exact h1, h2, h3, h4, h5⟩
  dom := fun ⟨h1, _, _, h4, h5⟩ g hg => by rw [h5 g] at hg; subst hg; exact ⟨h4, (Array.getElem?_eq_some_iff.1 h1).1⟩
theorem Sat.arrAt {w0 w : World} {M : List Asn} {f : α → Value} {e n b : Nat} {l : List α} (S : Sat w0 w M) (i : Nat) (hi : M[i]? = some (arrA f e n b l)) : w.heap[b]? = some (.cells (l.map f).toArray e (0, 0)) ∧ l.length = n ∧ ∀ z ∈ l, vok (f z) = true := by
  obtain ⟨F, h1, h2, h3, _⟩ := (S.frontAt i hi).hd
  exact ⟨h1, h2, h3⟩
end
section
variable {P : Program} {T : Orc} {ops : Array Oper} {Q : Exit → Act → World → Prop} {S' : World → Prop} {Df : List Deferred} {N : Nat} {a : Act} {w w0 : World} {L : Env} {k : IntKind} {R : List Asn}
theorem cw_cut2 {x y z : Code} (M : Act → World → Prop) (hx : x.wp P (Exit.then (y.wp P (Exit.then M Q)) Q) a w) (hy : ∀ a w, M a w → z.wp P Q a w) : (Code.seq x (Code.seq y z)).wp P Q a w :=
  wp_seq (wp_mono hx fun e a w h => by cases e <;> first | exact cw_cut M h hy | exact h)
theorem wl_pv (hT : T.Ok P) {o : Oper} {rest : List Oper} {d : Nat} {v : Value} (fr : FrD Df N a L) (hw : wantL ops L o = some true) (hd : o.dst = some d) (hlt : Nat.blt d N = true) (hp : pureOp T L o.op = some v) (h : ∀ a', FrD Df N a' ((d, v) :: L) → wpList P ops Q rest a' w) : wpList P ops Q (o :: rest) a w :=
  wl_val fr hw hd hlt (pure_run hT fr hp w).1 (pure_run hT fr hp w).2 h
theorem sl_pv (hT : T.Ok P) {s : SOp} {rest : List Itm} {d : Nat} {v : Value} (fr : FrD Df N a L) (hw : wantS L s = some true) (hq : s.q = true) (hd : s.dst = some d) (hlt : Nat.blt d N = true) (hp : pureOp T L s.op = some v) (h : ∀ a', FrD Df N a' ((d, v) :: L) → SL P Q S' rest a' w) : SL P Q S' (.one s :: rest) a w :=
  sl_q fr hw hq hd hlt (fun w' _ => (pure_run hT fr (o := s.oper) hp w').1) (pure_run hT fr (o := s.oper) hp w).2 h
/-- An element in a drawn region. -/
theorem sl_ld (hT : T.Ok P) {s1 s2 : SOp} {rest : List Itm} {t te : TypeId} {x ix : Operand} {d1 d2 : Nat} {A : Option Addr} {l : List Int} {n c e : Nat} {ki : IntKind} {i : Int} {de : TypeDesc}
    (hr : ∀ w, S' w → Rk k w A l) (fr : FrD Df N a L) (hw : wantS L s1 = some true) (hq : s1.q = true) (ho1 : s1.op = .indexAddr t x ix) (hd1 : s1.dst = some d1) (hw2 : wantS L s2 = some true) (hq2 : s2.q = true) (ho2 : s2.op = .load te (.tmp d1)) (hd2 : s2.dst = some d2) (hl1 : Nat.blt d1 N = true) (hl2 : Nat.blt d2 N = true)
    (hx : ev L x = some (.slice A n c)) (hi : ev L ix = some (.int ki i)) (ht : T.ty.lookup t = some (.slice e)) (hs : T.sz.lookup e = some 1) (hte : T.ty.lookup te = some de) (hde : aggD de = false) (hn : n = l.length) (hf : L.lookup d1 = none) (hb : 0 ≤ i ∧ i < (l.length : Int))
    (hS : S' w) (h : ∀ a', FrD Df N a' ((d2, .int k (l.getD i.toNat 0)) :: L) → SL P Q S' rest a' w) : SL P Q S' (.one s1 :: .one s2 :: rest) a w := by
  subst hn
  obtain ⟨j, rfl⟩ : ∃ j : Nat, i = j := ⟨i.toNat, by omega⟩
  have hj : j < l.length := by omega
  obtain ⟨ad, rfl, -, -⟩ := (hr w hS).rd.cell hj
  refine sl_q fr hw hq hd1 hl1 (fun w' _ => indexAddr_run hT fr (o := s1.oper) ho1 hx hi ht hs (by omega) hb.2 w') rfl fun a1 fr1 => ?_
  have hw3 : wantS ((d1, .pointer (some (ad.add ((j : Int).toNat * 1)))) :: L) s2 = some true := by
    have hk := hw2
    unfold wantS at hk ⊢
    split at hk
    · rename_i hg'; rw [hg'] at *
    · rename_i t' want hg'
      split at hk
      · rename_i b hb'
        have hne : t' ≠ d1 := fun e => by subst e; rw [hf] at hb'; cases hb'
        rw [lookup_cons, if_neg hne, hb']; exact hk
      · cases hk
      · cases hk
  have hm : l.getD j 0 ∈ l := by rw [List.getD_eq_getElem?_getD, List.getElem?_eq_getElem hj]; exact List.getElem_mem hj
  refine sl_q (v := .int k (l.getD j 0)) fr1 hw3 hq2 hd2 hl2 (fun w' hS' => load_run hT fr1 (o := s2.oper) ho2 (by show ((d1, _) :: L).lookup d1 = _; rw [lookup_cons, if_pos rfl]) hte hde (by
    obtain ⟨ad', e', -, hc⟩ := (hr w' hS').rd.cell hj
    injection e' with e'
    rw [Int.toNat_natCast, Nat.mul_one, e']; exact hc)) ((hr w hS).wf _ hm) fun a2 fr2 => h a2 ?_
  refine ⟨fr2.size, fr2.defers, fun e u he => fr2.get e u ?_⟩
  rw [lookup_cons] at he ⊢
  by_cases h1 : e = d2
  · rw [if_pos h1] at he ⊢; rw [Int.toNat_natCast] at he; exact he
  · rw [if_neg h1] at he ⊢
    rw [lookup_cons]
    by_cases h2 : e = d1
    · subst h2; rw [hf] at he; cases he
    · rw [if_neg h2]; exact he
/-- The first so many of a slice. -/
theorem take_run (hT : T.Ok P) (fr : FrD Df N a L) {o : Oper} {t : TypeId} {x y : Operand} (ho : o.op = .slice t x none (some y) none) {A : Option Addr} {n c e s : Nat} {ki : IntKind} {i : Int} (hx : ev L x = some (.slice A n c)) (hy : ev L y = some (.int ki i))
    (ht : T.ty.lookup t = some (.slice e)) (hs : T.sz.lookup e = some s) (hb : 0 ≤ i ∧ i ≤ (c : Int)) (w : World) : (execOp a.eval o).run P w = .ok (.value (.slice A i.toNat c)) w := by
  unfold execOp
  simp only [ho, (fr.ev hx).1, Option.map_some, Option.map_none, (fr.ev hy).1, Instr.sliceAt]
  rw [Sem.run_bind, Sem.run_bind, run_underlying (hT.und ht), Result.andThen_ok]
  simp only [Instr.slice]
  rw [Sem.run_bind, run_underlying (hT.und ht), Result.andThen_ok]
  simp [Instr.sliceBounds, Instr.sliceBound, asIntOf, hb.1, hb.2, size_run hT hs]
  intro _
  cases A <;> simp [Addr.add]
theorem wl_take (hT : T.Ok P) {o : Oper} {rest : List Oper} {t : TypeId} {x y : Operand} {d : Nat} {A : Option Addr} {l : List Int} {n c e s : Nat} {ki : IntKind} {i : Int} (fr : FrD Df N a L) (hw : wantL ops L o = some true) (ho : o.op = .slice t x none (some y) none) (hd : o.dst = some d) (hlt : Nat.blt d N = true)
    (hx : ev L x = some (.slice A n c)) (hy : ev L y = some (.int ki i)) (ht : T.ty.lookup t = some (.slice e)) (hs : T.sz.lookup e = some s) (hn : n = l.length) (hb : 0 ≤ i ∧ i ≤ (l.length : Int))
    (h : ∀ a', FrD Df N a' ((d, .slice A (l.take i.toNat).length c) :: L) → wpList P ops Q rest a' w) : wpList P ops Q (o :: rest) a w := by
  subst hn
  have hv := (fr.ev hx).2
  have hv2 : l.length ≤ c ∧ c ≤ maxLen := by simpa [vok, vokC, vok1] using hv
  have hl : (l.take i.toNat).length = i.toNat := by rw [List.length_take]; omega
  exact wl_val fr hw hd hlt (take_run hT fr ho hx hy ht hs ⟨hb.1, by omega⟩ w) (vok_sl ⟨by omega, hv2.2⟩) fun a' fr' => h a' (by rw [hl]; exact fr')
theorem fill_int (k : IntKind) (n : Nat) (xs : List Int) (hn : xs.length = n) : ∀ (m : Nat), m ≤ n → Instr.fill (fun i => some (i * 1, 1)) ((xs.take m).map (Value.int k) ++ List.replicate (n - m) (Value.int k 0)).toArray (((xs.drop m).zipIdx m).map fun p => (p.2, Value.int k p.1)) = some (xs.map (Value.int k)).toArray := by
  intro m
  generalize hj : n - m = j
  induction j generalizing m with
  | zero =>
    intro hm
    have : m = n := by omega
    subst this
    rw [List.drop_eq_nil_of_le (by omega), List.take_of_length_le (by omega)]
    simp [Instr.fill]
  | succ j ih =>
    intro hm
    have hlt : m < xs.length := by omega
    have hml : ((xs.take m).map (Value.int k)).length = m := by simp; omega
    have hml2 : ((xs.take (m + 1)).map (Value.int k)).length = m + 1 := by simp; omega
    rw [List.drop_eq_getElem_cons hlt, List.zipIdx_cons, List.map_cons, OwnV.fill_step _ _ m m 1 _ _ (by simp) rfl (by simp; omega)]
    have := ih (m + 1) (by omega) (by omega)
    rw [← this]
    congr 2
    show splice _ m [Value.int k xs[m]] = _
    apply List.ext_getElem?
    intro q
    rw [OwnV.splice_get _ _ _ (by simp; omega), List.length_singleton]
    by_cases hq : m = q
    · subst hq
      rw [if_pos (by omega), List.getElem?_append_left (by omega), List.getElem?_map, List.getElem?_take_of_lt (by omega), List.getElem?_eq_getElem hlt, Nat.sub_self]; rfl
    · rw [if_neg (by omega)]
      by_cases hq2 : q < m
      · rw [List.getElem?_append_left (by omega), List.getElem?_append_left (by omega), List.getElem?_map, List.getElem?_map, List.getElem?_take_of_lt hq2, List.getElem?_take_of_lt (by omega)]
      · rw [List.getElem?_append_right (by omega), List.getElem?_append_right (by omega), hml, hml2, List.getElem?_replicate, List.getElem?_replicate]
        by_cases h3 : q - m < j + 1
        · rw [if_pos h3, if_pos (by omega)]
        · rw [if_neg h3, if_neg (by omega)]
theorem lit_run {t e : TypeId} (RT : RowTy P t e k) (n : Nat) (xs : List Int) (hn : xs.length = n) (h0 : 0 < n) (h1 : n ≤ 1000) (w : World) :
    (Instr.buildSlice t n ((xs.zipIdx 0).map fun p => (p.2, Value.int k p.1)).toArray).run P w = .ok (.slice (some ⟨w.heap.size, 0, none⟩) n n) (w.alloc (.cells (xs.map (Value.int k)).toArray e)) := by
  obtain ⟨bytes, hle, hinfo⟩ := RT.hi
  obtain ⟨ie, hie, hzz⟩ := Option.map_eq_some_iff.1 hinfo
  simp only [Prod.mk.injEq] at hzz
  obtain ⟨hz, hs, hb⟩ := hzz
  refine Go.run_buildSlice w t e n _ _ ie (.int k 0) RT.ht hie hz (by rw [hs]; omega) (by rw [hs]; omega) ?_
  rw [hs]
  have h := fill_int k n xs hn 0 (Nat.zero_le _)
  have e1 : (Array.range (n * 1)).map ((Value.int k 0).cells[· % (Value.int k 0).cells.size]!) = (List.replicate n (Value.int k 0)).toArray := by
    apply Array.ext
    · simp
    · intro i h1 h2
      simp [Value.cells, Nat.mod_one]
  rw [e1]
  simpa using h
/-- What the operands of a literal tell. -/
def litOps (L : Env) (k : IntKind) : Nat → List (Nat × Operand) → List Int → Prop
  | _, [], [] => True
  | i, p :: r, x :: xs => p.1 = i ∧ ev L p.2 = some (.int k x) ∧ litOps L k (i + 1) r xs
  | _, _, _ => False
theorem litOps_eval (fr : FrD Df N a L) : ∀ {ps : List (Nat × Operand)} {xs : List Int} {i : Nat}, litOps L k i ps xs → ps.map (fun p => (p.1, a.eval p.2)) = (xs.zipIdx i).map (fun p => (p.2, Value.int k p.1)) ∧ ∀ z ∈ xs, (Lit.int k z).wf = true := by
  intro ps
  induction ps with
  | nil => intro xs i h; cases xs with
    | nil => exact ⟨rfl, fun z hz => by cases hz⟩
    | cons x xs => exact h.elim
  | cons p r ih =>
    intro xs i h
    cases xs with
    | nil => exact h.elim
    | cons x xs =>
      obtain ⟨h1, h2, h3⟩ := h
      obtain ⟨h4, h5⟩ := ih h3
      refine ⟨by rw [List.map_cons, List.zipIdx_cons, List.map_cons, h4, h1, (fr.ev h2).1], fun z hz => ?_⟩
      rcases List.mem_cons.1 hz with rfl | hz
      · exact (fr.ev h2).2
      · exact h5 z hz
theorem lit_exec {t e : TypeId} (RT : RowTy P t e k) (fr : FrD Df N a L) {o : Oper} {n : Nat} {ps : Array (Nat × Operand)} {xs : List Int} (ho : o.op = .buildSlice t n ps) (hp : litOps L k 0 ps.toList xs) (hn : xs.length = n) (h0 : (Nat.blt 0 n && Nat.ble n 1000) = true) (S : Sat w0 w R) :
    ∃ A c w', (execOp a.eval o).run P w = .ok (.value (.slice A xs.length c)) w' ∧ vok (.slice A xs.length c) = true ∧ Sat w0 w' (ownA k e A c xs :: R) := by
  obtain ⟨e1, e2⟩ := litOps_eval fr hp
  simp only [Bool.and_eq_true] at h0
  have h1 : 0 < n := blt_lt h0.1
  have h2 : n ≤ 1000 := Nat.le_of_ble_eq_true h0.2
  have hr := lit_run (P := P) RT n xs hn h1 h2 w
  have hml : n ≤ maxLen := Nat.le_trans h2 (by decide)
  refine ⟨some ⟨w.heap.size, 0, none⟩, n, w.alloc (.cells (xs.map (Value.int k)).toArray e), ?_, ?_, ?_⟩
  · unfold execOp
    simp only [ho]
    have e3 : (ps.map fun (i, x) => (i, a.eval x)) = ((xs.zipIdx 0).map fun p => (p.2, Value.int k p.1)).toArray := by
      apply Array.toList_inj.1
      rw [Array.toList_map]
      exact e1
    rw [Sem.run_bind, e3, hr, hn]; rfl
  · exact vok_sl ⟨by omega, hml⟩
  · have hm := OwnI.made (B := w.heap.size) w k xs e (xs.map (Value.int k)).toArray rfl (Nat.le_refl _) (by omega)
    rw [hn] at hm
    obtain ⟨A, c, ev', _, h3⟩ := S.row (l := xs) ((Below.refl _ _).alloc (Nat.le_refl _) _) hm e2
    injection ev' with e4 e5 e6
    subst e4 e6
    exact h3
theorem wl_lit (_hT : T.Ok P) {t e : TypeId} (RT : RowTy P t e k) {o : Oper} {rest : List Oper} {d n : Nat} {ps : Array (Nat × Operand)} {xs : List Int} (fr : FrD Df N a L) (hw : wantL ops L o = some true) (hd : o.dst = some d) (hlt : Nat.blt d N = true) (ho : o.op = .buildSlice t n ps) (hp : litOps L k 0 ps.toList xs) (hn : xs.length = n) (h0 : (Nat.blt 0 n && Nat.ble n 1000) = true) (S : Sat w0 w R)
    (h : ∀ w' A c, Sat w0 w' (ownA k e A c xs :: R) → ∀ a', FrD Df N a' ((d, .slice A xs.length c) :: L) → wpList P ops Q rest a' w') : wpList P ops Q (o :: rest) a w := by
  obtain ⟨A, c, w', h1, h2, h3⟩ := lit_exec (P := P) RT fr ho hp hn h0 S
  exact wl_val fr hw hd hlt h1 h2 (h w' A c h3)
theorem sl_lit (_hT : T.Ok P) {t e : TypeId} (RT : RowTy P t e k) {s : SOp} {rest : List Itm} {d n : Nat} {ps : Array (Nat × Operand)} {xs : List Int} (fr : FrD Df N a L) (hw : wantS L s = some true) (hq : s.q = false) (hd : s.dst = some d) (hlt : Nat.blt d N = true) (ho : s.op = .buildSlice t n ps) (hp : litOps L k 0 ps.toList xs) (hn : xs.length = n) (h0 : (Nat.blt 0 n && Nat.ble n 1000) = true) (S : Sat w0 w R)
    (h : ∀ w' A c, Sat w0 w' (ownA k e A c xs :: R) → S' w' ∧ ∀ a', FrD Df N a' ((d, .slice A xs.length c) :: L) → SL P Q S' rest a' w') : SL P Q S' (.one s :: rest) a w := by
  obtain ⟨A, c, w', h1, h2, h3⟩ := lit_exec (P := P) RT fr (o := s.oper) ho hp hn h0 S
  exact sl_val fr hw hq hd hlt h1 (h w' A c h3).1 h2 (h w' A c h3).2
theorem make_exec {t e : TypeId} (RT : RowTy P t e k) (fr : FrD Df N a L) {o : Oper} {x y : Operand} {k1 k2 : IntKind} {n : Int} (ho : o.op = .makeSlice t x y) (hx : ev L x = some (.int k1 n)) (hy : ev L y = some (.int k2 n)) (hb : 0 ≤ n ∧ n ≤ 1000000000) (S : Sat w0 w R) :
    ∃ A c w', (execOp a.eval o).run P w = .ok (.value (.slice A (List.replicate n.toNat (0 : Int)).length c)) w' ∧ vok (.slice A (List.replicate n.toNat (0 : Int)).length c) = true ∧ Sat w0 w' (ownA k e A c (List.replicate n.toNat 0) :: R) := by
  obtain ⟨m, rfl⟩ : ∃ m : Nat, n = m := ⟨n.toNat, by omega⟩
  obtain ⟨bytes, hle, hinfo⟩ := RT.hi
  have hmul : bytes * m ≤ 8 * m := Nat.mul_le_mul_right _ hle
  have hr := mk_run (P := P) t e (.int k 0) bytes RT.ht hinfo rfl k1 k2 m (by omega) (by omega) w
  have hml : m ≤ maxLen := Nat.le_trans (show m ≤ 1000000000 by omega) (by decide)
  rw [Int.toNat_natCast, List.length_replicate]
  refine ⟨some ⟨w.heap.size, 0, none⟩, m, w.alloc (.cells (Array.replicate m (.int k 0)) e), ?_, vok_sl ⟨Nat.le_refl _, hml⟩, ?_⟩
  · unfold execOp
    simp only [ho, (fr.ev hx).1, (fr.ev hy).1]
    rw [Sem.run_bind, hr]; rfl
  · have hm := OwnI.made (B := w.heap.size) w k (List.replicate m 0) e (Array.replicate m (.int k 0)) (by simp) (Nat.le_refl _) (by rw [List.length_replicate]; exact hml)
    rw [List.length_replicate] at hm
    obtain ⟨A, c, ev', _, h3⟩ := S.row (l := List.replicate m 0) ((Below.refl _ _).alloc (Nat.le_refl _) _) hm (fun z hz => by
      rw [List.eq_of_mem_replicate hz]; cases k <;> decide)
    injection ev' with e4 e5 e6
    subst e4 e6
    exact h3
theorem wl_make {t e : TypeId} (RT : RowTy P t e k) {o : Oper} {rest : List Oper} {d : Nat} {x y : Operand} {k1 k2 : IntKind} {n : Int} (fr : FrD Df N a L) (hw : wantL ops L o = some true) (hd : o.dst = some d) (hlt : Nat.blt d N = true) (ho : o.op = .makeSlice t x y) (hx : ev L x = some (.int k1 n)) (hy : ev L y = some (.int k2 n)) (hb : 0 ≤ n ∧ n ≤ 1000000000) (S : Sat w0 w R)
    (h : ∀ w' A c, Sat w0 w' (ownA k e A c (List.replicate n.toNat 0) :: R) → ∀ a', FrD Df N a' ((d, .slice A (List.replicate n.toNat (0 : Int)).length c) :: L) → wpList P ops Q rest a' w') : wpList P ops Q (o :: rest) a w := by
  obtain ⟨A, c, w', h1, h2, h3⟩ := make_exec (P := P) RT fr ho hx hy hb S
  exact wl_val fr hw hd hlt h1 h2 (h w' A c h3)
theorem sl_make {t e : TypeId} (RT : RowTy P t e k) {s : SOp} {rest : List Itm} {d : Nat} {x y : Operand} {k1 k2 : IntKind} {n : Int} (fr : FrD Df N a L) (hw : wantS L s = some true) (hq : s.q = false) (hd : s.dst = some d) (hlt : Nat.blt d N = true) (ho : s.op = .makeSlice t x y) (hx : ev L x = some (.int k1 n)) (hy : ev L y = some (.int k2 n)) (hb : 0 ≤ n ∧ n ≤ 1000000000) (S : Sat w0 w R)
    (h : ∀ w' A c, Sat w0 w' (ownA k e A c (List.replicate n.toNat 0) :: R) → S' w' ∧ ∀ a', FrD Df N a' ((d, .slice A (List.replicate n.toNat (0 : Int)).length c) :: L) → SL P Q S' rest a' w') : SL P Q S' (.one s :: rest) a w := by
  obtain ⟨A, c, w', h1, h2, h3⟩ := make_exec (P := P) RT fr (o := s.oper) ho hx hy hb S
  exact sl_val fr hw hq hd hlt h1 (h w' A c h3).1 h2 (h w' A c h3).2
/-- append to a row of the call's own. -/
theorem app_exec {t e : TypeId} (RT : RowTy P t e k) (fr : FrD Df N a L) {o : Oper} {x y : Operand} {A Y : Option Addr} {n m c cy : Nat} {l news : List Int} (ho : o.op = .call { callee := .builtin .append, args := #[x, y], argTypes := #[t, t] }) (hx : ev L x = some (.slice A n c)) (hn : n = l.length) (hy : ev L y = some (.slice Y m cy)) (hm : m = news.length)
    (hr : Rk k w Y news) (hb : (l.length : Int) + (news.length : Int) ≤ 17592186044416) (S : Sat w0 w (ownA k e A c l :: R)) :
    ∃ A' c' w', (execOp a.eval o).run P w = .ok (.value (.slice A' (l ++ news).length c')) w' ∧ vok (.slice A' (l ++ news).length c') = true ∧ Sat w0 w' (ownA k e A' c' (l ++ news) :: R) := by
  subst hn hm
  obtain ⟨F, ⟨h1, h2, h3⟩, hF, hk⟩ := S.opened
  obtain ⟨bytes, hle, hinfo⟩ := RT.hi
  have hmul : (l.length + news.length) * bytes ≤ (l.length + news.length) * 8 := Nat.mul_le_mul_left _ hle
  obtain ⟨v', w', hrun, h4, h5, h6⟩ := ap_run (P := P) t o.type (.int k 0) bytes RT.ht hinfo rfl h1 Y news.length cy news rfl hr.rd (fun e => by rw [hr.rd.empty e]; rfl) (by unfold maxLen; omega) (by omega) S.below.size
  obtain ⟨A', c', rfl, h7, h8, _, _⟩ := h4.slice
  refine ⟨A', c', w', ?_, vok_sl ⟨h7, h8⟩, ?_⟩
  · unfold execOp
    simp only [ho, resolve]
    rw [Sem.run_bind, Sem.run_pure, Result.andThen_ok]
    simp only [invoke, builtin, List.map_toArray, List.map_cons, List.map_nil, (fr.ev hx).1, (fr.ev hy).1]
    rw [Sem.run_bind, hrun]; rfl
  · refine hk (A' := ownA k e A' c' (l ++ news)) (F' := fun g => (Value.slice A' (l ++ news).length c').ownBlock = some g) ⟨h4, fun z hz => ?_, fun g => Iff.rfl⟩ (Chg.of_grown h5) (fun g _ hg => (h3 g).2 hg.symm) fun g hg => ?_
    · rcases List.mem_append.1 hz with hz | hz
      · exact h2 z hz
      · exact hr.wf z hz
    · rcases h6 with h | h
      · rw [h] at hg; exact .inl ((h3 g).2 hg)
      · rw [h] at hg; injection hg with hg; subst hg; exact .inr (Nat.le_refl _)
theorem wl_app {t e : TypeId} (RT : RowTy P t e k) {o : Oper} {rest : List Oper} {d : Nat} {x y : Operand} {A Y : Option Addr} {n m c cy : Nat} {l news : List Int} (fr : FrD Df N a L) (hw : wantL ops L o = some true) (hd : o.dst = some d) (hlt : Nat.blt d N = true) (ho : o.op = .call { callee := .builtin .append, args := #[x, y], argTypes := #[t, t] }) (hx : ev L x = some (.slice A n c)) (hn : n = l.length) (hy : ev L y = some (.slice Y m cy)) (hm : m = news.length)
    (hr : Rk k w Y news) (hb : (l.length : Int) + (news.length : Int) ≤ 17592186044416) (S : Sat w0 w (ownA k e A c l :: R))
    (h : ∀ w' A' c', Sat w0 w' (ownA k e A' c' (l ++ news) :: R) → ∀ a', FrD Df N a' ((d, .slice A' (l ++ news).length c') :: L) → wpList P ops Q rest a' w') : wpList P ops Q (o :: rest) a w := by
  obtain ⟨A', c', w', h1, h2, h3⟩ := app_exec (P := P) RT fr ho hx hn hy hm hr hb S
  exact wl_val fr hw hd hlt h1 h2 (h w' A' c' h3)
theorem sl_app {t e : TypeId} (RT : RowTy P t e k) {s : SOp} {rest : List Itm} {d : Nat} {x y : Operand} {A Y : Option Addr} {n m c cy : Nat} {l news : List Int} (fr : FrD Df N a L) (hw : wantS L s = some true) (hq : s.q = false) (hd : s.dst = some d) (hlt : Nat.blt d N = true) (ho : s.op = .call { callee := .builtin .append, args := #[x, y], argTypes := #[t, t] }) (hx : ev L x = some (.slice A n c)) (hn : n = l.length) (hy : ev L y = some (.slice Y m cy)) (hm : m = news.length)
    (hr : Rk k w Y news) (hb : (l.length : Int) + (news.length : Int) ≤ 17592186044416) (S : Sat w0 w (ownA k e A c l :: R))
    (h : ∀ w' A' c', Sat w0 w' (ownA k e A' c' (l ++ news) :: R) → S' w' ∧ ∀ a', FrD Df N a' ((d, .slice A' (l ++ news).length c') :: L) → SL P Q S' rest a' w') : SL P Q S' (.one s :: rest) a w := by
  obtain ⟨A', c', w', h1, h2, h3⟩ := app_exec (P := P) RT fr (o := s.oper) ho hx hn hy hm hr hb S
  exact sl_val fr hw hq hd hlt h1 (h w' A' c' h3).1 h2 (h w' A' c' h3).2
end
end Go.Proofs.YticnjkdaccacaaaDoor.Sx
