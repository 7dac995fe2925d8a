/- Texts of this work, one behind the other. -/
import Derived.Test.YticnjkdaccacaaaGreatDoorVWallsPlay3
section
namespace Go.Proofs.YticnjkdaccacaaaGreatDoor.Sx
open Go Go.RowKit Base _root_.Go.Proofs.YticnjkdaccacaaaGreatDoor.Own
section
variable {Df : List Deferred} {N : Nat} {a : Act} {L : Env}
theorem FrD.vok (fr : FrD Df N a L) {d : Nat} {v : Value} (h : L.lookup d = some v) : Sx.vok v = true := (fr.get _ _ h).2
theorem vok_tup2 (fr : FrD Df N a L) {d e : Nat} {k k' : IntKind} {x y : Int} (h1 : L.lookup d = some (.int k x)) (h2 : L.lookup e = some (.int k' y)) : Sx.vok (.tuple #[.int k x, .int k' y]) = true := by
  have e1 := fr.vok h1
  have e2 := fr.vok h2
  show [Value.int k x, Value.int k' y].all vokC = true
  rw [List.all_cons, List.all_cons, show vokC (.int k x) = true from e1, show vokC (.int k' y) = true from e2]; rfl
theorem vok_tupii (fr : FrD Df N a L) {d : Nat} {e : Nat} {k0 : IntKind} {x0 : Int} {k1 : IntKind} {x1 : Int} (h0 : L.lookup d = some (.int k0 x0)) (h1 : L.lookup e = some (.int k1 x1)) : Sx.vok (.tuple #[(.int k0 x0), (.int k1 x1)]) = true := by
  show [(Value.int k0 x0), (Value.int k1 x1)].all vokC = true
  rw [List.all_cons, List.all_cons, show vokC (.int k0 x0) = true from fr.vok h0, show vokC (.int k1 x1) = true from fr.vok h1]; rfl
theorem vok_tupib (fr : FrD Df N a L) {d : Nat} {e : Nat} {k0 : IntKind} {x0 : Int} {x1 : Bool} (h0 : L.lookup d = some (.int k0 x0)) (h1 : L.lookup e = some (.bool x1)) : Sx.vok (.tuple #[(.int k0 x0), (.bool x1)]) = true := by
  show [(Value.int k0 x0), (Value.bool x1)].all vokC = true
  rw [List.all_cons, List.all_cons, show vokC (.int k0 x0) = true from fr.vok h0, show vokC (.bool x1) = true from fr.vok h1]; rfl
theorem vok_tupbi (fr : FrD Df N a L) {d : Nat} {e : Nat} {x0 : Bool} {k1 : IntKind} {x1 : Int} (h0 : L.lookup d = some (.bool x0)) (h1 : L.lookup e = some (.int k1 x1)) : Sx.vok (.tuple #[(.bool x0), (.int k1 x1)]) = true := by
  show [(Value.bool x0), (Value.int k1 x1)].all vokC = true
  rw [List.all_cons, List.all_cons, show vokC (.bool x0) = true from fr.vok h0, show vokC (.int k1 x1) = true from fr.vok h1]; rfl
theorem vok_tupbb (fr : FrD Df N a L) {d : Nat} {e : Nat} {x0 : Bool} {x1 : Bool} (h0 : L.lookup d = some (.bool x0)) (h1 : L.lookup e = some (.bool x1)) : Sx.vok (.tuple #[(.bool x0), (.bool x1)]) = true := by
  show [(Value.bool x0), (Value.bool x1)].all vokC = true
  rw [List.all_cons, List.all_cons, show vokC (.bool x0) = true from fr.vok h0, show vokC (.bool x1) = true from fr.vok h1]; rfl
theorem vok_tupiii (fr : FrD Df N a L) {d : Nat} {e : Nat} {f : Nat} {k0 : IntKind} {x0 : Int} {k1 : IntKind} {x1 : Int} {k2 : IntKind} {x2 : Int} (h0 : L.lookup d = some (.int k0 x0)) (h1 : L.lookup e = some (.int k1 x1)) (h2 : L.lookup f = some (.int k2 x2)) : Sx.vok (.tuple #[(.int k0 x0), (.int k1 x1), (.int k2 x2)]) = true := by
  show [(Value.int k0 x0), (Value.int k1 x1), (Value.int k2 x2)].all vokC = true
  rw [List.all_cons, List.all_cons, List.all_cons, show vokC (.int k0 x0) = true from fr.vok h0, show vokC (.int k1 x1) = true from fr.vok h1, show vokC (.int k2 x2) = true from fr.vok h2]; rfl
theorem vok_tupiib (fr : FrD Df N a L) {d : Nat} {e : Nat} {f : Nat} {k0 : IntKind} {x0 : Int} {k1 : IntKind} {x1 : Int} {x2 : Bool} (h0 : L.lookup d = some (.int k0 x0)) (h1 : L.lookup e = some (.int k1 x1)) (h2 : L.lookup f = some (.bool x2)) : Sx.vok (.tuple #[(.int k0 x0), (.int k1 x1), (.bool x2)]) = true := by
  show [(Value.int k0 x0), (Value.int k1 x1), (Value.bool x2)].all vokC = true
  rw [List.all_cons, List.all_cons, List.all_cons, show vokC (.int k0 x0) = true from fr.vok h0, show vokC (.int k1 x1) = true from fr.vok h1, show vokC (.bool x2) = true from fr.vok h2]; rfl
theorem vok_tupibi (fr : FrD Df N a L) {d : Nat} {e : Nat} {f : Nat} {k0 : IntKind} {x0 : Int} {x1 : Bool} {k2 : IntKind} {x2 : Int} (h0 : L.lookup d = some (.int k0 x0)) (h1 : L.lookup e = some (.bool x1)) (h2 : L.lookup f = some (.int k2 x2)) : Sx.vok (.tuple #[(.int k0 x0), (.bool x1), (.int k2 x2)]) = true := by
  show [(Value.int k0 x0), (Value.bool x1), (Value.int k2 x2)].all vokC = true
  rw [List.all_cons, List.all_cons, List.all_cons, show vokC (.int k0 x0) = true from fr.vok h0, show vokC (.bool x1) = true from fr.vok h1, show vokC (.int k2 x2) = true from fr.vok h2]; rfl
theorem vok_tupibb (fr : FrD Df N a L) {d : Nat} {e : Nat} {f : Nat} {k0 : IntKind} {x0 : Int} {x1 : Bool} {x2 : Bool} (h0 : L.lookup d = some (.int k0 x0)) (h1 : L.lookup e = some (.bool x1)) (h2 : L.lookup f = some (.bool x2)) : Sx.vok (.tuple #[(.int k0 x0), (.bool x1), (.bool x2)]) = true := by
  show [(Value.int k0 x0), (Value.bool x1), (Value.bool x2)].all vokC = true
  rw [List.all_cons, List.all_cons, List.all_cons, show vokC (.int k0 x0) = true from fr.vok h0, show vokC (.bool x1) = true from fr.vok h1, show vokC (.bool x2) = true from fr.vok h2]; rfl
theorem vok_tupbii (fr : FrD Df N a L) {d : Nat} {e : Nat} {f : Nat} {x0 : Bool} {k1 : IntKind} {x1 : Int} {k2 : IntKind} {x2 : Int} (h0 : L.lookup d = some (.bool x0)) (h1 : L.lookup e = some (.int k1 x1)) (h2 : L.lookup f = some (.int k2 x2)) : Sx.vok (.tuple #[(.bool x0), (.int k1 x1), (.int k2 x2)]) = true := by
  show [(Value.bool x0), (Value.int k1 x1), (Value.int k2 x2)].all vokC = true
  rw [List.all_cons, List.all_cons, List.all_cons, show vokC (.bool x0) = true from fr.vok h0, show vokC (.int k1 x1) = true from fr.vok h1, show vokC (.int k2 x2) = true from fr.vok h2]; rfl
theorem vok_tupbib (fr : FrD Df N a L) {d : Nat} {e : Nat} {f : Nat} {x0 : Bool} {k1 : IntKind} {x1 : Int} {x2 : Bool} (h0 : L.lookup d = some (.bool x0)) (h1 : L.lookup e = some (.int k1 x1)) (h2 : L.lookup f = some (.bool x2)) : Sx.vok (.tuple #[(.bool x0), (.int k1 x1), (.bool x2)]) = true := by
  show [(Value.bool x0), (Value.int k1 x1), (Value.bool x2)].all vokC = true
  rw [List.all_cons, List.all_cons, List.all_cons, show vokC (.bool x0) = true from fr.vok h0, show vokC (.int k1 x1) = true from fr.vok h1, show vokC (.bool x2) = true from fr.vok h2]; rfl
theorem vok_tupbbi (fr : FrD Df N a L) {d : Nat} {e : Nat} {f : Nat} {x0 : Bool} {x1 : Bool} {k2 : IntKind} {x2 : Int} (h0 : L.lookup d = some (.bool x0)) (h1 : L.lookup e = some (.bool x1)) (h2 : L.lookup f = some (.int k2 x2)) : Sx.vok (.tuple #[(.bool x0), (.bool x1), (.int k2 x2)]) = true := by
  show [(Value.bool x0), (Value.bool x1), (Value.int k2 x2)].all vokC = true
  rw [List.all_cons, List.all_cons, List.all_cons, show vokC (.bool x0) = true from fr.vok h0, show vokC (.bool x1) = true from fr.vok h1, show vokC (.int k2 x2) = true from fr.vok h2]; rfl
theorem vok_tupbbb (fr : FrD Df N a L) {d : Nat} {e : Nat} {f : Nat} {x0 : Bool} {x1 : Bool} {x2 : Bool} (h0 : L.lookup d = some (.bool x0)) (h1 : L.lookup e = some (.bool x1)) (h2 : L.lookup f = some (.bool x2)) : Sx.vok (.tuple #[(.bool x0), (.bool x1), (.bool x2)]) = true := by
  show [(Value.bool x0), (Value.bool x1), (Value.bool x2)].all vokC = true
  rw [List.all_cons, List.all_cons, List.all_cons, show vokC (.bool x0) = true from fr.vok h0, show vokC (.bool x1) = true from fr.vok h1, show vokC (.bool x2) = true from fr.vok h2]; rfl
theorem vok_tupiiii (fr : FrD Df N a L) {d : Nat} {e : Nat} {f : Nat} {g : Nat} {k0 : IntKind} {x0 : Int} {k1 : IntKind} {x1 : Int} {k2 : IntKind} {x2 : Int} {k3 : IntKind} {x3 : Int} (h0 : L.lookup d = some (.int k0 x0)) (h1 : L.lookup e = some (.int k1 x1)) (h2 : L.lookup f = some (.int k2 x2)) (h3 : L.lookup g = some (.int k3 x3)) : Sx.vok (.tuple #[(.int k0 x0), (.int k1 x1), (.int k2 x2), (.int k3 x3)]) = true := by
  show [(Value.int k0 x0), (Value.int k1 x1), (Value.int k2 x2), (Value.int k3 x3)].all vokC = true
  rw [List.all_cons, List.all_cons, List.all_cons, List.all_cons, show vokC (.int k0 x0) = true from fr.vok h0, show vokC (.int k1 x1) = true from fr.vok h1, show vokC (.int k2 x2) = true from fr.vok h2, show vokC (.int k3 x3) = true from fr.vok h3]; rfl
theorem vok_tupiiib (fr : FrD Df N a L) {d : Nat} {e : Nat} {f : Nat} {g : Nat} {k0 : IntKind} {x0 : Int} {k1 : IntKind} {x1 : Int} {k2 : IntKind} {x2 : Int} {x3 : Bool} (h0 : L.lookup d = some (.int k0 x0)) (h1 : L.lookup e = some (.int k1 x1)) (h2 : L.lookup f = some (.int k2 x2)) (h3 : L.lookup g = some (.bool x3)) : Sx.vok (.tuple #[(.int k0 x0), (.int k1 x1), (.int k2 x2), (.bool x3)]) = true := by
  show [(Value.int k0 x0), (Value.int k1 x1), (Value.int k2 x2), (Value.bool x3)].all vokC = true
  rw [List.all_cons, List.all_cons, List.all_cons, List.all_cons, show vokC (.int k0 x0) = true from fr.vok h0, show vokC (.int k1 x1) = true from fr.vok h1, show vokC (.int k2 x2) = true from fr.vok h2, show vokC (.bool x3) = true from fr.vok h3]; rfl
theorem vok_tupiibi (fr : FrD Df N a L) {d : Nat} {e : Nat} {f : Nat} {g : Nat} {k0 : IntKind} {x0 : Int} {k1 : IntKind} {x1 : Int} {x2 : Bool} {k3 : IntKind} {x3 : Int} (h0 : L.lookup d = some (.int k0 x0)) (h1 : L.lookup e = some (.int k1 x1)) (h2 : L.lookup f = some (.bool x2)) (h3 : L.lookup g = some (.int k3 x3)) : Sx.vok (.tuple #[(.int k0 x0), (.int k1 x1), (.bool x2), (.int k3 x3)]) = true := by
  show [(Value.int k0 x0), (Value.int k1 x1), (Value.bool x2), (Value.int k3 x3)].all vokC = true
  rw [List.all_cons, List.all_cons, List.all_cons, List.all_cons, show vokC (.int k0 x0) = true from fr.vok h0, show vokC (.int k1 x1) = true from fr.vok h1, show vokC (.bool x2) = true from fr.vok h2, show vokC (.int k3 x3) = true from fr.vok h3]; rfl
theorem vok_tupiibb (fr : FrD Df N a L) {d : Nat} {e : Nat} {f : Nat} {g : Nat} {k0 : IntKind} {x0 : Int} {k1 : IntKind} {x1 : Int} {x2 : Bool} {x3 : Bool} (h0 : L.lookup d = some (.int k0 x0)) (h1 : L.lookup e = some (.int k1 x1)) (h2 : L.lookup f = some (.bool x2)) (h3 : L.lookup g = some (.bool x3)) : Sx.vok (.tuple #[(.int k0 x0), (.int k1 x1), (.bool x2), (.bool x3)]) = true := by
  show [(Value.int k0 x0), (Value.int k1 x1), (Value.bool x2), (Value.bool x3)].all vokC = true
  rw [List.all_cons, List.all_cons, List.all_cons, List.all_cons, show vokC (.int k0 x0) = true from fr.vok h0, show vokC (.int k1 x1) = true from fr.vok h1, show vokC (.bool x2) = true from fr.vok h2, show vokC (.bool x3) = true from fr.vok h3]; rfl
theorem vok_tupibii (fr : FrD Df N a L) {d : Nat} {e : Nat} {f : Nat} {g : Nat} {k0 : IntKind} {x0 : Int} {x1 : Bool} {k2 : IntKind} {x2 : Int} {k3 : IntKind} {x3 : Int} (h0 : L.lookup d = some (.int k0 x0)) (h1 : L.lookup e = some (.bool x1)) (h2 : L.lookup f = some (.int k2 x2)) (h3 : L.lookup g = some (.int k3 x3)) : Sx.vok (.tuple #[(.int k0 x0), (.bool x1), (.int k2 x2), (.int k3 x3)]) = true := by
  show [(Value.int k0 x0), (Value.bool x1), (Value.int k2 x2), (Value.int k3 x3)].all vokC = true
  rw [List.all_cons, List.all_cons, List.all_cons, List.all_cons, show vokC (.int k0 x0) = true from fr.vok h0, show vokC (.bool x1) = true from fr.vok h1, show vokC (.int k2 x2) = true from fr.vok h2, show vokC (.int k3 x3) = true from fr.vok h3]; rfl
theorem vok_tupibib (fr : FrD Df N a L) {d : Nat} {e : Nat} {f : Nat} {g : Nat} {k0 : IntKind} {x0 : Int} {x1 : Bool} {k2 : IntKind} {x2 : Int} {x3 : Bool} (h0 : L.lookup d = some (.int k0 x0)) (h1 : L.lookup e = some (.bool x1)) (h2 : L.lookup f = some (.int k2 x2)) (h3 : L.lookup g = some (.bool x3)) : Sx.vok (.tuple #[(.int k0 x0), (.bool x1), (.int k2 x2), (.bool x3)]) = true := by
  show [(Value.int k0 x0), (Value.bool x1), (Value.int k2 x2), (Value.bool x3)].all vokC = true
  rw [List.all_cons, List.all_cons, List.all_cons, List.all_cons, show vokC (.int k0 x0) = true from fr.vok h0, show vokC (.bool x1) = true from fr.vok h1, show vokC (.int k2 x2) = true from fr.vok h2, show vokC (.bool x3) = true from fr.vok h3]; rfl
theorem vok_tupibbi (fr : FrD Df N a L) {d : Nat} {e : Nat} {f : Nat} {g : Nat} {k0 : IntKind} {x0 : Int} {x1 : Bool} {x2 : Bool} {k3 : IntKind} {x3 : Int} (h0 : L.lookup d = some (.int k0 x0)) (h1 : L.lookup e = some (.bool x1)) (h2 : L.lookup f = some (.bool x2)) (h3 : L.lookup g = some (.int k3 x3)) : Sx.vok (.tuple #[(.int k0 x0), (.bool x1), (.bool x2), (.int k3 x3)]) = true := by
  show [(Value.int k0 x0), (Value.bool x1), (Value.bool x2), (Value.int k3 x3)].all vokC = true
  rw [List.all_cons, List.all_cons, List.all_cons, List.all_cons, show vokC (.int k0 x0) = true from fr.vok h0, show vokC (.bool x1) = true from fr.vok h1, show vokC (.bool x2) = true from fr.vok h2, show vokC (.int k3 x3) = true from fr.vok h3]; rfl
theorem vok_tupbiii (fr : FrD Df N a L) {d : Nat} {e : Nat} {f : Nat} {g : Nat} {x0 : Bool} {k1 : IntKind} {x1 : Int} {k2 : IntKind} {x2 : Int} {k3 : IntKind} {x3 : Int} (h0 : L.lookup d = some (.bool x0)) (h1 : L.lookup e = some (.int k1 x1)) (h2 : L.lookup f = some (.int k2 x2)) (h3 : L.lookup g = some (.int k3 x3)) : Sx.vok (.tuple #[(.bool x0), (.int k1 x1), (.int k2 x2), (.int k3 x3)]) = true := by
  show [(Value.bool x0), (Value.int k1 x1), (Value.int k2 x2), (Value.int k3 x3)].all vokC = true
  rw [List.all_cons, List.all_cons, List.all_cons, List.all_cons, show vokC (.bool x0) = true from fr.vok h0, show vokC (.int k1 x1) = true from fr.vok h1, show vokC (.int k2 x2) = true from fr.vok h2, show vokC (.int k3 x3) = true from fr.vok h3]; rfl
theorem vok_tupbiib (fr : FrD Df N a L) {d : Nat} {e : Nat} {f : Nat} {g : Nat} {x0 : Bool} {k1 : IntKind} {x1 : Int} {k2 : IntKind} {x2 : Int} {x3 : Bool} (h0 : L.lookup d = some (.bool x0)) (h1 : L.lookup e = some (.int k1 x1)) (h2 : L.lookup f = some (.int k2 x2)) (h3 : L.lookup g = some (.bool x3)) : Sx.vok (.tuple #[(.bool x0), (.int k1 x1), (.int k2 x2), (.bool x3)]) = true := by
  show [(Value.bool x0), (Value.int k1 x1), (Value.int k2 x2), (Value.bool x3)].all vokC = true
  rw [List.all_cons, List.all_cons, List.all_cons, List.all_cons, show vokC (.bool x0) = true from fr.vok h0, show vokC (.int k1 x1) = true from fr.vok h1, show vokC (.int k2 x2) = true from fr.vok h2, show vokC (.bool x3) = true from fr.vok h3]; rfl
theorem vok_tupbibi (fr : FrD Df N a L) {d : Nat} {e : Nat} {f : Nat} {g : Nat} {x0 : Bool} {k1 : IntKind} {x1 : Int} {x2 : Bool} {k3 : IntKind} {x3 : Int} (h0 : L.lookup d = some (.bool x0)) (h1 : L.lookup e = some (.int k1 x1)) (h2 : L.lookup f = some (.bool x2)) (h3 : L.lookup g = some (.int k3 x3)) : Sx.vok (.tuple #[(.bool x0), (.int k1 x1), (.bool x2), (.int k3 x3)]) = true := by
  show [(Value.bool x0), (Value.int k1 x1), (Value.bool x2), (Value.int k3 x3)].all vokC = true
  rw [List.all_cons, List.all_cons, List.all_cons, List.all_cons, show vokC (.bool x0) = true from fr.vok h0, show vokC (.int k1 x1) = true from fr.vok h1, show vokC (.bool x2) = true from fr.vok h2, show vokC (.int k3 x3) = true from fr.vok h3]; rfl
theorem vok_tupbbii (fr : FrD Df N a L) {d : Nat} {e : Nat} {f : Nat} {g : Nat} {x0 : Bool} {x1 : Bool} {k2 : IntKind} {x2 : Int} {k3 : IntKind} {x3 : Int} (h0 : L.lookup d = some (.bool x0)) (h1 : L.lookup e = some (.bool x1)) (h2 : L.lookup f = some (.int k2 x2)) (h3 : L.lookup g = some (.int k3 x3)) : Sx.vok (.tuple #[(.bool x0), (.bool x1), (.int k2 x2), (.int k3 x3)]) = true := by
  show [(Value.bool x0), (Value.bool x1), (Value.int k2 x2), (Value.int k3 x3)].all vokC = true
  rw [List.all_cons, List.all_cons, List.all_cons, List.all_cons, show vokC (.bool x0) = true from fr.vok h0, show vokC (.bool x1) = true from fr.vok h1, show vokC (.int k2 x2) = true from fr.vok h2, show vokC (.int k3 x3) = true from fr.vok h3]; rfl
theorem vok_sl {A : Option Addr} {n c : Nat} (h : n ≤ c ∧ c ≤ maxLen) : Sx.vok (.slice A n c) = true := by simp [Sx.vok, vokC, vok1, h]
theorem vok_c {v : Value} {l : List Value} (h : Sx.vok v = true) (hl : l.all Sx.vok = true) : (v :: l).all Sx.vok = true := by rw [List.all_cons, h, hl]; rfl
theorem vok_ag {k : IntKind} {l : List Int} (h : ∀ z ∈ l, (Lit.int k z).wf = true) : Sx.vok (.agg (l.map (Value.int k)).toArray) = true := by
  show (l.map (Value.int k)).all vok1 = true
  rw [List.all_eq_true]
  intro v hv
  obtain ⟨z, hz, rfl⟩ := List.mem_map.1 hv
  exact h z hz
theorem vok_agb (l : List Bool) : Sx.vok (.agg (l.map Value.bool).toArray) = true := by
  show (l.map Value.bool).all vok1 = true
  rw [List.all_eq_true]
  intro v hv
  obtain ⟨z, _, rfl⟩ := List.mem_map.1 hv
  rfl
end
section
variable {T : Orc} {L : Env} {op : Op} {t ty : TypeId} {x y : Operand} {k k' : IntKind} {p q : Int}
theorem po_shr (ho : op = .binOp .shr t x y ty) (hx : ev L x = some (.int k p)) (hy : ev L y = some (.int k' q)) (hq : 0 ≤ q) : pureOp T L op = some (.int k (p.fdiv (2 ^ min q.toNat k.bits))) := by
  subst ho
  simp only [pureOp, hx, hy, Option.bind_some, binV, shI]
  rw [if_neg (by omega)]
theorem po_shl (ho : op = .binOp .shl t x y ty) (hx : ev L x = some (.int k p)) (hy : ev L y = some (.int k' q)) (hq : 0 ≤ q) : pureOp T L op = some (.int k (k.wrap (p * 2 ^ min q.toNat k.bits))) := by
  subst ho
  simp only [pureOp, hx, hy, Option.bind_some, binV, shI]
  rw [if_neg (by omega)]
theorem po_rem (ho : op = .binOp .rem t x y ty) (hx : ev L x = some (.int k p)) (hy : ev L y = some (.int k q)) (hq : q ≠ 0) : pureOp T L op = some (.int k (p.tmod q)) := by
  subst ho
  simp only [pureOp, hx, hy, Option.bind_some, binV, binI]
  rw [if_pos trivial, if_neg hq]
theorem po_quo (ho : op = .binOp .quo t x y ty) (hx : ev L x = some (.int k p)) (hy : ev L y = some (.int k q)) (hq : q ≠ 0) : pureOp T L op = some (.int k (k.wrap (p.tdiv q))) := by
  subst ho
  simp only [pureOp, hx, hy, Option.bind_some, binV, binI]
  rw [if_pos trivial, if_neg hq]
end
section
variable {α : Type}
def arrA (f : α → Value) (e n b : Nat) (l : List α) : Asn where
  holds := fun w B F => w.heap[b]? = some (.cells (l.map f).toArray e (0, 0)) ∧ l.length = n ∧ (∀ z ∈ l, vok (f z) = true) ∧ B ≤ b ∧ ∀ g, F g ↔ g = b
  keep := fun ⟨h1, h2, h3, h4, h5⟩ hc hF _ => ⟨by rw [hc.block _ (Array.getElem?_eq_some_iff.1 h1).1 (hF _ ((h5 _).2 rfl))]; exact h1, h2, h3, h4, h5⟩
  dom := fun ⟨h1, _, _, h4, h5⟩ g hg => by rw [h5 g] at hg; subst hg; exact ⟨h4, (Array.getElem?_eq_some_iff.1 h1).1⟩
theorem Sat.arrAt {w0 w : World} {M : List Asn} {f : α → Value} {e n b : Nat} {l : List α} (S : Sat w0 w M) (i : Nat) (hi : M[i]? = some (arrA f e n b l)) : w.heap[b]? = some (.cells (l.map f).toArray e (0, 0)) ∧ l.length = n ∧ ∀ z ∈ l, vok (f z) = true := by
  obtain ⟨F, h1, h2, h3, _⟩ := (S.frontAt i hi).hd
  exact ⟨h1, h2, h3⟩
end
section
variable {P : Program} {T : Orc} {ops : Array Oper} {Q : Exit → Act → World → Prop} {S' : World → Prop} {Df : List Deferred} {N : Nat} {a : Act} {w w0 : World} {L : Env} {k : IntKind} {R : List Asn}
theorem cw_cut2 {x y z : Code} (M : Act → World → Prop) (hx : x.wp P (Exit.then (y.wp P (Exit.then M Q)) Q) a w) (hy : ∀ a w, M a w → z.wp P Q a w) : (Code.seq x (Code.seq y z)).wp P Q a w :=
  wp_seq (wp_mono hx fun e a w h => by cases e <;> first | exact cw_cut M h hy | exact h)
theorem wl_pv (hT : T.Ok P) {o : Oper} {rest : List Oper} {d : Nat} {v : Value} (fr : FrD Df N a L) (hw : wantL ops L o = some true) (hd : o.dst = some d) (hlt : Nat.blt d N = true) (hp : pureOp T L o.op = some v) (h : ∀ a', FrD Df N a' ((d, v) :: L) → wpList P ops Q rest a' w) : wpList P ops Q (o :: rest) a w :=
  wl_val fr hw hd hlt (pure_run hT fr hp w).1 (pure_run hT fr hp w).2 h
theorem sl_pv (hT : T.Ok P) {s : SOp} {rest : List Itm} {d : Nat} {v : Value} (fr : FrD Df N a L) (hw : wantS L s = some true) (hq : s.q = true) (hd : s.dst = some d) (hlt : Nat.blt d N = true) (hp : pureOp T L s.op = some v) (h : ∀ a', FrD Df N a' ((d, v) :: L) → SL P Q S' rest a' w) : SL P Q S' (.one s :: rest) a w :=
  sl_q fr hw hq hd hlt (fun w' _ => (pure_run hT fr (o := s.oper) hp w').1) (pure_run hT fr (o := s.oper) hp w).2 h
theorem sl_ld (hT : T.Ok P) {s1 s2 : SOp} {rest : List Itm} {t te : TypeId} {x ix : Operand} {d1 d2 : Nat} {A : Option Addr} {l : List Int} {n c e : Nat} {ki : IntKind} {i : Int} {de : TypeDesc}
    (hr : ∀ w, S' w → Rk k w A l) (fr : FrD Df N a L) (hw : wantS L s1 = some true) (hq : s1.q = true) (ho1 : s1.op = .indexAddr t x ix) (hd1 : s1.dst = some d1) (hw2 : wantS L s2 = some true) (hq2 : s2.q = true) (ho2 : s2.op = .load te (.tmp d1)) (hd2 : s2.dst = some d2) (hl1 : Nat.blt d1 N = true) (hl2 : Nat.blt d2 N = true)
    (hx : ev L x = some (.slice A n c)) (hi : ev L ix = some (.int ki i)) (ht : T.ty.lookup t = some (.slice e)) (hs : T.sz.lookup e = some 1) (hte : T.ty.lookup te = some de) (hde : aggD de = false) (hn : n = l.length) (hf : L.lookup d1 = none) (hb : 0 ≤ i ∧ i < (l.length : Int))
    (hS : S' w) (h : ∀ a', FrD Df N a' ((d2, .int k (l.getD i.toNat 0)) :: L) → SL P Q S' rest a' w) : SL P Q S' (.one s1 :: .one s2 :: rest) a w := by
  subst hn
  obtain ⟨j, rfl⟩ : ∃ j : Nat, i = j := ⟨i.toNat, by omega⟩
  have hj : j < l.length := by omega
  obtain ⟨ad, rfl, -, -⟩ := (hr w hS).rd.cell hj
  refine sl_q fr hw hq hd1 hl1 (fun w' _ => indexAddr_run hT fr (o := s1.oper) ho1 hx hi ht hs (by omega) hb.2 w') rfl fun a1 fr1 => ?_
  have hw3 : wantS ((d1, .pointer (some (ad.add ((j : Int).toNat * 1)))) :: L) s2 = some true := by
    have hk := hw2
    unfold wantS at hk ⊢
    split at hk
    · rename_i hg'; rw [hg'] at *
    · rename_i t' want hg'
      split at hk
      · rename_i b hb'
        have hne : t' ≠ d1 := fun e => by subst e; rw [hf] at hb'; cases hb'
        rw [lookup_cons, if_neg hne, hb']; exact hk
      · cases hk
      · cases hk
  have hm : l.getD j 0 ∈ l := by rw [List.getD_eq_getElem?_getD, List.getElem?_eq_getElem hj]; exact List.getElem_mem hj
  refine sl_q (v := .int k (l.getD j 0)) fr1 hw3 hq2 hd2 hl2 (fun w' hS' => load_run hT fr1 (o := s2.oper) ho2 (by show ((d1, _) :: L).lookup d1 = _; rw [lookup_cons, if_pos rfl]) hte hde (by
    obtain ⟨ad', e', -, hc⟩ := (hr w' hS').rd.cell hj
    injection e' with e'
    rw [Int.toNat_natCast, Nat.mul_one, e']; exact hc)) ((hr w hS).wf _ hm) fun a2 fr2 => h a2 ?_
  refine ⟨fr2.size, fr2.defers, fun e u he => fr2.get e u ?_⟩
  rw [lookup_cons] at he ⊢
  by_cases h1 : e = d2
  · rw [if_pos h1] at he ⊢; rw [Int.toNat_natCast] at he; exact he
  · rw [if_neg h1] at he ⊢
    rw [lookup_cons]
    by_cases h2 : e = d1
    · subst h2; rw [hf] at he; cases he
    · rw [if_neg h2]; exact he
theorem take_run (hT : T.Ok P) (fr : FrD Df N a L) {o : Oper} {t : TypeId} {x y : Operand} (ho : o.op = .slice t x none (some y) none) {A : Option Addr} {n c e s : Nat} {ki : IntKind} {i : Int} (hx : ev L x = some (.slice A n c)) (hy : ev L y = some (.int ki i))
    (ht : T.ty.lookup t = some (.slice e)) (hs : T.sz.lookup e = some s) (hb : 0 ≤ i ∧ i ≤ (c : Int)) (w : World) : (execOp a.eval o).run P w = .ok (.value (.slice A i.toNat c)) w := by
  unfold execOp
  simp only [ho, (fr.ev hx).1, Option.map_some, Option.map_none, (fr.ev hy).1, Instr.sliceAt]
  rw [Sem.run_bind, Sem.run_bind, run_underlying (hT.und ht), Result.andThen_ok]
  simp only [Instr.slice]
  rw [Sem.run_bind, run_underlying (hT.und ht), Result.andThen_ok]
  simp [Instr.sliceBounds, Instr.sliceBound, asIntOf, hb.1, hb.2, size_run hT hs]
  intro _
  cases A <;> simp [Addr.add]
theorem wl_take (hT : T.Ok P) {o : Oper} {rest : List Oper} {t : TypeId} {x y : Operand} {d : Nat} {A : Option Addr} {l : List Int} {n c e s : Nat} {ki : IntKind} {i : Int} (fr : FrD Df N a L) (hw : wantL ops L o = some true) (ho : o.op = .slice t x none (some y) none) (hd : o.dst = some d) (hlt : Nat.blt d N = true)
    (hx : ev L x = some (.slice A n c)) (hy : ev L y = some (.int ki i)) (ht : T.ty.lookup t = some (.slice e)) (hs : T.sz.lookup e = some s) (hn : n = l.length) (hb : 0 ≤ i ∧ i ≤ (l.length : Int))
    (h : ∀ a', FrD Df N a' ((d, .slice A (l.take i.toNat).length c) :: L) → wpList P ops Q rest a' w) : wpList P ops Q (o :: rest) a w := by
  subst hn
  have hv := (fr.ev hx).2
  have hv2 : l.length ≤ c ∧ c ≤ maxLen := by simpa [vok, vokC, vok1] using hv
  have hl : (l.take i.toNat).length = i.toNat := by rw [List.length_take]; omega
  exact wl_val fr hw hd hlt (take_run hT fr ho hx hy ht hs ⟨hb.1, by omega⟩ w) (vok_sl ⟨by omega, hv2.2⟩) fun a' fr' => h a' (by rw [hl]; exact fr')
theorem fill_int (k : IntKind) (n : Nat) (xs : List Int) (hn : xs.length = n) : ∀ (m : Nat), m ≤ n → Instr.fill (fun i => some (i * 1, 1)) ((xs.take m).map (Value.int k) ++ List.replicate (n - m) (Value.int k 0)).toArray (((xs.drop m).zipIdx m).map fun p => (p.2, Value.int k p.1)) = some (xs.map (Value.int k)).toArray := by
  intro m
  generalize hj : n - m = j
  induction j generalizing m with
  | zero =>
    intro hm
    have : m = n := by omega
    subst this
    rw [List.drop_eq_nil_of_le (by omega), List.take_of_length_le (by omega)]
    simp [Instr.fill]
  | succ j ih =>
    intro hm
    have hlt : m < xs.length := by omega
    have hml : ((xs.take m).map (Value.int k)).length = m := by simp; omega
    have hml2 : ((xs.take (m + 1)).map (Value.int k)).length = m + 1 := by simp; omega
    rw [List.drop_eq_getElem_cons hlt, List.zipIdx_cons, List.map_cons, OwnV.fill_step _ _ m m 1 _ _ (by simp) rfl (by simp; omega)]
    have := ih (m + 1) (by omega) (by omega)
    rw [← this]
    congr 2
    show splice _ m [Value.int k xs[m]] = _
    apply List.ext_getElem?
    intro q
    rw [OwnV.splice_get _ _ _ (by simp; omega), List.length_singleton]
    by_cases hq : m = q
    · subst hq
      rw [if_pos (by omega), List.getElem?_append_left (by omega), List.getElem?_map, List.getElem?_take_of_lt (by omega), List.getElem?_eq_getElem hlt, Nat.sub_self]; rfl
    · rw [if_neg (by omega)]
      by_cases hq2 : q < m
      · rw [List.getElem?_append_left (by omega), List.getElem?_append_left (by omega), List.getElem?_map, List.getElem?_map, List.getElem?_take_of_lt hq2, List.getElem?_take_of_lt (by omega)]
      · rw [List.getElem?_append_right (by omega), List.getElem?_append_right (by omega), hml, hml2, List.getElem?_replicate, List.getElem?_replicate]
        by_cases h3 : q - m < j + 1
        · rw [if_pos h3, if_pos (by omega)]
        · rw [if_neg h3, if_neg (by omega)]
theorem lit_run {t e : TypeId} (RT : RowTy P t e k) (n : Nat) (xs : List Int) (hn : xs.length = n) (h0 : 0 < n) (h1 : n ≤ 1000) (w : World) :
    (Instr.buildSlice t n ((xs.zipIdx 0).map fun p => (p.2, Value.int k p.1)).toArray).run P w = .ok (.slice (some ⟨w.heap.size, 0, none⟩) n n) (w.alloc (.cells (xs.map (Value.int k)).toArray e)) := by
  obtain ⟨bytes, hle, hinfo⟩ := RT.hi
  obtain ⟨ie, hie, hzz⟩ := Option.map_eq_some_iff.1 hinfo
  simp only [Prod.mk.injEq] at hzz
  obtain ⟨hz, hs, hb⟩ := hzz
  refine Go.run_buildSlice w t e n _ _ ie (.int k 0) RT.ht hie hz (by rw [hs]; omega) (by rw [hs]; omega) ?_
  rw [hs]
  have h := fill_int k n xs hn 0 (Nat.zero_le _)
  have e1 : (Array.range (n * 1)).map ((Value.int k 0).cells[· % (Value.int k 0).cells.size]!) = (List.replicate n (Value.int k 0)).toArray := by
    apply Array.ext
    · simp
    · intro i h1 h2
      simp [Value.cells, Nat.mod_one]
  rw [e1]
  simpa using h
def litOps (L : Env) (k : IntKind) : Nat → List (Nat × Operand) → List Int → Prop
  | _, [], [] => True
  | i, p :: r, x :: xs => p.1 = i ∧ ev L p.2 = some (.int k x) ∧ litOps L k (i + 1) r xs
  | _, _, _ => False
theorem litOps_eval (fr : FrD Df N a L) : ∀ {ps : List (Nat × Operand)} {xs : List Int} {i : Nat}, litOps L k i ps xs → ps.map (fun p => (p.1, a.eval p.2)) = (xs.zipIdx i).map (fun p => (p.2, Value.int k p.1)) ∧ ∀ z ∈ xs, (Lit.int k z).wf = true := by
  intro ps
  induction ps with
  | nil => intro xs i h; cases xs with
    | nil => exact ⟨rfl, fun z hz => by cases hz⟩
    | cons x xs => exact h.elim
  | cons p r ih =>
    intro xs i h
    cases xs with
    | nil => exact h.elim
    | cons x xs =>
      obtain ⟨h1, h2, h3⟩ := h
      obtain ⟨h4, h5⟩ := ih h3
      refine ⟨by rw [List.map_cons, List.zipIdx_cons, List.map_cons, h4, h1, (fr.ev h2).1], fun z hz => ?_⟩
      rcases List.mem_cons.1 hz with rfl | hz
      · exact (fr.ev h2).2
      · exact h5 z hz
theorem lit_exec {t e : TypeId} (RT : RowTy P t e k) (fr : FrD Df N a L) {o : Oper} {n : Nat} {ps : Array (Nat × Operand)} {xs : List Int} (ho : o.op = .buildSlice t n ps) (hp : litOps L k 0 ps.toList xs) (hn : xs.length = n) (h0 : (Nat.blt 0 n && Nat.ble n 1000) = true) (S : Sat w0 w R) :
    ∃ A c w', (execOp a.eval o).run P w = .ok (.value (.slice A xs.length c)) w' ∧ vok (.slice A xs.length c) = true ∧ Sat w0 w' (ownA k e A c xs :: R) := by
  obtain ⟨e1, e2⟩ := litOps_eval fr hp
  simp only [Bool.and_eq_true] at h0
  have h1 : 0 < n := blt_lt h0.1
  have h2 : n ≤ 1000 := Nat.le_of_ble_eq_true h0.2
  have hr := lit_run (P := P) RT n xs hn h1 h2 w
  have hml : n ≤ maxLen := Nat.le_trans h2 (by decide)
  refine ⟨some ⟨w.heap.size, 0, none⟩, n, w.alloc (.cells (xs.map (Value.int k)).toArray e), ?_, ?_, ?_⟩
  · unfold execOp
    simp only [ho]
    have e3 : (ps.map fun (i, x) => (i, a.eval x)) = ((xs.zipIdx 0).map fun p => (p.2, Value.int k p.1)).toArray := by
      apply Array.toList_inj.1
      rw [Array.toList_map]
      exact e1
    rw [Sem.run_bind, e3, hr, hn]; rfl
  · exact vok_sl ⟨by omega, hml⟩
  · have hm := OwnI.made (B := w.heap.size) w k xs e (xs.map (Value.int k)).toArray rfl (Nat.le_refl _) (by omega)
    rw [hn] at hm
    obtain ⟨A, c, ev', _, h3⟩ := S.row (l := xs) ((Below.refl _ _).alloc (Nat.le_refl _) _) hm e2
    injection ev' with e4 e5 e6
    subst e4 e6
    exact h3
theorem wl_lit (_hT : T.Ok P) {t e : TypeId} (RT : RowTy P t e k) {o : Oper} {rest : List Oper} {d n : Nat} {ps : Array (Nat × Operand)} {xs : List Int} (fr : FrD Df N a L) (hw : wantL ops L o = some true) (hd : o.dst = some d) (hlt : Nat.blt d N = true) (ho : o.op = .buildSlice t n ps) (hp : litOps L k 0 ps.toList xs) (hn : xs.length = n) (h0 : (Nat.blt 0 n && Nat.ble n 1000) = true) (S : Sat w0 w R)
    (h : ∀ w' A c, Sat w0 w' (ownA k e A c xs :: R) → ∀ a', FrD Df N a' ((d, .slice A xs.length c) :: L) → wpList P ops Q rest a' w') : wpList P ops Q (o :: rest) a w := by
  obtain ⟨A, c, w', h1, h2, h3⟩ := lit_exec (P := P) RT fr ho hp hn h0 S
  exact wl_val fr hw hd hlt h1 h2 (h w' A c h3)
theorem sl_lit (_hT : T.Ok P) {t e : TypeId} (RT : RowTy P t e k) {s : SOp} {rest : List Itm} {d n : Nat} {ps : Array (Nat × Operand)} {xs : List Int} (fr : FrD Df N a L) (hw : wantS L s = some true) (hq : s.q = false) (hd : s.dst = some d) (hlt : Nat.blt d N = true) (ho : s.op = .buildSlice t n ps) (hp : litOps L k 0 ps.toList xs) (hn : xs.length = n) (h0 : (Nat.blt 0 n && Nat.ble n 1000) = true) (S : Sat w0 w R)
    (h : ∀ w' A c, Sat w0 w' (ownA k e A c xs :: R) → S' w' ∧ ∀ a', FrD Df N a' ((d, .slice A xs.length c) :: L) → SL P Q S' rest a' w') : SL P Q S' (.one s :: rest) a w := by
  obtain ⟨A, c, w', h1, h2, h3⟩ := lit_exec (P := P) RT fr (o := s.oper) ho hp hn h0 S
  exact sl_val fr hw hq hd hlt h1 (h w' A c h3).1 h2 (h w' A c h3).2
theorem make_exec {t e : TypeId} (RT : RowTy P t e k) (fr : FrD Df N a L) {o : Oper} {x y : Operand} {k1 k2 : IntKind} {n : Int} (ho : o.op = .makeSlice t x y) (hx : ev L x = some (.int k1 n)) (hy : ev L y = some (.int k2 n)) (hb : 0 ≤ n ∧ n ≤ 1000000000) (S : Sat w0 w R) :
    ∃ A c w', (execOp a.eval o).run P w = .ok (.value (.slice A (List.replicate n.toNat (0 : Int)).length c)) w' ∧ vok (.slice A (List.replicate n.toNat (0 : Int)).length c) = true ∧ Sat w0 w' (ownA k e A c (List.replicate n.toNat 0) :: R) := by
  obtain ⟨m, rfl⟩ : ∃ m : Nat, n = m := ⟨n.toNat, by omega⟩
  obtain ⟨bytes, hle, hinfo⟩ := RT.hi
  have hmul : bytes * m ≤ 8 * m := Nat.mul_le_mul_right _ hle
  have hr := mk_run (P := P) t e (.int k 0) bytes RT.ht hinfo rfl k1 k2 m (by omega) (by omega) w
  have hml : m ≤ maxLen := Nat.le_trans (show m ≤ 1000000000 by omega) (by decide)
  rw [Int.toNat_natCast, List.length_replicate]
  refine ⟨some ⟨w.heap.size, 0, none⟩, m, w.alloc (.cells (Array.replicate m (.int k 0)) e), ?_, vok_sl ⟨Nat.le_refl _, hml⟩, ?_⟩
  · unfold execOp
    simp only [ho, (fr.ev hx).1, (fr.ev hy).1]
    rw [Sem.run_bind, hr]; rfl
  · have hm := OwnI.made (B := w.heap.size) w k (List.replicate m 0) e (Array.replicate m (.int k 0)) (by simp) (Nat.le_refl _) (by rw [List.length_replicate]; exact hml)
    rw [List.length_replicate] at hm
    obtain ⟨A, c, ev', _, h3⟩ := S.row (l := List.replicate m 0) ((Below.refl _ _).alloc (Nat.le_refl _) _) hm (fun z hz => by
      rw [List.eq_of_mem_replicate hz]; cases k <;> decide)
    injection ev' with e4 e5 e6
    subst e4 e6
    exact h3
theorem wl_make {t e : TypeId} (RT : RowTy P t e k) {o : Oper} {rest : List Oper} {d : Nat} {x y : Operand} {k1 k2 : IntKind} {n : Int} (fr : FrD Df N a L) (hw : wantL ops L o = some true) (hd : o.dst = some d) (hlt : Nat.blt d N = true) (ho : o.op = .makeSlice t x y) (hx : ev L x = some (.int k1 n)) (hy : ev L y = some (.int k2 n)) (hb : 0 ≤ n ∧ n ≤ 1000000000) (S : Sat w0 w R)
    (h : ∀ w' A c, Sat w0 w' (ownA k e A c (List.replicate n.toNat 0) :: R) → ∀ a', FrD Df N a' ((d, .slice A (List.replicate n.toNat (0 : Int)).length c) :: L) → wpList P ops Q rest a' w') : wpList P ops Q (o :: rest) a w := by
  obtain ⟨A, c, w', h1, h2, h3⟩ := make_exec (P := P) RT fr ho hx hy hb S
  exact wl_val fr hw hd hlt h1 h2 (h w' A c h3)
theorem sl_make {t e : TypeId} (RT : RowTy P t e k) {s : SOp} {rest : List Itm} {d : Nat} {x y : Operand} {k1 k2 : IntKind} {n : Int} (fr : FrD Df N a L) (hw : wantS L s = some true) (hq : s.q = false) (hd : s.dst = some d) (hlt : Nat.blt d N = true) (ho : s.op = .makeSlice t x y) (hx : ev L x = some (.int k1 n)) (hy : ev L y = some (.int k2 n)) (hb : 0 ≤ n ∧ n ≤ 1000000000) (S : Sat w0 w R)
    (h : ∀ w' A c, Sat w0 w' (ownA k e A c (List.replicate n.toNat 0) :: R) → S' w' ∧ ∀ a', FrD Df N a' ((d, .slice A (List.replicate n.toNat (0 : Int)).length c) :: L) → SL P Q S' rest a' w') : SL P Q S' (.one s :: rest) a w := by
  obtain ⟨A, c, w', h1, h2, h3⟩ := make_exec (P := P) RT fr (o := s.oper) ho hx hy hb S
  exact sl_val fr hw hq hd hlt h1 (h w' A c h3).1 h2 (h w' A c h3).2
theorem app_exec {t e : TypeId} (RT : RowTy P t e k) (fr : FrD Df N a L) {o : Oper} {x y : Operand} {A Y : Option Addr} {n m c cy : Nat} {l news : List Int} (ho : o.op = .call { callee := .builtin .append, args := #[x, y], argTypes := #[t, t] }) (hx : ev L x = some (.slice A n c)) (hn : n = l.length) (hy : ev L y = some (.slice Y m cy)) (hm : m = news.length)
    (hr : Rk k w Y news) (hb : (l.length : Int) + (news.length : Int) ≤ 17592186044416) (S : Sat w0 w (ownA k e A c l :: R)) :
    ∃ A' c' w', (execOp a.eval o).run P w = .ok (.value (.slice A' (l ++ news).length c')) w' ∧ vok (.slice A' (l ++ news).length c') = true ∧ Sat w0 w' (ownA k e A' c' (l ++ news) :: R) := by
  subst hn hm
  obtain ⟨F, ⟨h1, h2, h3⟩, hF, hk⟩ := S.opened
  obtain ⟨bytes, hle, hinfo⟩ := RT.hi
  have hmul : (l.length + news.length) * bytes ≤ (l.length + news.length) * 8 := Nat.mul_le_mul_left _ hle
  obtain ⟨v', w', hrun, h4, h5, h6⟩ := ap_run (P := P) t o.type (.int k 0) bytes RT.ht hinfo rfl h1 Y news.length cy news rfl hr.rd (fun e => by rw [hr.rd.empty e]; rfl) (by unfold maxLen; omega) (by omega) S.below.size
  obtain ⟨A', c', rfl, h7, h8, _, _⟩ := h4.slice
  refine ⟨A', c', w', ?_, vok_sl ⟨h7, h8⟩, ?_⟩
  · unfold execOp
    simp only [ho, resolve]
    rw [Sem.run_bind, Sem.run_pure, Result.andThen_ok]
    simp only [invoke, builtin, List.map_toArray, List.map_cons, List.map_nil, (fr.ev hx).1, (fr.ev hy).1]
    rw [Sem.run_bind, hrun]; rfl
  · refine hk (A' := ownA k e A' c' (l ++ news)) (F' := fun g => (Value.slice A' (l ++ news).length c').ownBlock = some g) ⟨h4, fun z hz => ?_, fun g => Iff.rfl⟩ (Chg.of_grown h5) (fun g _ hg => (h3 g).2 hg.symm) fun g hg => ?_
    · rcases List.mem_append.1 hz with hz | hz
      · exact h2 z hz
      · exact hr.wf z hz
    · rcases h6 with h | h
      · rw [h] at hg; exact .inl ((h3 g).2 hg)
      · rw [h] at hg; injection hg with hg; subst hg; exact .inr (Nat.le_refl _)
theorem wl_app {t e : TypeId} (RT : RowTy P t e k) {o : Oper} {rest : List Oper} {d : Nat} {x y : Operand} {A Y : Option Addr} {n m c cy : Nat} {l news : List Int} (fr : FrD Df N a L) (hw : wantL ops L o = some true) (hd : o.dst = some d) (hlt : Nat.blt d N = true) (ho : o.op = .call { callee := .builtin .append, args := #[x, y], argTypes := #[t, t] }) (hx : ev L x = some (.slice A n c)) (hn : n = l.length) (hy : ev L y = some (.slice Y m cy)) (hm : m = news.length)
    (hr : Rk k w Y news) (hb : (l.length : Int) + (news.length : Int) ≤ 17592186044416) (S : Sat w0 w (ownA k e A c l :: R))
    (h : ∀ w' A' c', Sat w0 w' (ownA k e A' c' (l ++ news) :: R) → ∀ a', FrD Df N a' ((d, .slice A' (l ++ news).length c') :: L) → wpList P ops Q rest a' w') : wpList P ops Q (o :: rest) a w := by
  obtain ⟨A', c', w', h1, h2, h3⟩ := app_exec (P := P) RT fr ho hx hn hy hm hr hb S
  exact wl_val fr hw hd hlt h1 h2 (h w' A' c' h3)
theorem sl_app {t e : TypeId} (RT : RowTy P t e k) {s : SOp} {rest : List Itm} {d : Nat} {x y : Operand} {A Y : Option Addr} {n m c cy : Nat} {l news : List Int} (fr : FrD Df N a L) (hw : wantS L s = some true) (hq : s.q = false) (hd : s.dst = some d) (hlt : Nat.blt d N = true) (ho : s.op = .call { callee := .builtin .append, args := #[x, y], argTypes := #[t, t] }) (hx : ev L x = some (.slice A n c)) (hn : n = l.length) (hy : ev L y = some (.slice Y m cy)) (hm : m = news.length)
    (hr : Rk k w Y news) (hb : (l.length : Int) + (news.length : Int) ≤ 17592186044416) (S : Sat w0 w (ownA k e A c l :: R))
    (h : ∀ w' A' c', Sat w0 w' (ownA k e A' c' (l ++ news) :: R) → S' w' ∧ ∀ a', FrD Df N a' ((d, .slice A' (l ++ news).length c') :: L) → SL P Q S' rest a' w') : SL P Q S' (.one s :: rest) a w := by
  obtain ⟨A', c', w', h1, h2, h3⟩ := app_exec (P := P) RT fr (o := s.oper) ho hx hn hy hm hr hb S
  exact sl_val fr hw hq hd hlt h1 (h w' A' c' h3).1 h2 (h w' A' c' h3).2
end
end Go.Proofs.YticnjkdaccacaaaGreatDoor.Sx
end
section
namespace Go.Proofs.YticnjkdaccacaaaGreatDoor.Sx
open Go Go.RowKit Base _root_.Go.Proofs.YticnjkdaccacaaaGreatDoor.Own
section
variable {α : Type} {P : Program} {T : Orc} {ops : Array Oper} {Q : Exit → Act → World → Prop} {S' : World → Prop} {Df : List Deferred} {N : Nat} {a : Act} {w w0 : World} {L : Env} {R : List Asn} {f : α → Value}
theorem wl_box {o : Oper} {rest : List Oper} {t : TypeId} {x : Operand} {d n : Nat} {l : List α} (fr : FrD Df N a L) (hw : wantL ops L o = some true) (hd : o.dst = some d) (hlt : Nat.blt d N = true) (ho : o.op = .box t x) (hx : ev L x = some (.agg (l.map f).toArray)) (hn : l.length = n) (hf : ∀ z, vok (f z) = vok1 (f z)) (S : Sat w0 w R)
    (h : ∀ w' b, Sat w0 w' (arrA f t n b l :: R) → ∀ a', FrD Df N a' ((d, .pointer (some ⟨b, 0, none⟩)) :: L) → wpList P ops Q rest a' w') : wpList P ops Q (o :: rest) a w := by
  have hv := (fr.ev hx).2
  refine wl_val (v := .pointer (some ⟨w.heap.size, 0, none⟩)) (w' := w.alloc (.cells (l.map f).toArray t)) fr hw hd hlt ?_ rfl (h _ _ ?_)
  · unfold execOp
    simp only [ho, (fr.ev hx).1]
    rfl
  · refine S.add (F := fun g => g = w.heap.size) ((Below.refl _ _).alloc (Nat.le_refl _) _) ⟨heap_alloc_new _ _, hn, fun z hz => ?_, S.below.size, fun g => Iff.rfl⟩ fun g hg => Nat.le_of_eq hg.symm
    rw [hf]
    exact (List.all_eq_true.1 (show (l.map f).all vok1 = true from hv)) _ (List.mem_map_of_mem hz)
theorem wl_alloc {o : Oper} {rest : List Oper} {t : TypeId} {d n : Nat} {l : List α} (fr : FrD Df N a L) (hw : wantL ops L o = some true) (hd : o.dst = some d) (hlt : Nat.blt d N = true) (ho : o.op = .alloc t) (hz : ∀ W, (zeroValue t).run P W = .ok (.agg (l.map f).toArray) W) (hn : l.length = n) (hok : l.all (fun z => vok (f z)) = true) (S : Sat w0 w R)
    (h : ∀ w' b, Sat w0 w' (arrA f t n b l :: R) → ∀ a', FrD Df N a' ((d, .pointer (some ⟨b, 0, none⟩)) :: L) → wpList P ops Q rest a' w') : wpList P ops Q (o :: rest) a w := by
  refine wl_val (v := .pointer (some ⟨w.heap.size, 0, none⟩)) (w' := w.alloc (.cells (l.map f).toArray t)) fr hw hd hlt ?_ rfl (h _ _ ?_)
  · unfold execOp
    simp only [ho, Instr.alloc]
    rw [Sem.run_bind, Sem.run_bind, hz, Result.andThen_ok]
    rfl
  · exact S.add (F := fun g => g = w.heap.size) ((Below.refl _ _).alloc (Nat.le_refl _) _) ⟨heap_alloc_new _ _, hn, fun z hz => (List.all_eq_true.1 hok) z hz, S.below.size, fun g => Iff.rfl⟩ fun g hg => Nat.le_of_eq hg.symm
theorem indexArr_run (hT : T.Ok P) (fr : FrD Df N a L) {o : Oper} {t : TypeId} {x ix : Operand} (ho : o.op = .indexAddr t x ix) {A : Addr} {n e s : Nat} {ki : IntKind} {i : Int} (hx : ev L x = some (.pointer (some A))) (hi : ev L ix = some (.int ki i))
    (ht : T.ty.lookup t = some (.array n e)) (hs : T.sz.lookup e = some s) (h0 : 0 ≤ i) (hlt : i < n) (w : World) : (execOp a.eval o).run P w = .ok (.value (.pointer (some (A.add (i.toNat * s))))) w := by
  unfold execOp
  simp only [ho, (fr.ev hx).1, (fr.ev hi).1, Instr.indexAt, asIntOf]
  simp [run_underlying (hT.und ht), size_run hT hs, h0, hlt, Instr.sureAddr]
theorem cell_arr {e b : Nat} {l : List α} (h : w.heap[b]? = some (.cells (l.map f).toArray e (0, 0))) {i : Nat} (hi : i < l.length) (dd : α) : w.cell? ((⟨b, 0, none⟩ : Addr).add (i * 1)) = some (f (l.getD i dd)) := by
  have e1 : (⟨b, 0, none⟩ : Addr).add (i * 1) = ⟨b, i, none⟩ := by unfold Addr.add; split <;> simp_all
  rw [e1, cell_of_row _ _ _ _ _ _ h]
  simp [List.getElem?_eq_getElem hi, List.getD_eq_getElem?_getD]
theorem wl_pa (hT : T.Ok P) {o : Oper} {rest : List Oper} {t : TypeId} {x ix : Operand} {d b n e : Nat} {ki : IntKind} {i : Int} (fr : FrD Df N a L) (hw : wantL ops L o = some true) (ho : o.op = .indexAddr t x ix) (hd : o.dst = some d) (hlt : Nat.blt d N = true) (hx : ev L x = some (.pointer (some ⟨b, 0, none⟩))) (hi : ev L ix = some (.int ki i))
    (ht : T.ty.lookup t = some (.array n e)) (hs : T.sz.lookup e = some 1) (hb : 0 ≤ i ∧ i < (n : Int)) (h : ∀ a', FrD Df N a' ((d, .pointer (some ((⟨b, 0, none⟩ : Addr).add (i.toNat * 1)))) :: L) → wpList P ops Q rest a' w) : wpList P ops Q (o :: rest) a w :=
  wl_val fr hw hd hlt (indexArr_run hT fr ho hx hi ht hs hb.1 hb.2 w) rfl h
theorem wl_lda (hT : T.Ok P) (dd : α) {o1 o2 : Oper} {rest : List Oper} {t te : TypeId} {x ix : Operand} {d1 d2 b n n' e e' : Nat} {l : List α} {ki : IntKind} {i : Int} {de : TypeDesc}
    (hr : w.heap[b]? = some (.cells (l.map f).toArray e (0, 0)) ∧ l.length = n ∧ ∀ z ∈ l, vok (f z) = true) (fr : FrD Df N a L) (hw : wantL ops L o1 = some true) (ho1 : o1.op = .indexAddr t x ix) (hd1 : o1.dst = some d1) (hw2 : wantL ops L o2 = some true) (ho2 : o2.op = .load te (.tmp d1)) (hd2 : o2.dst = some d2) (hl1 : Nat.blt d1 N = true) (hl2 : Nat.blt d2 N = true)
    (hx : ev L x = some (.pointer (some ⟨b, 0, none⟩))) (hi : ev L ix = some (.int ki i)) (ht : T.ty.lookup t = some (.array n' e')) (hn : n = n') (hs : T.sz.lookup e' = some 1) (hte : T.ty.lookup te = some de) (hde : aggD de = false) (hf : L.lookup d1 = none) (hb : 0 ≤ i ∧ i < (l.length : Int))
    (h : ∀ a', FrD Df N a' ((d2, f (l.getD i.toNat dd)) :: L) → wpList P ops Q rest a' w) : wpList P ops Q (o1 :: o2 :: rest) a w := by
  subst hn
  obtain ⟨h1, h2, h3⟩ := hr
  obtain ⟨j, rfl⟩ : ∃ j : Nat, i = j := ⟨i.toNat, by omega⟩
  have hj : j < l.length := by omega
  refine wl_val fr hw hd1 hl1 (indexArr_run hT fr ho1 hx hi ht hs (by omega) (by omega) w) rfl fun a1 fr1 => ?_
  have hw3 : wantL ops ((d1, .pointer (some ((⟨b, 0, none⟩ : Addr).add ((j : Int).toNat * 1)))) :: L) o2 = some true := by
    have hk := hw2
    unfold wantL at hk ⊢
    split at hk
    · exact hk
    · rename_i j' want hg'
      split at hk
      · rename_i t' ht'
        split at hk
        · rename_i b hb'
          have hne : t' ≠ d1 := fun e => by subst e; rw [hf] at hb'; cases hb'
          rw [lookup_cons, if_neg hne, hb']; exact hk
        · cases hk
        · cases hk
      · cases hk
  have hm : l.getD j dd ∈ l := by rw [List.getD_eq_getElem?_getD, List.getElem?_eq_getElem hj]; exact List.getElem_mem hj
  refine wl_val (v := f (l.getD j dd)) fr1 hw3 hd2 hl2 (load_run hT fr1 ho2 (by show ((d1, _) :: L).lookup d1 = _; rw [lookup_cons, if_pos rfl]) hte hde (by rw [Int.toNat_natCast]; exact cell_arr h1 hj dd)) (h3 _ hm) fun a2 fr2 => h a2 ?_
  refine ⟨fr2.size, fr2.defers, fun e u he => fr2.get e u ?_⟩
  rw [lookup_cons] at he ⊢
  by_cases h1 : e = d2
  · rw [if_pos h1] at he ⊢; rw [Int.toNat_natCast] at he; exact he
  · rw [if_neg h1] at he ⊢
    rw [lookup_cons]
    by_cases h2 : e = d1
    · subst h2; rw [hf] at he; cases he
    · rw [if_neg h2]; exact he
theorem sl_lda (hT : T.Ok P) (dd : α) {s1 s2 : SOp} {rest : List Itm} {t te : TypeId} {x ix : Operand} {d1 d2 b n n' e e' : Nat} {l : List α} {ki : IntKind} {i : Int} {de : TypeDesc}
    (hr : ∀ w, S' w → w.heap[b]? = some (.cells (l.map f).toArray e (0, 0)) ∧ l.length = n ∧ ∀ z ∈ l, vok (f z) = true) (fr : FrD Df N a L) (hw : wantS L s1 = some true) (hq : s1.q = true) (ho1 : s1.op = .indexAddr t x ix) (hd1 : s1.dst = some d1) (hw2 : wantS L s2 = some true) (hq2 : s2.q = true) (ho2 : s2.op = .load te (.tmp d1)) (hd2 : s2.dst = some d2) (hl1 : Nat.blt d1 N = true) (hl2 : Nat.blt d2 N = true)
    (hx : ev L x = some (.pointer (some ⟨b, 0, none⟩))) (hi : ev L ix = some (.int ki i)) (ht : T.ty.lookup t = some (.array n' e')) (hn : n = n') (hs : T.sz.lookup e' = some 1) (hte : T.ty.lookup te = some de) (hde : aggD de = false) (hf : L.lookup d1 = none) (hb : 0 ≤ i ∧ i < (l.length : Int)) (hS : S' w)
    (h : ∀ a', FrD Df N a' ((d2, f (l.getD i.toNat dd)) :: L) → SL P Q S' rest a' w) : SL P Q S' (.one s1 :: .one s2 :: rest) a w := by
  subst hn
  obtain ⟨h1, h2, h3⟩ := hr w hS
  obtain ⟨j, rfl⟩ : ∃ j : Nat, i = j := ⟨i.toNat, by omega⟩
  have hj : j < l.length := by omega
  refine sl_q fr hw hq hd1 hl1 (fun w' _ => indexArr_run hT fr (o := s1.oper) ho1 hx hi ht hs (by omega) (by omega) w') rfl fun a1 fr1 => ?_
  have hw3 : wantS ((d1, .pointer (some ((⟨b, 0, none⟩ : Addr).add ((j : Int).toNat * 1)))) :: L) s2 = some true := by
    have hk := hw2
    unfold wantS at hk ⊢
    split at hk
    · rename_i hg'; rw [hg'] at *
    · rename_i t' want hg'
      split at hk
      · rename_i b hb'
        have hne : t' ≠ d1 := fun e => by subst e; rw [hf] at hb'; cases hb'
        rw [lookup_cons, if_neg hne, hb']; exact hk
      · cases hk
      · cases hk
  have hm : l.getD j dd ∈ l := by rw [List.getD_eq_getElem?_getD, List.getElem?_eq_getElem hj]; exact List.getElem_mem hj
  refine sl_q (v := f (l.getD j dd)) fr1 hw3 hq2 hd2 hl2 (fun w' hS' => load_run hT fr1 (o := s2.oper) ho2 (by show ((d1, _) :: L).lookup d1 = _; rw [lookup_cons, if_pos rfl]) hte hde (by rw [Int.toNat_natCast]; exact cell_arr (hr w' hS').1 hj dd)) (h3 _ hm) fun a2 fr2 => h a2 ?_
  refine ⟨fr2.size, fr2.defers, fun e u he => fr2.get e u ?_⟩
  rw [lookup_cons] at he ⊢
  by_cases h1 : e = d2
  · rw [if_pos h1] at he ⊢; rw [Int.toNat_natCast] at he; exact he
  · rw [if_neg h1] at he ⊢
    rw [lookup_cons]
    by_cases h2 : e = d1
    · subst h2; rw [hf] at he; cases he
    · rw [if_neg h2]; exact he
theorem wl_sta (hT : T.Ok P) (z : α) {o : Oper} {rest : List Oper} {te : TypeId} {p v : Operand} {b n e : Nat} {l : List α} {i : Int} (fr : FrD Df N a L) (hw : wantL ops L o = some true) (hd : o.dst = none) (ho : o.op = .store te p v) (hp : ev L p = some (.pointer (some ((⟨b, 0, none⟩ : Addr).add (i.toNat * 1))))) (hv : ev L v = some (f z)) (hs : T.sz.lookup te = some 1)
    (hc : (f z).cells = #[f z]) (h1 : (f z).oneCell' = true) (S : Sat w0 w (arrA f e n b l :: R)) (hb : 0 ≤ i ∧ i < (n : Int)) (h : ∀ w', Sat w0 w' (arrA f e n b (l.set i.toNat z) :: R) → wpList P ops Q rest a w') : wpList P ops Q (o :: rest) a w := by
  obtain ⟨j, rfl⟩ : ∃ j : Nat, i = j := ⟨i.toNat, by omega⟩
  rw [Int.toNat_natCast] at h hp
  obtain ⟨F, ⟨g1, g2, g3, g4, g5⟩, hF, hk⟩ := S.opened
  have hj : j < l.length := by omega
  have e1 : (⟨b, 0, none⟩ : Addr).add (j * 1) = ⟨b, j, none⟩ := by unfold Addr.add; split <;> simp_all
  have hcell : w.cell? ⟨b, j, none⟩ = some (f l[j]) := by
    rw [cell_of_row _ _ _ _ _ _ g1]; simp [List.getElem?_eq_getElem hj]
  have hfz := frozen_of_row w b j _ _ g1
  have hrun : (storeCells (⟨b, j, none⟩ : Addr) [f z]).run P w = .ok () (w.setCell ⟨b, j, none⟩ (f z)) := by
    have h2 := run_storeCells_cells (P := P) b j [f z] 0 w (fun q hq => by
      have hq : q = 0 := by simpa using hq
      subst hq; simpa using by rw [hcell]; rfl) (fun q hq => by
      have hq : q = 0 := by simpa using hq
      subst hq; simpa using hfz) (fun u hu => by
      have hu : u = f z := by simpa using hu
      subst hu; exact h1)
    have h3 : (storeCells (⟨b, j, none⟩ : Addr) [f z]).run P w = .ok () (w.setCells b j [f z]) := by simpa using h2
    exact h3
  refine wl_skip (w' := w.setCell ⟨b, j, none⟩ (f z)) fr hw hd ?_ (h _ ?_)
  · unfold execOp
    simp only [ho, (fr.ev hp).1, (fr.ev hv).1, Instr.storeAt, Instr.sureAddr, storeVar, hc, e1]
    simp [size_run hT hs, hrun]
  · refine hk (A' := arrA f e n b (l.set j z)) (F' := F) (G := fun g => g = b) ⟨?_, by rw [List.length_set]; exact g2, fun u hu => ?_, g4, g5⟩ (Chg.setCell w ⟨b, j, none⟩ (f z)) (fun g _ hg => (g5 g).2 hg) fun g hg => .inl hg
    · have h3 := heap_setCell_same w b j _ e (f z) g1
      rw [h3]
      congr 2
      rw [List.map_set]
      simp
    · rcases List.mem_or_eq_of_mem_set hu with hu | hu
      · exact g3 u hu
      · subst hu; exact (fr.ev hv).2
theorem ix_run (hT : T.Ok P) (dd : α) (fr : FrD Df N a L) {o : Oper} {t : TypeId} {x ix : Operand} {n e : Nat} {l : List α} {ki : IntKind} {i : Int} {de : TypeDesc} (ho : o.op = .index t x ix) (hx : ev L x = some (.agg (l.map f).toArray)) (hi : ev L ix = some (.int ki i)) (hn : l.length = n) (ht : T.ty.lookup t = some (.array n e)) (hs : T.sz.lookup e = some 1) (hte : T.ty.lookup e = some de) (hde : aggD de = false)
    (hb : 0 ≤ i ∧ i < (l.length : Int)) (w : World) : (execOp a.eval o).run P w = .ok (.value (f (l.getD i.toNat dd))) w := by
  obtain ⟨j, rfl⟩ : ∃ j : Nat, i = j := ⟨i.toNat, by omega⟩
  have hj : j < l.length := by omega
  unfold execOp
  simp only [ho, (fr.ev hx).1, (fr.ev hi).1, Instr.index, asIntOf]
  have h1 : (0 : Int) ≤ j ∧ (j : Int) < n := by omega
  rw [Sem.run_bind, Sem.run_bind, Sem.run_pure, Result.andThen_ok]
  simp only
  rw [Sem.run_bind, run_underlying (hT.und ht), Result.andThen_ok]
  simp only
  rw [if_pos h1, Sem.run_bind, size_run hT hs, Result.andThen_ok]
  unfold part
  rw [Sem.run_bind, isAgg_run (hT.und hte), Result.andThen_ok, hde, if_neg (by decide)]
  simp [List.getElem?_eq_getElem hj, List.getD_eq_getElem?_getD]
theorem wl_ix (hT : T.Ok P) (dd : α) {o : Oper} {rest : List Oper} {t : TypeId} {x ix : Operand} {d n e : Nat} {l : List α} {ki : IntKind} {i : Int} {de : TypeDesc} (hf : ∀ z, vok (f z) = vok1 (f z)) (fr : FrD Df N a L) (hw : wantL ops L o = some true) (hd : o.dst = some d) (hlt : Nat.blt d N = true) (ho : o.op = .index t x ix) (hx : ev L x = some (.agg (l.map f).toArray)) (hi : ev L ix = some (.int ki i)) (hn : l.length = n) (ht : T.ty.lookup t = some (.array n e)) (hs : T.sz.lookup e = some 1) (hte : T.ty.lookup e = some de) (hde : aggD de = false)
    (hb : 0 ≤ i ∧ i < (l.length : Int)) (h : ∀ a', FrD Df N a' ((d, f (l.getD i.toNat dd)) :: L) → wpList P ops Q rest a' w) : wpList P ops Q (o :: rest) a w := by
  refine wl_val fr hw hd hlt (ix_run hT dd fr ho hx hi hn ht hs hte hde hb w) ?_ h
  rw [hf]
  have hj : i.toNat < l.length := by omega
  have hm : l.getD i.toNat dd ∈ l := by rw [List.getD_eq_getElem?_getD, List.getElem?_eq_getElem hj]; exact List.getElem_mem hj
  exact (List.all_eq_true.1 (show (l.map f).all vok1 = true from (fr.ev hx).2)) _ (List.mem_map_of_mem hm)
theorem sl_ix (hT : T.Ok P) (dd : α) {s : SOp} {rest : List Itm} {t : TypeId} {x ix : Operand} {d n e : Nat} {l : List α} {ki : IntKind} {i : Int} {de : TypeDesc} (hf : ∀ z, vok (f z) = vok1 (f z)) (fr : FrD Df N a L) (hw : wantS L s = some true) (hq : s.q = true) (hd : s.dst = some d) (hlt : Nat.blt d N = true) (ho : s.op = .index t x ix) (hx : ev L x = some (.agg (l.map f).toArray)) (hi : ev L ix = some (.int ki i)) (hn : l.length = n) (ht : T.ty.lookup t = some (.array n e)) (hs : T.sz.lookup e = some 1) (hte : T.ty.lookup e = some de) (hde : aggD de = false)
    (hb : 0 ≤ i ∧ i < (l.length : Int)) (h : ∀ a', FrD Df N a' ((d, f (l.getD i.toNat dd)) :: L) → SL P Q S' rest a' w) : SL P Q S' (.one s :: rest) a w := by
  refine sl_q fr hw hq hd hlt (fun w' _ => ix_run hT dd fr (o := s.oper) ho hx hi hn ht hs hte hde hb w') ?_ h
  rw [hf]
  have hj : i.toNat < l.length := by omega
  have hm : l.getD i.toNat dd ∈ l := by rw [List.getD_eq_getElem?_getD, List.getElem?_eq_getElem hj]; exact List.getElem_mem hj
  exact (List.all_eq_true.1 (show (l.map f).all vok1 = true from (fr.ev hx).2)) _ (List.mem_map_of_mem hm)
end
end Go.Proofs.YticnjkdaccacaaaGreatDoor.Sx
end
section
namespace Go.Proofs.YticnjkdaccacaaaGreatDoor.Sx
open Go Go.RowKit Base _root_.Go.Proofs.YticnjkdaccacaaaGreatDoor.Own
def upM {α : Type} : List (Int × α) → Int → α → List (Int × α)
  | [], x, v => [(x, v)]
  | p :: r, x, v => if p.1 = x then (p.1, v) :: r else p :: upM r x v
def delM {α : Type} : List (Int × α) → Int → List (Int × α)
  | [], _ => []
  | p :: r, x => if p.1 = x then r else p :: delM r x
def lkM {α : Type} (m : List (Int × α)) (x : Int) : Option α := m.lookup x
section
variable {α : Type}
theorem lkM_cons (m : List (Int × α)) (p : Int × α) (x : Int) : lkM (p :: m) x = if p.1 = x then some p.2 else lkM m x := by
  obtain ⟨a, b⟩ := p
  unfold lkM
  rw [List.lookup_cons]
  by_cases h : a = x
  · subst h; simp
  · have : (x == a) = false := by simpa using fun e => h e.symm
    simp [this, h]
theorem lk_up (m : List (Int × α)) (x y : Int) (v : α) : lkM (upM m x v) y = if x = y then some v else lkM m y := by
  induction m with
  | nil => unfold upM; rw [lkM_cons]
  | cons p r ih =>
    unfold upM
    by_cases h : p.1 = x
    · rw [if_pos h, lkM_cons, lkM_cons, h]
      by_cases hxy : x = y
      · rw [if_pos hxy, if_pos hxy]
      · rw [if_neg hxy, if_neg hxy, if_neg hxy]
    · rw [if_neg h, lkM_cons, lkM_cons, ih]
      by_cases hp : p.1 = y
      · rw [if_pos hp, if_pos hp, if_neg (fun e => h (by rw [hp, e]))]
      · rw [if_neg hp, if_neg hp]
def keysM (m : List (Int × α)) : List Int := m.map (·.1)
theorem lk_some {m : List (Int × α)} {x : Int} {v : α} (h : lkM m x = some v) : (x, v) ∈ m := by
  induction m with
  | nil => cases h
  | cons p r ih =>
    rw [lkM_cons] at h
    by_cases hp : p.1 = x
    · rw [if_pos hp] at h; injection h with h; subst h; subst hp; exact List.mem_cons_self
    · rw [if_neg hp] at h; exact List.mem_cons_of_mem _ (ih h)
theorem lk_none {m : List (Int × α)} {x : Int} : lkM m x = none ↔ x ∉ keysM m := by
  induction m with
  | nil => simp [lkM, keysM]
  | cons p r ih =>
    rw [lkM_cons]
    by_cases hp : p.1 = x
    · rw [if_pos hp]; simp [keysM, hp]
    · rw [if_neg hp, ih]; simp [keysM, Ne.symm hp]
theorem keys_up (m : List (Int × α)) (x : Int) (v : α) : keysM (upM m x v) = if x ∈ keysM m then keysM m else keysM m ++ [x] := by
  induction m with
  | nil => rfl
  | cons p r ih =>
    unfold upM
    by_cases h : p.1 = x
    · rw [if_pos h, if_pos (by simp [keysM, h])]; rfl
    · rw [if_neg h]
      show p.1 :: keysM (upM r x v) = _
      rw [ih]
      by_cases hm : x ∈ keysM r
      · rw [if_pos hm, if_pos (by simp only [keysM, List.map_cons, List.mem_cons]; exact .inr hm)]; rfl
      · rw [if_neg hm, if_neg (by simp only [keysM, List.map_cons, List.mem_cons, not_or]; exact ⟨fun e => h e.symm, hm⟩)]; rfl
theorem nodup_up {m : List (Int × α)} (h : (keysM m).Nodup) (x : Int) (v : α) : (keysM (upM m x v)).Nodup := by
  rw [keys_up]
  split
  · exact h
  · rename_i hx
    rw [List.nodup_append]
    exact ⟨h, by simp, fun a ha b hb e => by rw [List.mem_singleton] at hb; subst hb; subst e; exact hx ha⟩
theorem mem_up {m : List (Int × α)} {x : Int} {v : α} {p : Int × α} (h : p ∈ upM m x v) : p ∈ m ∨ p = (x, v) := by
  induction m with
  | nil => simp [upM] at h; exact .inr h
  | cons q r ih =>
    unfold upM at h
    split at h
    · rename_i hq
      rcases List.mem_cons.1 h with h | h
      · exact .inr (by rw [h, hq])
      · exact .inl (List.mem_cons_of_mem _ h)
    · rcases List.mem_cons.1 h with h | h
      · exact .inl (by rw [h]; exact List.mem_cons_self)
      · exact (ih h).imp (List.mem_cons_of_mem _) id
theorem mem_del {m : List (Int × α)} {x : Int} {p : Int × α} (h : p ∈ delM m x) : p ∈ m := by
  induction m with
  | nil => cases h
  | cons q r ih =>
    unfold delM at h
    split at h
    · exact List.mem_cons_of_mem _ h
    · rcases List.mem_cons.1 h with h | h
      · rw [h]; exact List.mem_cons_self
      · exact List.mem_cons_of_mem _ (ih h)
theorem del_sub (m : List (Int × α)) (x : Int) : (delM m x).Sublist m := by
  induction m with
  | nil => exact .slnil
  | cons q r ih =>
    unfold delM
    split
    · exact .cons _ (List.Sublist.refl _)
    · exact .cons_cons _ ih
theorem lk_del {m : List (Int × α)} (hn : (keysM m).Nodup) (x y : Int) : lkM (delM m x) y = if x = y then none else lkM m y := by
  induction m with
  | nil => unfold delM; split <;> rfl
  | cons p r ih =>
    have hn' : p.1 ∉ keysM r ∧ (keysM r).Nodup := by simpa [keysM] using hn
    unfold delM
    by_cases h : p.1 = x
    · rw [if_pos h, lkM_cons, h]
      by_cases hxy : x = y
      · rw [if_pos hxy, ← hxy, lk_none, ← h]; exact hn'.1
      · rw [if_neg hxy, if_neg hxy]
    · rw [if_neg h, lkM_cons, lkM_cons, ih hn'.2]
      by_cases hp : p.1 = y
      · rw [if_pos hp, if_pos hp, if_neg (fun e => h (by rw [hp, e]))]
      · rw [if_neg hp, if_neg hp]
end
structure Tells {α : Type} (k : IntKind) (f : α → Value) (es : Array MapEntry) (clock : Nat) (m : List (Int × α)) : Prop where
  ents : es.toList.map (fun e => (e.key, e.val)) = m.map fun p => (Value.int k p.1, f p.2)
  nodup : (keysM m).Nodup
  wf : ∀ p ∈ m, (Lit.int k p.1).wf = true ∧ vok (f p.2) = true
  born : (es.toList.map (·.born)).Nodup ∧ ∀ e ∈ es.toList, e.born < clock
section
variable {α : Type} {P : Program} {k : IntKind} {f : α → Value} {es : Array MapEntry} {clock : Nat} {m : List (Int × α)}
theorem Tells.empty (k : IntKind) (f : α → Value) : Tells k f #[] 0 [] := ⟨rfl, List.nodup_nil, (fun p hp => by cases hp), List.nodup_nil, (fun e he => by cases he)⟩
theorem findNow_tells {K : Int} : ∀ {l : List MapEntry} {m : List (Int × α)} (i : Nat), l.map (fun e => (e.key, e.val)) = m.map (fun p => (Value.int k p.1, f p.2)) →
    Instr.findNow (.int k) (.int k K) l i = some ((m.zipIdx i).find? (fun p => p.1.1 == K) |>.map fun p => (p.2, f p.1.2)) := by
  intro l
  induction l with
  | nil =>
    intro m i h
    cases m with
    | nil => rfl
    | cons p r => simp at h
  | cons e l ih =>
    intro m i h
    cases m with
    | nil => simp at h
    | cons p r =>
      simp only [List.map_cons, List.cons.injEq, Prod.mk.injEq] at h
      obtain ⟨⟨h1, h2⟩, h3⟩ := h
      unfold Instr.findNow
      rw [h1]
      simp only [Instr.sameNow, if_true]
      rw [List.zipIdx_cons, List.find?_cons]
      by_cases hk : p.1 = K
      · have e1 : (K == p.1) = true := by simp [hk]
        have e2 : (p.1 == K) = true := by simp [hk]
        simp only [e1, e2]
        rw [h2]; rfl
      · have e1 : (K == p.1) = false := by simpa using fun e => hk e.symm
        have e2 : (p.1 == K) = false := by simpa using hk
        simp only [e1, e2]
        exact ih (i + 1) h3
theorem find_zip {m : List (Int × α)} {K : Int} : ∀ (i : Nat), ((m.zipIdx i).find? (fun p => p.1.1 == K)).map (fun p => p.1.2) = lkM m K := by
  induction m with
  | nil => intro i; rfl
  | cons p r ih =>
    intro i
    rw [List.zipIdx_cons, List.find?_cons, lkM_cons]
    by_cases hk : p.1 = K
    · have e2 : (p.1 == K) = true := by simp [hk]
      simp only [e2, if_pos hk]; rfl
    · have e2 : (p.1 == K) = false := by simpa using hk
      simp only [e2, if_neg hk]
      exact ih (i + 1)
theorem findKey_run {kt : TypeId} (hu : P.underlying kt = some (.int k)) (h : Tells k f es clock m) (K : Int) (w : World) :
    (Instr.findKey kt (.int k K) es.toList).run P w = .ok ((m.zipIdx 0).find? (fun p => p.1.1 == K) |>.map fun p => (p.2, f p.1.2)) w := by
  unfold Instr.findKey
  rw [Sem.run_bind, run_underlying hu, Result.andThen_ok, findNow_tells 0 h.ents]
  rfl
theorem checkKey_run {kt : TypeId} (hu : P.underlying kt = some (.int k)) (b : Bool) (K : Int) (w : World) : (Instr.checkKey b 10000 kt (.int k K)).run P w = .ok () w := by
  show (Instr.checkKey b (9999 + 1) kt (.int k K)).run P w = .ok () w
  unfold Instr.checkKey
  rw [Sem.run_bind, run_underlying hu, Result.andThen_ok]
  rfl
theorem getObj_run {b : Nat} {w : World} (h : w.heap[b]? = some (.map es clock)) : (getObj b).run P w = .ok (.map es clock) w := by
  simp [getObj, Sem.run, h]
def World.putObj (w : World) (b : Nat) (o : Obj) : World := { w with heap := w.heap.setIfInBounds b o }
theorem setObj_run {b : Nat} {w : World} {o : Obj} (h : w.heap[b]? = some (.map es clock)) : (setObj b o).run P w = .ok () (World.putObj w b o) := by
  simp [setObj, Sem.run, h, World.putObj]
theorem putObj_chg (w : World) (b : Nat) (o : Obj) : Chg (fun k => k = b) w (World.putObj w b o) :=
  ⟨rfl, rfl, rfl, by simp [World.putObj], fun k _ hk => by simp only [World.putObj]; rw [Array.getElem?_setIfInBounds_ne (fun e => hk e.symm)]⟩
theorem putObj_at {w : World} {b : Nat} {o p : Obj} (h : w.heap[b]? = some p) : (World.putObj w b o).heap[b]? = some o := by
  have := (Array.getElem?_eq_some_iff.1 h).1
  simp [World.putObj, this]
theorem find_at {K : Int} {p : Int × α} {i : Nat} : ∀ {m : List (Int × α)} {o : Nat}, (m.zipIdx o).find? (fun p => p.1.1 == K) = some (p, i) → o ≤ i ∧ m[i - o]? = some p ∧ p.1 = K ∧ (∀ x, upM m K x = m.set (i - o) (K, x)) ∧ delM m K = m.eraseIdx (i - o) := by
  intro m
  induction m with
  | nil => intro o h; cases h
  | cons q r ih =>
    intro o h
    rw [List.zipIdx_cons, List.find?_cons] at h
    by_cases hk : q.1 = K
    · have e2 : (q.1 == K) = true := by simp [hk]
      simp only [e2] at h
      injection h with h
      injection h with h1 h2
      subst h1 h2
      refine ⟨Nat.le_refl _, by simp, hk, fun x => ?_, ?_⟩
      · unfold upM; rw [if_pos hk, hk]; simp
      · unfold delM; rw [if_pos hk]; simp
    · have e2 : (q.1 == K) = false := by simpa using hk
      simp only [e2] at h
      obtain ⟨h1, h2, h3, h4, h5⟩ := ih h
      have e3 : i - o = (i - (o + 1)) + 1 := by omega
      refine ⟨by omega, by rw [e3]; simpa using h2, h3, fun x => ?_, ?_⟩
      · unfold upM; rw [if_neg hk, h4, e3]; rfl
      · unfold delM; rw [if_neg hk, h5, e3]; rfl
theorem find_no {K : Int} : ∀ {m : List (Int × α)} {o : Nat}, (m.zipIdx o).find? (fun p => p.1.1 == K) = none → (∀ x, upM m K x = m ++ [(K, x)]) ∧ delM m K = m ∧ K ∉ keysM m := by
  intro m
  induction m with
  | nil => intro o _; exact ⟨fun _ => rfl, rfl, by simp [keysM]⟩
  | cons q r ih =>
    intro o h
    rw [List.zipIdx_cons, List.find?_cons] at h
    by_cases hk : q.1 = K
    · have e2 : (q.1 == K) = true := by simp [hk]
      simp only [e2] at h; cases h
    · have e2 : (q.1 == K) = false := by simpa using hk
      simp only [e2] at h
      obtain ⟨h1, h2, h3⟩ := ih h
      refine ⟨fun x => ?_, ?_, ?_⟩
      · unfold upM; rw [if_neg hk, h1]; rfl
      · unfold delM; rw [if_neg hk, h2]
      · simp only [keysM, List.map_cons, List.mem_cons, not_or]; exact ⟨fun e => hk e.symm, h3⟩
theorem Tells.len (h : Tells k f es clock m) : es.size = m.length := by
  have := congrArg List.length h.ents
  simpa using this
theorem lookup_run {mt kt et : TypeId} {z : Value} (hu : P.underlying mt = some (.map kt et)) (hk : P.underlying kt = some (.int k)) (hz : ∀ W, (zeroValue et).run P W = .ok z W) (h : Tells k f es clock m) {b : Nat} {w : World} (hb : w.heap[b]? = some (.map es clock)) (K : Int) (ok : Bool) :
    (Instr.lookup mt (.map (some b)) (.int k K) ok).run P w = .ok (if ok then .tuple #[((lkM m K).map f).getD z, .bool (lkM m K).isSome] else ((lkM m K).map f).getD z) w := by
  unfold Instr.lookup
  rw [Sem.run_bind, run_underlying hu, Result.andThen_ok]
  simp only
  rw [Sem.run_bind, getObj_run hb, Result.andThen_ok]
  simp only
  rw [Sem.run_bind, Sem.run_pure, Result.andThen_ok, Sem.run_bind, checkKey_run hk, Result.andThen_ok, Sem.run_bind, findKey_run hk h, Result.andThen_ok]
  have hf := find_zip (m := m) (K := K) 0
  cases hfi : (m.zipIdx 0).find? (fun p => p.1.1 == K) with
  | none =>
    rw [hfi] at hf
    simp only [Option.map_none] at hf ⊢
    rw [← hf, Sem.run_bind, hz, Result.andThen_ok]
    simp
  | some q =>
    rw [hfi] at hf
    simp only [Option.map_some] at hf ⊢
    rw [← hf]
    simp
theorem update_run {mt kt et : TypeId} (hu : P.underlying mt = some (.map kt et)) (hk : P.underlying kt = some (.int k)) (h : Tells k f es clock m) {b : Nat} {w : World} (hb : w.heap[b]? = some (.map es clock)) {K : Int} (hK : (Lit.int k K).wf = true) {x : α} (hx : vok (f x) = true) :
    ∃ es' clock', (Instr.mapUpdate mt (.map (some b)) (.int k K) (f x)).run P w = .ok () (World.putObj w b (.map es' clock')) ∧ Tells k f es' clock' (upM m K x) := by
  have hwf : ∀ p ∈ upM m K x, (Lit.int k p.1).wf = true ∧ vok (f p.2) = true := fun p hp => by
    rcases mem_up hp with hp | hp
    · exact h.wf p hp
    · subst hp; exact ⟨hK, hx⟩
  cases hfi : (m.zipIdx 0).find? (fun p => p.1.1 == K) with
  | none =>
    obtain ⟨h1, _, _⟩ := find_no hfi
    refine ⟨es.push { key := .int k K, val := f x, born := clock }, clock + 1, ?_, ?_, nodup_up h.nodup K x, hwf, ?_, ?_⟩
    · unfold Instr.mapUpdate
      rw [Sem.run_bind, run_underlying hu, Result.andThen_ok]
      simp only
      rw [Sem.run_bind, getObj_run hb, Result.andThen_ok]
      simp only
      rw [Sem.run_bind, checkKey_run hk, Result.andThen_ok, Sem.run_bind, findKey_run hk h, Result.andThen_ok, hfi]
      simp only [Option.map_none]
      exact setObj_run hb
    · rw [h1, Array.toList_push, List.map_append, List.map_append, h.ents]; rfl
    · rw [Array.toList_push, List.map_append, List.nodup_append]
      refine ⟨h.born.1, by simp, fun c hc d hd e => ?_⟩
      simp only [List.map_cons, List.map_nil, List.mem_singleton] at hd
      obtain ⟨y, hy, rfl⟩ := List.mem_map.1 hc
      have := h.born.2 y hy
      omega
    · intro e he
      rw [Array.toList_push, List.mem_append] at he
      rcases he with he | he
      · have := h.born.2 e he; omega
      · simp only [List.mem_singleton] at he; subst he; exact Nat.lt_succ_self _
  | some q =>
    obtain ⟨p, i⟩ := q
    obtain ⟨-, h2, h3, h4, -⟩ := find_at hfi
    rw [Nat.sub_zero] at h2 h4
    have hil : i < m.length := (List.getElem?_eq_some_iff.1 h2).1
    have hi : i < es.size := by rw [h.len]; exact hil
    have hkey : (es[i]).key = .int k K := by
      have := congrArg (fun l => l[i]?) h.ents
      simp only [List.getElem?_map, h2, Option.map_some] at this
      rw [Array.getElem?_toList, Array.getElem?_eq_getElem hi] at this
      simp only [Option.map_some, Option.some.injEq, Prod.mk.injEq] at this
      rw [this.1, h3]
    refine ⟨es.modify i fun e => { e with key := .int k K, val := f x }, clock, ?_, ?_, nodup_up h.nodup K x, hwf, ?_, ?_⟩
    · unfold Instr.mapUpdate
      rw [Sem.run_bind, run_underlying hu, Result.andThen_ok]
      simp only
      rw [Sem.run_bind, getObj_run hb, Result.andThen_ok]
      simp only
      rw [Sem.run_bind, checkKey_run hk, Result.andThen_ok, Sem.run_bind, findKey_run hk h, Result.andThen_ok, hfi]
      simp only [Option.map_some]
      rw [Sem.run_bind]
      have e1 : ((es[i]?.map (·.key)).getD (.int k K)) = .int k K := by rw [Array.getElem?_eq_getElem hi]; exact hkey
      have e2 : (Instr.keyThatStays (.int k K) (.int k K)).run P w = .ok (.int k K) w := by
        unfold Instr.keyThatStays
        have : Instr.sameBits 10000 (.int k K) (.int k K) = true := by
          unfold Instr.sameBits; simp
        rw [if_pos this]; rfl
      rw [e1, e2, Result.andThen_ok]
      exact setObj_run hb
    · rw [h4]
      apply List.ext_getElem?
      intro j
      rw [List.getElem?_map, Array.getElem?_toList, Array.getElem?_modify, List.getElem?_map, List.getElem?_set]
      by_cases hij : i = j
      · subst hij
        rw [if_pos rfl, if_pos rfl, if_pos hil, Array.getElem?_eq_getElem hi]; rfl
      · rw [if_neg hij, if_neg hij]
        have := congrArg (fun l => l[j]?) h.ents
        simpa using this
    · have e : (es.modify i fun e => { e with key := .int k K, val := f x }).toList.map (·.born) = es.toList.map (·.born) := by
        apply List.ext_getElem?
        intro j
        rw [List.getElem?_map, Array.getElem?_toList, Array.getElem?_modify, List.getElem?_map, Array.getElem?_toList]
        split
        · cases es[j]? <;> rfl
        · rfl
      rw [e]; exact h.born.1
    · intro e he
      have he' := List.mem_iff_getElem?.1 he
      obtain ⟨j, hj⟩ := he'
      rw [Array.getElem?_toList, Array.getElem?_modify] at hj
      split at hj
      · cases hej : es[j]? with
        | none => rw [hej] at hj; cases hj
        | some y =>
          rw [hej] at hj
          simp only [Option.map_some, Option.some.injEq] at hj
          subst hj
          exact h.born.2 y (by rw [← Array.getElem?_toList] at hej; exact List.mem_of_getElem? hej)
      · exact h.born.2 e (by rw [← Array.getElem?_toList] at hj; exact List.mem_of_getElem? hj)
theorem map_erase {β γ : Type} (g : β → γ) : ∀ (l : List β) (i : Nat), (l.eraseIdx i).map g = (l.map g).eraseIdx i := by
  intro l
  induction l with
  | nil => intro i; rfl
  | cons x l ih =>
    intro i
    cases i with
    | zero => rfl
    | succ i => simp [ih]
theorem delete_run {mt kt et : TypeId} {ts : Array TypeId} {ty : TypeId} (hu : P.underlying mt = some (.map kt et)) (hk : P.underlying kt = some (.int k)) (ht : ts[0]? = some mt) (h : Tells k f es clock m) {b : Nat} {w : World} (hb : w.heap[b]? = some (.map es clock)) (K : Int) :
    ∃ es', (Builtin.delete_ ts ty #[.map (some b), .int k K]).run P w = .ok (.tuple #[]) (World.putObj w b (.map es' clock)) ∧ Tells k f es' clock (delM m K) := by
  have hwf : ∀ p ∈ delM m K, (Lit.int k p.1).wf = true ∧ vok (f p.2) = true := fun p hp => h.wf p (mem_del hp)
  have hnd : (keysM (delM m K)).Nodup := h.nodup.sublist ((del_sub m K).map _)
  cases hfi : (m.zipIdx 0).find? (fun p => p.1.1 == K) with
  | none =>
    obtain ⟨-, h1, -⟩ := find_no hfi
    refine ⟨es, ?_, by rw [h1]; exact h.ents, hnd, hwf, h.born⟩
    unfold Builtin.delete_
    simp only [ht, List.getElem?_toArray, List.getElem?_cons_zero, List.getElem?_cons_succ]
    rw [Sem.run_bind, run_underlying hu, Result.andThen_ok]
    simp only
    rw [Sem.run_bind, getObj_run hb, Result.andThen_ok]
    simp only
    rw [Sem.run_bind, checkKey_run hk, Result.andThen_ok, Sem.run_bind, findKey_run hk h, Result.andThen_ok, hfi]
    simp only [Option.map_none]
    rw [Sem.run_bind, setObj_run hb]; rfl
  | some q =>
    obtain ⟨p, i⟩ := q
    obtain ⟨-, h2, h3, -, h5⟩ := find_at hfi
    rw [Nat.sub_zero] at h2 h5
    have hil : i < m.length := (List.getElem?_eq_some_iff.1 h2).1
    have hi : i < es.size := by rw [h.len]; exact hil
    have hte : (es.eraseIdxIfInBounds i).toList = es.toList.eraseIdx i := by simp
    refine ⟨es.eraseIdxIfInBounds i, ?_, ?_, hnd, hwf, ?_, ?_⟩
    · unfold Builtin.delete_
      simp only [ht, List.getElem?_toArray, List.getElem?_cons_zero, List.getElem?_cons_succ]
      rw [Sem.run_bind, run_underlying hu, Result.andThen_ok]
      simp only
      rw [Sem.run_bind, getObj_run hb, Result.andThen_ok]
      simp only
      rw [Sem.run_bind, checkKey_run hk, Result.andThen_ok, Sem.run_bind, findKey_run hk h, Result.andThen_ok, hfi]
      simp only [Option.map_some]
      rw [Sem.run_bind, setObj_run hb]; rfl
    · rw [hte, h5, map_erase, h.ents, map_erase]
    · rw [hte, map_erase]
      exact h.born.1.sublist (List.eraseIdx_sublist _ _)
    · intro e he
      rw [hte] at he
      exact h.born.2 e ((List.eraseIdx_sublist _ _).subset he)
end
end Go.Proofs.YticnjkdaccacaaaGreatDoor.Sx
end
section
namespace Go.Proofs.YticnjkdaccacaaaGreatDoor.Sx
open Go Go.RowKit Base _root_.Go.Proofs.YticnjkdaccacaaaGreatDoor.Own
def stA (e b : Nat) (cs : List Value) : Asn where
  holds := fun w B F => w.heap[b]? = some (.cells cs.toArray e (0, 0)) ∧ cs.all vok = true ∧ B ≤ b ∧ ∀ g, F g ↔ g = b
  keep := fun ⟨h1, h2, h3, h4⟩ hc hF _ => ⟨by rw [hc.block _ (Array.getElem?_eq_some_iff.1 h1).1 (hF _ ((h4 _).2 rfl))]; exact h1, h2, h3, h4⟩
  dom := fun ⟨h1, _, h3, h4⟩ g hg => by rw [h4 g] at hg; subst hg; exact ⟨h3, (Array.getElem?_eq_some_iff.1 h1).1⟩
def mapA {α : Type} (k : IntKind) (f : α → Value) (b : Nat) (m : List (Int × α)) : Asn where
  holds := fun w B F => (∃ es clock, w.heap[b]? = some (.map es clock) ∧ Tells k f es clock m) ∧ B ≤ b ∧ ∀ g, F g ↔ g = b
  keep := fun ⟨⟨es, cl, h1, h2⟩, h3, h4⟩ hc hF _ => ⟨⟨es, cl, by rw [hc.block _ (Array.getElem?_eq_some_iff.1 h1).1 (hF _ ((h4 _).2 rfl))]; exact h1, h2⟩, h3, h4⟩
  dom := fun ⟨⟨es, cl, h1, h2⟩, h3, h4⟩ g hg => by rw [h4 g] at hg; subst hg; exact ⟨h3, (Array.getElem?_eq_some_iff.1 h1).1⟩
section
variable {w0 w : World} {M : List Asn}
theorem Sat.stAt {e b : Nat} {cs : List Value} (S : Sat w0 w M) (i : Nat) (hi : M[i]? = some (stA e b cs)) {j : Nat} {v : Value} (hj : cs[j]? = some v) : w.cell? ((⟨b, 0, none⟩ : Addr).add j) = some v ∧ vok v = true := by
  obtain ⟨F, h1, h2, _⟩ := (S.frontAt i hi).hd
  have e1 : (⟨b, 0, none⟩ : Addr).add j = ⟨b, j, none⟩ := by unfold Addr.add; split <;> simp_all
  exact ⟨by rw [e1, cell_of_row _ _ _ _ _ _ h1]; simpa using hj, (List.all_eq_true.1 h2) _ (List.mem_of_getElem? hj)⟩
theorem Sat.mapAt {α : Type} {k : IntKind} {f : α → Value} {b : Nat} {m : List (Int × α)} (S : Sat w0 w M) (i : Nat) (hi : M[i]? = some (mapA k f b m)) : ∃ es clock, w.heap[b]? = some (.map es clock) ∧ Tells k f es clock m := by
  obtain ⟨F, h1, _⟩ := (S.frontAt i hi).hd
  exact h1
theorem stA_lower {e b : Nat} {cs : List Value} {B B' : Nat} (hB : B' ≤ B) : ∀ F, (stA e b cs).holds w B F → (stA e b cs).holds w B' F := fun _ ⟨h1, h2, h3, h4⟩ => ⟨h1, h2, Nat.le_trans hB h3, h4⟩
theorem mapA_lower {α : Type} {k : IntKind} {f : α → Value} {b : Nat} {m : List (Int × α)} {B B' : Nat} (hB : B' ≤ B) : ∀ F, (mapA k f b m).holds w B F → (mapA k f b m).holds w B' F := fun _ ⟨h1, h3, h4⟩ => ⟨h1, Nat.le_trans hB h3, h4⟩
theorem addr0 (b j : Nat) : (⟨b, 0, none⟩ : Addr).add j = ⟨b, j, none⟩ := by unfold Addr.add; split <;> simp_all
end
section
variable {P : Program} {T : Orc} {ops : Array Oper} {Q : Exit → Act → World → Prop} {S' : World → Prop} {Df : List Deferred} {N : Nat} {a : Act} {w w0 : World} {L : Env} {R : List Asn}
theorem wl_ldf (hT : T.Ok P) {o : Oper} {rest : List Oper} {te : TypeId} {x : Operand} {d : Nat} {A : Addr} {v : Value} {de : TypeDesc} (hr : w.cell? A = some v ∧ vok v = true) (fr : FrD Df N a L) (hw : wantL ops L o = some true) (ho : o.op = .load te x) (hd : o.dst = some d) (hlt : Nat.blt d N = true)
    (hx : ev L x = some (.pointer (some A))) (hte : T.ty.lookup te = some de) (hde : aggD de = false) (h : ∀ a', FrD Df N a' ((d, v) :: L) → wpList P ops Q rest a' w) : wpList P ops Q (o :: rest) a w :=
  wl_val fr hw hd hlt (load_run hT fr ho hx hte hde hr.1) hr.2 h
theorem sl_ldf (hT : T.Ok P) {s : SOp} {rest : List Itm} {te : TypeId} {x : Operand} {d : Nat} {A : Addr} {v : Value} {de : TypeDesc} (hr : ∀ w, S' w → w.cell? A = some v ∧ vok v = true) (fr : FrD Df N a L) (hw : wantS L s = some true) (hq : s.q = true) (ho : s.op = .load te x) (hd : s.dst = some d) (hlt : Nat.blt d N = true)
    (hx : ev L x = some (.pointer (some A))) (hte : T.ty.lookup te = some de) (hde : aggD de = false) (hS : S' w) (h : ∀ a', FrD Df N a' ((d, v) :: L) → SL P Q S' rest a' w) : SL P Q S' (.one s :: rest) a w :=
  sl_q fr hw hq hd hlt (fun w' hS' => load_run hT fr (o := s.oper) ho hx hte hde (hr w' hS').1) (hr w hS).2 h
theorem store1_run (hT : T.Ok P) (fr : FrD Df N a L) {o : Oper} {te : TypeId} {p v : Operand} {b e j : Nat} {cs : List Value} {z : Value} (ho : o.op = .store te p v) (hp : ev L p = some (.pointer (some ((⟨b, 0, none⟩ : Addr).add j)))) (hv : ev L v = some z) (hs : T.sz.lookup te = some 1)
    (hc : z.cells = #[z]) (h1 : z.oneCell' = true) (S : Sat w0 w (stA e b cs :: R)) (hj : Nat.blt j cs.length = true) : ∃ w', (execOp a.eval o).run P w = .ok .skip w' ∧ Sat w0 w' (stA e b (cs.set j z) :: R) := by
  obtain ⟨F, ⟨g1, g2, g4, g5⟩, hF, hk⟩ := S.opened
  have hj := blt_lt hj
  have hcell : w.cell? ⟨b, j, none⟩ = some cs[j] := by
    rw [cell_of_row _ _ _ _ _ _ g1]; simp [List.getElem?_eq_getElem hj]
  have hfz := frozen_of_row w b j _ _ g1
  have hrun : (storeCells (⟨b, j, none⟩ : Addr) [z]).run P w = .ok () (w.setCell ⟨b, j, none⟩ z) := by
    have h2 := run_storeCells_cells (P := P) b j [z] 0 w (fun q hq => by
      have hq : q = 0 := by simpa using hq
      subst hq; simpa using by rw [hcell]; rfl) (fun q hq => by
      have hq : q = 0 := by simpa using hq
      subst hq; simpa using hfz) (fun u hu => by
      have hu : u = z := by simpa using hu
      subst hu; exact h1)
    have h3 : (storeCells (⟨b, j, none⟩ : Addr) [z]).run P w = .ok () (w.setCells b j [z]) := by simpa using h2
    exact h3
  refine ⟨w.setCell ⟨b, j, none⟩ z, ?_, hk (A' := stA e b (cs.set j z)) (F' := F) (G := fun g => g = b) ⟨?_, ?_, g4, g5⟩ (Chg.setCell w ⟨b, j, none⟩ z) (fun g _ hg => (g5 g).2 hg) fun g hg => .inl hg⟩
  · unfold execOp
    simp only [ho, (fr.ev hp).1, (fr.ev hv).1, Instr.storeAt, Instr.sureAddr, storeVar, hc, addr0]
    simp [size_run hT hs, hrun]
  · rw [heap_setCell_same w b j _ e z g1]; simp
  · rw [List.all_eq_true]
    intro u hu
    rcases List.mem_or_eq_of_mem_set hu with hu | hu
    · exact (List.all_eq_true.1 g2) u hu
    · subst hu; exact (fr.ev hv).2
theorem wl_stf (hT : T.Ok P) {o : Oper} {rest : List Oper} {te : TypeId} {p v : Operand} {b e j : Nat} {cs : List Value} {z : Value} (fr : FrD Df N a L) (hw : wantL ops L o = some true) (hd : o.dst = none) (ho : o.op = .store te p v) (hp : ev L p = some (.pointer (some ((⟨b, 0, none⟩ : Addr).add j)))) (hv : ev L v = some z) (hs : T.sz.lookup te = some 1)
    (hc : z.cells = #[z]) (h1 : z.oneCell' = true) (S : Sat w0 w (stA e b cs :: R)) (hj : Nat.blt j cs.length = true) (h : ∀ w', Sat w0 w' (stA e b (cs.set j z) :: R) → wpList P ops Q rest a w') : wpList P ops Q (o :: rest) a w := by
  obtain ⟨w', h2, h3⟩ := store1_run hT fr ho hp hv hs hc h1 S hj
  exact wl_skip fr hw hd h2 (h w' h3)
theorem sl_stf (hT : T.Ok P) {s : SOp} {rest : List Itm} {te : TypeId} {p v : Operand} {b e j : Nat} {cs : List Value} {z : Value} (fr : FrD Df N a L) (hw : wantS L s = some true) (hq : s.q = false) (hd : s.dst = none) (ho : s.op = .store te p v) (hp : ev L p = some (.pointer (some ((⟨b, 0, none⟩ : Addr).add j)))) (hv : ev L v = some z) (hs : T.sz.lookup te = some 1)
    (hc : z.cells = #[z]) (h1 : z.oneCell' = true) (S : Sat w0 w (stA e b cs :: R)) (hj : Nat.blt j cs.length = true) (h : ∀ w', Sat w0 w' (stA e b (cs.set j z) :: R) → S' w' ∧ SL P Q S' rest a w') : SL P Q S' (.one s :: rest) a w := by
  obtain ⟨w', h2, h3⟩ := store1_run hT fr (o := s.oper) ho hp hv hs hc h1 S hj
  exact sl_skip fr hw hq hd h2 (h w' h3).1 (h w' h3).2
theorem sl_ldfl (hT : T.Ok P) {s : SOp} {rest : List Itm} {te : TypeId} {x : Operand} {d : Nat} {A : Addr} {v : Value} {de : TypeDesc} (hr : w.cell? A = some v ∧ vok v = true) (fr : FrD Df N a L) (hw : wantS L s = some true) (hq : s.q = false) (ho : s.op = .load te x) (hd : s.dst = some d) (hlt : Nat.blt d N = true)
    (hx : ev L x = some (.pointer (some A))) (hte : T.ty.lookup te = some de) (hde : aggD de = false) (hS : S' w) (h : ∀ a', FrD Df N a' ((d, v) :: L) → SL P Q S' rest a' w) : SL P Q S' (.one s :: rest) a w :=
  sl_val fr hw hq hd hlt (load_run hT fr (o := s.oper) ho hx hte hde hr.1) hS hr.2 h
theorem wl_boxs {o : Oper} {rest : List Oper} {t : TypeId} {x : Operand} {d : Nat} {cs : List Value} (fr : FrD Df N a L) (hw : wantL ops L o = some true) (hd : o.dst = some d) (hlt : Nat.blt d N = true) (ho : o.op = .box t x) (hx : ev L x = some (.agg cs.toArray)) (hv : cs.all vok = true) (S : Sat w0 w R)
    (h : ∀ w' b, Sat w0 w' (stA t b cs :: R) → ∀ a', FrD Df N a' ((d, .pointer (some ⟨b, 0, none⟩)) :: L) → wpList P ops Q rest a' w') : wpList P ops Q (o :: rest) a w := by
  refine wl_val (v := .pointer (some ⟨w.heap.size, 0, none⟩)) (w' := w.alloc (.cells cs.toArray t)) fr hw hd hlt ?_ rfl (h _ _ ?_)
  · unfold execOp
    simp only [ho, (fr.ev hx).1]
    rfl
  · exact S.add (F := fun g => g = w.heap.size) ((Below.refl _ _).alloc (Nat.le_refl _) _) ⟨heap_alloc_new _ _, hv, S.below.size, fun g => Iff.rfl⟩ fun g hg => Nat.le_of_eq hg.symm
theorem wl_build {o : Oper} {rest : List Oper} {t : TypeId} {ps : Array (Nat × Operand)} {d : Nat} {L2 : List (Nat × Value)} {cs : List Value} (fr : FrD Df N a L) (hw : wantL ops L o = some true) (hd : o.dst = some d) (hlt : Nat.blt d N = true) (ho : o.op = .build t ps) (hp : (ps.map fun (i, x) => (i, a.eval x)).toList = L2) (hb : P.built t L2 = some cs.toArray) (hv : vok (.agg cs.toArray) = true)
    (h : ∀ a', FrD Df N a' ((d, .agg cs.toArray) :: L) → wpList P ops Q rest a' w) : wpList P ops Q (o :: rest) a w := by
  refine wl_val (v := .agg cs.toArray) fr hw hd hlt ?_ hv h
  unfold execOp
  simp only [ho]
  rw [Sem.run_bind, run_build w t _ cs.toArray (by rw [hp]; exact hb)]; rfl
theorem wl_otake (hT : T.Ok P) {k : IntKind} {o : Oper} {rest : List Oper} {t : TypeId} {x y : Operand} {d : Nat} {A : Option Addr} {l : List Int} {n c e e' s : Nat} {ki : IntKind} {i : Int} (fr : FrD Df N a L) (hw : wantL ops L o = some true) (ho : o.op = .slice t x none (some y) none) (hd : o.dst = some d) (hlt : Nat.blt d N = true)
    (hx : ev L x = some (.slice A n c)) (hy : ev L y = some (.int ki i)) (ht : T.ty.lookup t = some (.slice e)) (hs : T.sz.lookup e = some s) (hn : n = l.length) (hb : 0 ≤ i ∧ i ≤ (l.length : Int)) (S : Sat w0 w (ownA k e' A c l :: R))
    (h : Sat w0 w (ownA k e' A c (l.take i.toNat) :: R) → ∀ a', FrD Df N a' ((d, .slice A (l.take i.toNat).length c) :: L) → wpList P ops Q rest a' w) : wpList P ops Q (o :: rest) a w := by
  refine wl_take hT fr hw ho hd hlt hx hy ht hs hn hb (h ?_)
  obtain ⟨F, ⟨h1, h2, h3⟩, hF, hk⟩ := S.opened
  have hl : (l.take i.toNat).length = i.toNat := by rw [List.length_take]; omega
  refine hk (A' := ownA k e' A c (l.take i.toNat)) (F' := F) (G := fun _ => False) ⟨?_, fun z hz => h2 z (List.mem_of_mem_take hz), fun g => ?_⟩ (Chg.refl _ _) (fun _ _ h => h.elim) fun g hg => .inl hg
  · rcases h1.2 with ⟨e1, e2⟩ | ⟨g, cap, cur, e1, hB, hg, h4, h5, h6, h7⟩
    · injection e1 with e3 e4 e5
      subst e3 e5
      have : l = [] := List.eq_nil_of_length_eq_zero e2
      subst this
      simp only [List.take_nil]
      exact OwnI.nil k w _ e'
    · injection e1 with e3 e4 e5
      subst e3 e5
      refine ⟨by simp, .inr ⟨g, c, cur, rfl, hB, hg, by omega, h5, h6, ?_⟩⟩
      have h8 := congrArg (List.take i.toNat) h7
      rw [List.take_take] at h8
      rw [hl, List.map_take, ← h8]
      congr 1
      omega
  · rw [h3 g]
    cases A <;> simp [Value.ownBlock]
variable {α : Type} {k : IntKind} {f : α → Value}
theorem wl_mkmap (k : IntKind) (f : α → Value) {o : Oper} {rest : List Oper} {t : TypeId} {d : Nat} (fr : FrD Df N a L) (hw : wantL ops L o = some true) (hd : o.dst = some d) (hlt : Nat.blt d N = true) (ho : o.op = .makeMap t none) (S : Sat w0 w R)
    (h : ∀ w' b, Sat w0 w' (mapA k f b [] :: R) → ∀ a', FrD Df N a' ((d, .map (some b)) :: L) → wpList P ops Q rest a' w') : wpList P ops Q (o :: rest) a w := by
  refine wl_val (v := .map (some w.heap.size)) (w' := w.alloc (.map #[] 0)) fr hw hd hlt ?_ rfl (h _ _ ?_)
  · unfold execOp
    simp only [ho]
    rfl
  · exact S.add (F := fun g => g = w.heap.size) ((Below.refl _ _).alloc (Nat.le_refl _) _) ⟨⟨_, _, heap_alloc_new _ _, Tells.empty k f⟩, S.below.size, fun g => Iff.rfl⟩ fun g hg => Nat.le_of_eq hg.symm
theorem getD_map (o : Option α) (d : α) : (o.map f).getD (f d) = f (o.getD d) := by cases o <;> rfl
theorem lk_exec (hT : T.Ok P) (fr : FrD Df N a L) {o : Oper} {mt kt et : TypeId} {x y : Operand} {b : Nat} {K : Int} {m : List (Int × α)} {ok : Bool} (z : α) (ho : o.op = .lookup mt x y ok) (hx : ev L x = some (.map (some b))) (hy : ev L y = some (.int k K)) (hm : T.ty.lookup mt = some (.map kt et)) (hk : T.ty.lookup kt = some (.int k)) (hz : ∀ W, (zeroValue et).run P W = .ok (f z) W) {w : World}
    (hr : ∃ es clock, w.heap[b]? = some (.map es clock) ∧ Tells k f es clock m) : (execOp a.eval o).run P w = .ok (.value (if ok then .tuple #[f ((lkM m K).getD z), .bool (lkM m K).isSome] else f ((lkM m K).getD z))) w := by
  obtain ⟨es, cl, h1, h2⟩ := hr
  have h3 := lookup_run (hT.und hm) (hT.und hk) hz h2 h1 K ok
  unfold execOp
  simp only [ho, (fr.ev hx).1, (fr.ev hy).1]
  rw [Sem.run_bind, h3]
  simp only [getD_map, Result.andThen_ok]
  rfl
theorem lk_vok {m : List (Int × α)} {w : World} {b : Nat} (hr : ∃ es clock, w.heap[b]? = some (.map es clock) ∧ Tells k f es clock m) (z : α) (hz : vok (f z) = true) (K : Int) : vok (f ((lkM m K).getD z)) = true := by
  obtain ⟨es, cl, h1, h2⟩ := hr
  cases h : lkM m K with
  | none => exact hz
  | some v => exact (h2.wf _ (lk_some h)).2
theorem wl_lk (hT : T.Ok P) {o : Oper} {rest : List Oper} {mt kt et : TypeId} {x y : Operand} {d b : Nat} {K : Int} {m : List (Int × α)} (z : α) (hz : ∀ W, (zeroValue et).run P W = .ok (f z) W) (hzv : vok (f z) = true) (hr : ∃ es clock, w.heap[b]? = some (.map es clock) ∧ Tells k f es clock m) (fr : FrD Df N a L) (hw : wantL ops L o = some true) (hd : o.dst = some d) (hlt : Nat.blt d N = true) (ho : o.op = .lookup mt x y false)
    (hx : ev L x = some (.map (some b))) (hy : ev L y = some (.int k K)) (hm : T.ty.lookup mt = some (.map kt et)) (hk : T.ty.lookup kt = some (.int k)) (h : ∀ a', FrD Df N a' ((d, f ((lkM m K).getD z)) :: L) → wpList P ops Q rest a' w) : wpList P ops Q (o :: rest) a w :=
  wl_val fr hw hd hlt (lk_exec hT fr z ho hx hy hm hk hz hr) (lk_vok hr z hzv K) h
theorem sl_lk (hT : T.Ok P) {s : SOp} {rest : List Itm} {mt kt et : TypeId} {x y : Operand} {d b : Nat} {K : Int} {m : List (Int × α)} (z : α) (hz : ∀ W, (zeroValue et).run P W = .ok (f z) W) (hzv : vok (f z) = true) (hr : ∀ w, S' w → ∃ es clock, w.heap[b]? = some (.map es clock) ∧ Tells k f es clock m) (fr : FrD Df N a L) (hw : wantS L s = some true) (hq : s.q = true) (hd : s.dst = some d) (hlt : Nat.blt d N = true) (ho : s.op = .lookup mt x y false)
    (hx : ev L x = some (.map (some b))) (hy : ev L y = some (.int k K)) (hm : T.ty.lookup mt = some (.map kt et)) (hk : T.ty.lookup kt = some (.int k)) (hS : S' w) (h : ∀ a', FrD Df N a' ((d, f ((lkM m K).getD z)) :: L) → SL P Q S' rest a' w) : SL P Q S' (.one s :: rest) a w :=
  sl_q fr hw hq hd hlt (fun w' hS' => lk_exec hT fr (o := s.oper) z ho hx hy hm hk hz (hr w' hS')) (lk_vok (hr w hS) z hzv K) h
theorem wl_lk2 (hT : T.Ok P) {o : Oper} {rest : List Oper} {mt kt et : TypeId} {x y : Operand} {d b : Nat} {K : Int} {m : List (Int × α)} (z : α) (hz : ∀ W, (zeroValue et).run P W = .ok (f z) W) (hzv : vok (f z) = true) (hf : ∀ z, vokC (f z) = vok (f z)) (hr : ∃ es clock, w.heap[b]? = some (.map es clock) ∧ Tells k f es clock m) (fr : FrD Df N a L) (hw : wantL ops L o = some true) (hd : o.dst = some d) (hlt : Nat.blt d N = true) (ho : o.op = .lookup mt x y true)
    (hx : ev L x = some (.map (some b))) (hy : ev L y = some (.int k K)) (hm : T.ty.lookup mt = some (.map kt et)) (hk : T.ty.lookup kt = some (.int k)) (h : ∀ a', FrD Df N a' ((d, .tuple #[f ((lkM m K).getD z), .bool (lkM m K).isSome]) :: L) → wpList P ops Q rest a' w) : wpList P ops Q (o :: rest) a w :=
  wl_val fr hw hd hlt (lk_exec hT fr z ho hx hy hm hk hz hr) (by
    show [f ((lkM m K).getD z), Value.bool (lkM m K).isSome].all vokC = true
    rw [List.all_cons, hf, lk_vok hr z hzv K]; rfl) h
theorem up_exec (hT : T.Ok P) (fr : FrD Df N a L) {o : Oper} {mt kt et : TypeId} {x y v : Operand} {b : Nat} {K : Int} {m : List (Int × α)} {z : α} (ho : o.op = .mapUpdate mt x y v ∨ o.op = .insert mt x y v) (hx : ev L x = some (.map (some b))) (hy : ev L y = some (.int k K)) (hv : ev L v = some (f z)) (hm : T.ty.lookup mt = some (.map kt et)) (hk : T.ty.lookup kt = some (.int k)) (S : Sat w0 w (mapA k f b m :: R)) :
    ∃ w', (execOp a.eval o).run P w = .ok .skip w' ∧ Sat w0 w' (mapA k f b (upM m K z) :: R) := by
  obtain ⟨F, ⟨⟨es, cl, h1, h2⟩, g4, g5⟩, hF, hk'⟩ := S.opened
  obtain ⟨es', cl', h3, h4⟩ := update_run (hT.und hm) (hT.und hk) h2 h1 (fr.ev hy).2 (fr.ev hv).2
  refine ⟨_, ?_, hk' (A' := mapA k f b (upM m K z)) (F' := F) (G := fun g => g = b) ⟨⟨es', cl', putObj_at h1, h4⟩, g4, g5⟩ (putObj_chg w b _) (fun g _ hg => (g5 g).2 hg) fun g hg => .inl hg⟩
  unfold execOp
  rcases ho with ho | ho <;> (simp only [ho, (fr.ev hx).1, (fr.ev hy).1, (fr.ev hv).1]; rw [Sem.run_bind, h3]; rfl)
theorem wl_up (hT : T.Ok P) {o : Oper} {rest : List Oper} {mt kt et : TypeId} {x y v : Operand} {b : Nat} {K : Int} {m : List (Int × α)} (z : α) (fr : FrD Df N a L) (hw : wantL ops L o = some true) (hd : o.dst = none) (ho : o.op = .mapUpdate mt x y v ∨ o.op = .insert mt x y v) (hx : ev L x = some (.map (some b))) (hy : ev L y = some (.int k K)) (hv : ev L v = some (f z)) (hm : T.ty.lookup mt = some (.map kt et)) (hk : T.ty.lookup kt = some (.int k)) (S : Sat w0 w (mapA k f b m :: R))
    (h : ∀ w', Sat w0 w' (mapA k f b (upM m K z) :: R) → wpList P ops Q rest a w') : wpList P ops Q (o :: rest) a w := by
  obtain ⟨w', h1, h2⟩ := up_exec hT fr ho hx hy hv hm hk S
  exact wl_skip fr hw hd h1 (h w' h2)
theorem sl_up (hT : T.Ok P) {s : SOp} {rest : List Itm} {mt kt et : TypeId} {x y v : Operand} {b : Nat} {K : Int} {m : List (Int × α)} (z : α) (fr : FrD Df N a L) (hw : wantS L s = some true) (hq : s.q = false) (hd : s.dst = none) (ho : s.op = .mapUpdate mt x y v ∨ s.op = .insert mt x y v) (hx : ev L x = some (.map (some b))) (hy : ev L y = some (.int k K)) (hv : ev L v = some (f z)) (hm : T.ty.lookup mt = some (.map kt et)) (hk : T.ty.lookup kt = some (.int k)) (S : Sat w0 w (mapA k f b m :: R))
    (h : ∀ w', Sat w0 w' (mapA k f b (upM m K z) :: R) → S' w' ∧ SL P Q S' rest a w') : SL P Q S' (.one s :: rest) a w := by
  obtain ⟨w', h1, h2⟩ := up_exec hT fr (o := s.oper) ho hx hy hv hm hk S
  exact sl_skip fr hw hq hd h1 (h w' h2).1 (h w' h2).2
theorem wl_del (hT : T.Ok P) {o : Oper} {rest : List Oper} {mt kt et : TypeId} {x y : Operand} {ts : Array TypeId} {b : Nat} {K : Int} {m : List (Int × α)} (fr : FrD Df N a L) (hw : wantL ops L o = some true) (hd : o.dst = none) (ho : o.op = .call { callee := .builtin .delete, args := #[x, y], argTypes := ts }) (ht : ts[0]? = some mt) (hx : ev L x = some (.map (some b))) (hy : ev L y = some (.int k K)) (hm : T.ty.lookup mt = some (.map kt et)) (hk : T.ty.lookup kt = some (.int k)) (S : Sat w0 w (mapA k f b m :: R))
    (h : ∀ w', Sat w0 w' (mapA k f b (delM m K) :: R) → wpList P ops Q rest a w') : wpList P ops Q (o :: rest) a w := by
  obtain ⟨F, ⟨⟨es, cl, h1, h2⟩, g4, g5⟩, hF, hk'⟩ := S.opened
  obtain ⟨es', h3, h4⟩ := delete_run (ty := o.type) (hT.und hm) (hT.und hk) ht h2 h1 K
  have h5 := hk' (A' := mapA k f b (delM m K)) (F' := F) (G := fun g => g = b) ⟨⟨es', cl, putObj_at h1, h4⟩, g4, g5⟩ (putObj_chg w b _) (fun g _ hg => (g5 g).2 hg) fun g hg => .inl hg
  refine wl_op fr hw fun K' hK => wp_value (v := .tuple #[]) ?_ (hK _ _ (by rw [hd]; exact h _ h5))
  unfold execOp
  simp only [ho, resolve]
  rw [Sem.run_bind, Sem.run_pure, Result.andThen_ok]
  simp only [invoke, builtin, List.map_toArray, List.map_cons, List.map_nil, (fr.ev hx).1, (fr.ev hy).1]
  rw [Sem.run_bind, h3]; rfl
end
end Go.Proofs.YticnjkdaccacaaaGreatDoor.Sx
end
