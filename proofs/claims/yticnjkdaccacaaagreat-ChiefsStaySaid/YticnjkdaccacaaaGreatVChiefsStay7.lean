/- Texts of this work, one behind the other. -/
import Derived.Test.YticnjkdaccacaaaGreatVChiefsStay6
import Derived.WalkKit
import Derived.ProofKit
import Derived.OpenShut
import Derived.ShutString
import Derived.ChangeOld
import Derived.SizedLaws
import Derived.KernelRfl
import Derived.Deep.Slices
import Derived.IntWalk
set_option maxRecDepth 100000
set_option maxHeartbeats 16000000
section
namespace Go.Proofs.YticnjkdaccacaaaGreat.Base
open Go Go.RowKit Go.ChangeShapes Go.WideShapes
structure Rdr (α : Type) where
 sz : Nat
 R : World → List Value → α → Prop
 len : ∀ {w cs x}, R w cs x → cs.length = sz
 keep : ∀ {w w1 : World} {cs x}, Below w.heap.size w w1 → R w cs x → R w1 cs x
namespace Rdr
def int (k : IntKind) : Rdr Int where
 sz := 1
 R := fun _ cs x => cs = [.int k x] ∧ (Lit.int k x).wf = true
 len := by rintro w cs x ⟨rfl, _⟩; rfl
 keep := fun _ h => h
def str : Rdr ByteArray where
 sz := 1
 R := fun _ cs x => cs = [.string x] ∧ x.size ≤ maxLen
 len := by rintro w cs x ⟨rfl, _⟩; rfl
 keep := fun _ h => h
def unit : Rdr Unit where
 sz := 0
 R := fun _ cs _ => cs = []
 len := by rintro w cs x rfl; rfl
 keep := fun _ h => h
def pair {α β : Type} (r : Rdr α) (s : Rdr β) : Rdr (α × β) where
 sz := r.sz + s.sz
 R := fun w cs x => ∃ c d, cs = c ++ d ∧ r.R w c x.1 ∧ s.R w d x.2
 len := by
  rintro w cs x ⟨c, d, rfl, h1, h2⟩
  rw [List.length_append, r.len h1, s.len h2]
 keep := by
  rintro w w1 cs x hb ⟨c, d, rfl, h1, h2⟩
  exact ⟨c, d, rfl, r.keep hb h1, s.keep hb h2⟩
def Row {α : Type} (r : Rdr α) (w : World) (A : Option Addr) (l : List α) : Prop :=
 l ≠ [] → ∃ ad, A = some ad ∧ (0 < r.sz → ad.block < w.heap.size) ∧ ∀ i y, l[i]? = some y → ∃ c, r.R w c y ∧ ∀ j u, c[j]? = some u → w.cell? (ad.add (i * r.sz + j)) = some u
theorem Row.keep {α : Type} {r : Rdr α} {w w1 : World} {A : Option Addr} {l : List α} (h : Row r w A l) (hb : Below w.heap.size w w1) : Row r w1 A l := fun hne => by
 obtain ⟨ad, e, h1, h2⟩ := h hne
 refine ⟨ad, e, fun hp => Nat.lt_of_lt_of_le (h1 hp) hb.size, fun i y hy => ?_⟩
 obtain ⟨c, h3, h4⟩ := h2 i y hy
 refine ⟨c, r.keep hb h3, fun j u hu => ?_⟩
 have h5 := h4 j u hu
 have h6 := World.block_lt_of_cell? w _ h5
 rw [hb.cell h6]; exact h5
def sl {α : Type} (r : Rdr α) : Rdr (List α) where
 sz := 1
 R := fun w cs x => ∃ A cap, cs = [.slice A x.length cap] ∧ x.length ≤ cap ∧ cap ≤ maxLen ∧ Row r w A x
 len := by rintro w cs x ⟨A, cap, rfl, _⟩; rfl
 keep := by
  rintro w w1 cs x hb ⟨A, cap, rfl, h1, h2, h3⟩
  exact ⟨A, cap, rfl, h1, h2, h3.keep hb⟩
def Of (P : Program) (t : TypeId) {α : Type} (r : Rdr α) : Prop :=
 P.cellsOf t = r.sz ∧ ∀ (H : Type) (enc : TypeId × Value → H) (w : World) (base : Nat) (spare : Nat → Bool) (held : Bool) (fuel : Nat) (cs : List Value) (x : DataW H × List MemPlace),
  DataW.trod enc P w base spare held fuel t cs = some x → ∃ y, r.R w cs y
section
variable {P : Program} {t : TypeId}
theorem of_int {k : IntKind} (ht : P.underlying t = some (.int k)) (hc : P.cellsOf t = 1) : Of P t (int k) := by
 refine ⟨hc, fun H enc w base spare held fuel cs x h => ?_⟩
 cases fuel with
 | zero => simp [DataW.trod] at h
 | succ n =>
  unfold DataW.trod at h
  rw [ht] at h
  split at h <;> simp_all
  rename_i k' n' _
  exact ⟨n', by simp [int, h.1]⟩
theorem of_str (ht : P.underlying t = some .string) (hc : P.cellsOf t = 1) : Of P t str := by
 refine ⟨hc, fun H enc w base spare held fuel cs x h => ?_⟩
 obtain ⟨s, hcs, _, hs⟩ := DataW.trod_string ht h
 exact ⟨s, hcs, hs⟩
end
end Rdr
end Go.Proofs.YticnjkdaccacaaaGreat.Base
end
section
namespace Go.Proofs.YticnjkdaccacaaaGreat.Sx
open Go Go.RowKit Base Oq OwnV
abbrev RR (k : IntKind) (w : World) (A : Option Addr) (ls : List (List Int)) : Prop := Rdr.Row (Rdr.sl (Rdr.int k)) w A ls
theorem RR.cellAt {w0 w : World} (hb : Below w0.heap.size w0 w) {ad : Addr} {v : Value} (h : w0.cell? ad = some v) : w.cell? ad = some v := by
 rw [hb.cell (World.block_lt_of_cell? w0 _ h)]; exact h
section
variable {P : Program} {T : Orc} {ops : Array Oper} {Q : Exit → Act → World → Prop} {S' : World → Prop} {Df : List Deferred} {N : Nat} {a : Act} {w w0 : World} {L : Env} {R : List Asn}
theorem FrD.skip2 {d1 d2 : Nat} {v1 v2 : Value} (fr : FrD Df N a ((d2, v2) :: (d1, v1) :: L)) (h1 : L.lookup d1 = none) : FrD Df N a ((d2, v2) :: L) :=
 ⟨fr.size, fr.defers, fun e u he => fr.get e u (by
  rw [lookup_cons] at he ⊢
  by_cases h3 : e = d2
  ·rw [if_pos h3] at he ⊢; exact he
  ·rw [if_neg h3] at he ⊢
   rw [lookup_cons]
   by_cases h4 : e = d1
   ·subst h4; rw [h1] at he; cases he
   ·rw [if_neg h4]; exact he)⟩
theorem want_skip {o : Oper} {d : Nat} {v : Value} {b : Bool} (h : wantL ops L o = some b) (hf : L.lookup d = none) : wantL ops ((d, v) :: L) o = some b := by
 unfold wantL at h ⊢
 split at h
 ·exact h
 ·rename_i j' want hg'
  split at h
  ·rename_i t' ht'
   split at h
   ·rename_i b hb'
    have hne : t' ≠ d := fun e => by subst e; rw [hf] at hb'; cases hb'
    rw [lookup_cons, if_neg hne, hb']; exact h
   ·rename_i vs hb'
    have hne : t' ≠ d := fun e => by subst e; rw [hf] at hb'; cases hb'
    rw [lookup_cons, if_neg hne, hb']; exact h
   ·cases h
  ·cases h
theorem wl_ldc (hT : T.Ok P) {o1 o2 : Oper} {rest : List Oper} {t te : TypeId} {x ix : Operand} {d1 d2 : Nat} {A : Option Addr} {v : Value} {n c e : Nat} {ki : IntKind} {i : Int} {de : TypeDesc}
  (hr : ∃ ad, A = some ad ∧ w.cell? (ad.add (i.toNat * 1)) = some v) (hv : vok v = true) (fr : FrD Df N a L) (hw : wantL ops L o1 = some true) (ho1 : o1.op = .indexAddr t x ix) (hd1 : o1.dst = some d1) (hw2 : wantL ops L o2 = some true) (ho2 : o2.op = .load te (.tmp d1)) (hd2 : o2.dst = some d2) (hl1 : Nat.blt d1 N = true) (hl2 : Nat.blt d2 N = true)
  (hx : ev L x = some (.slice A n c)) (hi : ev L ix = some (.int ki i)) (ht : T.ty.lookup t = some (.slice e)) (hs : T.sz.lookup e = some 1) (hte : T.ty.lookup te = some de) (hde : aggD de = false) (hf : L.lookup d1 = none) (hb : 0 ≤ i ∧ i < (n : Int))
  (h : ∀ a', FrD Df N a' ((d2, v) :: L) → wpList P ops Q rest a' w) : wpList P ops Q (o1 :: o2 :: rest) a w := by
 obtain ⟨ad, rfl, hc⟩ := hr
 refine wl_val fr hw hd1 hl1 (indexAddr_run hT fr ho1 hx hi ht hs hb.1 hb.2 w) rfl fun a1 fr1 => ?_
 exact wl_val fr1 (want_skip hw2 hf) hd2 hl2 (load_run hT fr1 ho2 (by show ((d1, _) :: L).lookup d1 = _; rw [lookup_cons, if_pos rfl]) hte hde hc) hv fun a2 fr2 => h a2 (fr2.skip2 hf)
def rwsA (e : TypeId) (A : Option Addr) (c : Nat) (rs : List Rw) : Asn where
 holds := fun w B F => RowV w B e 1 (.slice A rs.length c) rs.length (rs.map rwV) ∧ (∀ r ∈ rs, vok (rwV r) = true) ∧ ∀ g, F g ↔ (Value.slice A rs.length c).ownBlock = some g
 keep := fun ⟨h1, h2, h3⟩ hc hF _ => ⟨h1.kept hc fun g hg => hF g ((h3 g).2 hg), h2, h3⟩
 dom := fun ⟨h1, _, h3⟩ g hg => h1.lt g ((h3 g).1 hg)
def empA : Asn where
 holds := fun _ _ F => ∀ g, ¬ F g
 keep := fun h _ _ _ => h
 dom := fun h g hg => absurd hg (h g)
def allA : List Asn → Asn
 | [] => empA
 | A :: L => sepA A (allA L)
theorem Sat.empA (S : Sat w0 w R) : Sat w0 w (empA :: R) := S.add (F := fun _ => False) (Below.refl _ _) (fun _ h => h) fun _ h => h.elim
def recsA (k : IntKind) (eo ei : TypeId) (A : Option Addr) (c : Nat) (ls : List (List Int)) : Asn :=
 exA fun rs : { rs : List Rw // rs.map (·.2.2) = ls } => sepA (rwsA eo A c rs.1) (allA (rs.1.reverse.map fun r => ownA k ei r.1 r.2.1 r.2.2))
theorem Sat.noRecs (k : IntKind) (eo ei : TypeId) (S : Sat w0 w R) : Sat w0 w (recsA k eo ei none 0 [] :: R) := by
 refine Sat.toEx (f := fun rs : { rs : List Rw // rs.map (·.2.2) = [] } => sepA (rwsA eo none 0 rs.1) (allA (rs.1.reverse.map fun r => ownA k ei r.1 r.2.1 r.2.2))) ⟨[], rfl⟩ (Sat.toSep ?_)
 exact S.empA.add (F := fun _ => False) (Below.refl _ _) ⟨RowV.nil w _ eo 1, fun r hr => (by cases hr), fun g => by simp [Value.ownBlock]⟩ fun _ h => h.elim
theorem one_cell_exec {t e : TypeId} (fr : FrD Df N a L) {o : Oper} {x : Operand} {v : Value} (ho : o.op = .buildSlice t 1 #[(0, x)]) (hx : ev L x = some v) (hv : v.cells = #[v]) (hu : P.underlying t = some (.slice e)) (hi : (P.info? e).map (fun i => (i.zero.isSome, i.size)) = some (true, 1)) :
  (execOp a.eval o).run P w = .ok (.value (.slice (some ⟨w.heap.size, 0, none⟩) 1 1)) (w.alloc (.cells #[v] e)) := by
 obtain ⟨ie, hie, hzz⟩ := Option.map_eq_some_iff.1 hi
 simp only [Prod.mk.injEq] at hzz
 obtain ⟨z, hz⟩ := Option.isSome_iff_exists.1 hzz.1
 have hf : Instr.fill (fun i => some (i * ie.size, ie.size)) ((Array.range (1 * ie.size)).map (z.cells[· % z.cells.size]!)) (#[(0, x)].map fun (i, x) => (i, a.eval x)).toList = some #[v] := by
  rw [hzz.2]
  simp only [List.map_toArray, List.map_cons, List.map_nil, (fr.ev hx).1]
  rw [fill_step _ _ 0 0 1 v [] (by simp) (by rw [hv]; rfl) (by simp), Instr.fill]
  congr 1
  rw [hv]
  apply Array.toList_inj.1
  unfold splice
  simp
 unfold execOp
 simp only [ho]
 rw [Sem.run_bind, run_buildSlice w t e 1 _ #[v] ie z hu hie hz (by rw [hzz.2]; omega) (by rw [hzz.2]; omega) hf, Result.andThen_ok]
 rfl
theorem rws_app_exec {t e : TypeId} {bytes : Nat} (ht : P.underlying t = some (.slice e)) (hinfo : (P.info? e).map (fun i => (i.zero.map (·.cells.size), i.size, i.bytes)) = some (some 1, 1, bytes)) (hby : bytes ≤ 64) (fr : FrD Df N a L) {o : Oper} {x y : Operand} {A : Option Addr} {ad : Addr} {n c cy : Nat} {rs : List Rw} {r : Rw}
  (ho : o.op = .call { callee := .builtin .append, args := #[x, y], argTypes := #[t, t] }) (hx : ev L x = some (.slice A n c)) (hn : n = rs.length) (hy : ev L y = some (.slice (some ad) 1 cy)) (hc : w.cell? ad = some (rwV r)) (hv : vok (rwV r) = true) (hb : rs.length ≤ 1000000000) (S : Sat w0 w (rwsA e A c rs :: R)) :
  ∃ A' c' w', (execOp a.eval o).run P w = .ok (.value (.slice A' (rs ++ [r]).length c')) w' ∧ vok (.slice A' (rs ++ [r]).length c') = true ∧ Sat w0 w' (rwsA e A' c' (rs ++ [r]) :: R) := by
 subst hn
 obtain ⟨F, ⟨h1, h2, h3⟩, hF, hk⟩ := S.opened
 obtain ⟨i, hi, hzz⟩ := Option.map_eq_some_iff.1 hinfo
 simp only [Prod.mk.injEq] at hzz
 obtain ⟨hz1, hsz, hbi⟩ := hzz
 obtain ⟨z0, hz, hzc⟩ := Option.map_eq_some_iff.1 hz1
 have hmul : (rs.length + 1) * bytes ≤ (rs.length + 1) * 64 := Nat.mul_le_mul_left _ hby
 obtain ⟨v', w', hr, g2, g3, _, g5⟩ := run_append_own_at (P := P) w w0.heap.size t o.type e i z0 1 bytes ht hi hz hsz hbi hzc Nat.one_pos (.slice A rs.length c) rs.length (rs.map rwV) h1 ad 1 cy [rwV r] rfl (fun j u hu => by
  cases j with
  | zero => injection hu with hu; subst hu; rw [show ad.add 0 = ad from by cases ad; rename_i b o s; unfold Addr.add; cases s <;> rfl]; exact hc
  | succ j => cases hu) (fun u hu => by rw [List.mem_singleton] at hu; subst hu; rfl) (by unfold maxLen; omega) (by omega) S.below.size
 have g2' : RowV w' w0.heap.size e 1 v' (rs.length + 1) (rs.map rwV ++ [rwV r]) := g2
 obtain ⟨A', c', rfl, h7, h8, _, _⟩ := g2'.slice
 have hl : (rs ++ [r]).length = rs.length + 1 := by simp
 rw [hl]
 refine ⟨A', c', w', ?_, vok_sl ⟨h7, h8⟩, ?_⟩
 ·unfold execOp
  simp only [ho, resolve]
  rw [Sem.run_bind, Sem.run_pure, Result.andThen_ok]
  simp only [invoke, builtin, List.map_toArray, List.map_cons, List.map_nil, (fr.ev hx).1, (fr.ev hy).1]
  rw [Sem.run_bind, hr]; rfl
 ·refine hk (A' := rwsA e A' c' (rs ++ [r])) (F' := fun g => (Value.slice A' (rs ++ [r]).length c').ownBlock = some g) ⟨by rw [hl, List.map_append]; exact g2', fun q hq => ?_, fun g => Iff.rfl⟩ (Chg.of_grown g3) (fun g _ hg => (h3 g).2 hg.symm) fun g hg => ?_
  ·rcases List.mem_append.1 hq with hq | hq
   ·exact h2 q hq
   ·rw [List.mem_singleton] at hq; subst hq; exact hv
  ·rw [hl] at hg
   rcases g5 with h | h
   ·rw [h] at hg; exact .inl ((h3 g).2 hg)
   ·rw [h] at hg; injection hg with hg; subst hg; exact .inr (Nat.le_refl _)
end
theorem append_two {P : Program} (w : World) (base : Nat) (t ty e : TypeId) (i : TypeInfo) (z : Value) (size bytes : Nat) (ht : P.underlying t = some (.slice e)) (hi : P.info? e = some i) (hz : i.zero = some z)
  (hsize : i.size = size) (hby : i.bytes = bytes) (hzs : z.cells.size = size) (hsz : 0 < size) (v : Value) (n : Nat) (xs : List Value) (hown : w.ownsRow base e size v n xs)
  (a : Addr) (m c : Nat) (news : List Value) (hl : news.length = m * size) (hnews : ∀ j u, news[j]? = some u → w.cell? (a.add j) = some u) (h1 : ∀ u ∈ news, u.oneCell' = true)
  (h63 : n + m ≤ maxLen) (hbytes : (n + m) * bytes ≤ 140737488355328) (hbase : base ≤ w.heap.size) :
  ∃ v' w', (Builtin.append_ #[t, t] ty #[v, .slice (some a) m c]).run P w = .ok v' w' ∧ w'.ownsRow base e size v' (n + m) (xs ++ news) ∧
   ((w.grownBy w' v.ownBlock ∧ v'.ownBlock = v.ownBlock) ∨ (w.grownBy w' none ∧ v'.ownBlock = some w.heap.size)) := by
 obtain ⟨v', w', hr, h2, h3, _, h5⟩ := run_append_own_at (P := P) w base t ty e i z size bytes ht hi hz hsize hby hzs hsz v n xs hown a m c news hl hnews h1 h63 hbytes hbase
 refine ⟨v', w', hr, h2, ?_⟩
 have hsmall : n + m ≤ 9223372036854775807 := by simp only [maxLen] at h63; omega
 rcases hown.2 with ⟨rfl, rfl⟩ | ⟨g, cap, cur, rfl, hbg, hg, hnc, hcm, hcs, htake⟩
 ·rcases h5 with h5 | h5
  ·exact .inl ⟨h3, h5⟩
  ·exact .inr ⟨h3, h5⟩
 ·by_cases hroom : n + m ≤ cap
  ·subst hsize
   have hfit : n * i.size + news.length ≤ cur.size := by rw [hl, hcs, ← Nat.add_mul]; exact Nat.mul_le_mul_right _ hroom
   have hr2 := run_append_room (P := P) w t ty e i ht hi g n cap cur hg a m c news hl hnews h1 hroom hfit
   rw [hr] at hr2
   injection hr2 with q1 q2
   exact .inl ⟨h3, by rw [q1]; rfl⟩
  ·subst hsize
   have holds : ∀ j u, xs[j]? = some u → w.cell? ((⟨g, 0, none⟩ : Addr).add j) = some u := hown.cells (g := g) rfl
   have hr2 := run_append_grow (P := P) w t ty e i z ht hi hz ⟨g, 0, none⟩ n cap xs hown.1 holds a m c news hl hnews (by omega) (by omega) (growslice_fits (by omega) (by rw [hby]; exact hbytes))
   rw [hr] at hr2
   injection hr2 with q1 q2
   refine .inr ⟨?_, by rw [q1]; rfl⟩
   rw [q2]
   exact ⟨rfl, rfl, rfl, by simp, fun k hk _ => Below.heap_alloc w.drew _ k hk⟩
def rvA (e z : Nat) (A : Option Addr) (c n : Nat) (xs : List Value) : Asn where
 holds := fun w B F => RowV w B e z (.slice A n c) n xs ∧ (∀ v ∈ xs, vok1 v = true) ∧ ∀ g, F g ↔ (Value.slice A n c).ownBlock = some g
 keep := fun ⟨h1, h2, h3⟩ hc hF _ => ⟨h1.kept hc fun g hg => hF g ((h3 g).2 hg), h2, h3⟩
 dom := fun ⟨h1, h2, h3⟩ g hg => h1.lt g ((h3 g).1 hg)
section
variable {P : Program} {T : Orc} {ops : Array Oper} {Q : Exit → Act → World → Prop} {S' : World → Prop} {Df : List Deferred} {N : Nat} {a : Act} {w w0 : World} {L : Env} {R : List Asn} {e z : Nat} {A A' : Option Addr} {c c' n n' : Nat} {xs ys : List Value}
theorem rv_nil (e z : Nat) (S : Sat w0 w R) : Sat w0 w (rvA e z none 0 0 [] :: R) :=
 S.add (F := fun _ => False) (Below.refl _ _) ⟨RowV.nil w _ e z, fun v hv => (by cases hv), fun g => by simp [Value.ownBlock]⟩ fun _ h => h.elim
theorem rv_facts (S : Sat w0 w (rvA e z A c n xs :: R)) : xs.length = n * z ∧ (n ≤ c ∧ c ≤ maxLen) ∧ (A = none → n = 0) ∧ (∀ v ∈ xs, vok1 v = true) ∧ ∀ ad, A = some ad → ∃ g, ad = ⟨g, 0, none⟩ ∧ w.rangeAt g 0 xs := by
 obtain ⟨F, ⟨h1, h2, h3⟩, _⟩ := S.hd.imp fun _ h => And.intro h trivial
 obtain ⟨A2, c2, he, q1, q2, q3, q4⟩ := h1.slice
 injection he with e1 e2 e3
 subst e1 e3
 exact ⟨h1.len, ⟨q1, q2⟩, q3, h2, fun ad he => by
  obtain ⟨g, r1, r2, r3, r4, r5⟩ := q4 ad he
  exact ⟨g, r1, r4⟩⟩
theorem Sat.rvAt {M : List Asn} (S : Sat w0 w M) (i : Nat) (hi : M[i]? = some (rvA e z A c n xs)) : xs.length = n * z ∧ (n ≤ c ∧ c ≤ maxLen) ∧ (A = none → n = 0) ∧ (∀ v ∈ xs, vok1 v = true) ∧ ∀ ad, A = some ad → ∃ g, ad = ⟨g, 0, none⟩ ∧ w.rangeAt g 0 xs := rv_facts (S.frontAt i hi)
theorem rv_app {t ty bytes : Nat} (ht : P.underlying t = some (.slice e)) (hinfo : (P.info? e).map (fun i => (i.zero.map (·.cells.size), i.size, i.bytes)) = some (some z, z, bytes)) (hz0 : 0 < z) (hby : bytes ≤ 128) (S : Sat w0 w (rvA e z A c n xs :: R))
  {ad : Addr} {cy : Nat} {news : List Value} (hl : news.length = z) (hc : ∀ j u, news[j]? = some u → w.cell? (ad.add j) = some u) (h1 : ∀ u ∈ news, u.oneCell' = true ∧ vok1 u = true) (hb : n ≤ 1000000000000) :
  ∃ A2 c2 w', (Builtin.append_ #[t, t] ty #[.slice A n c, .slice (some ad) 1 cy]).run P w = .ok (.slice A2 (n + 1) c2) w' ∧ (n + 1 ≤ c2 ∧ c2 ≤ maxLen) ∧ Sat w0 w' (rvA e z A2 c2 (n + 1) (xs ++ news) :: R) := by
 obtain ⟨F, ⟨g2, g3, g5⟩, hF, hk⟩ := S.opened
 obtain ⟨i, hi, hzz⟩ := Option.map_eq_some_iff.1 hinfo
 simp only [Prod.mk.injEq] at hzz
 obtain ⟨hz1, hsz, hbi⟩ := hzz
 obtain ⟨z0, hz, hzc⟩ := Option.map_eq_some_iff.1 hz1
 have hmul : (n + 1) * bytes ≤ (n + 1) * 128 := Nat.mul_le_mul_left _ hby
 obtain ⟨v', w', hr, k1, k2⟩ := append_two (P := P) w w0.heap.size t ty e i z0 z bytes ht hi hz hsz hbi hzc hz0 (.slice A n c) n xs g2 ad 1 cy news (by omega) hc (fun u hu => (h1 u hu).1) (by unfold maxLen; omega) (by omega) S.below.size
 have k1' : RowV w' w0.heap.size e z v' (n + 1) (xs ++ news) := k1
 obtain ⟨A2, c2, rfl, q1, q2, q3, q4⟩ := k1'.slice
 refine ⟨A2, c2, w', hr, ⟨q1, q2⟩, ?_⟩
 have hv : ∀ v ∈ xs ++ news, vok1 v = true := fun v hv => by
  rcases List.mem_append.1 hv with hv | hv
  ·exact g3 v hv
  ·exact (h1 v hv).2
 rcases k2 with ⟨k2, k3⟩ | ⟨k2, k3⟩
 ·exact hk (A' := rvA e z A2 c2 (n + 1) (xs ++ news)) (F' := F) ⟨k1', hv, fun g => by rw [g5 g, k3]⟩ (Chg.of_grown k2) (fun g _ hg => (g5 g).2 hg.symm) fun g hg => .inl hg
 ·refine hk (A' := rvA e z A2 c2 (n + 1) (xs ++ news)) (F' := fun g => (Value.slice A2 (n + 1) c2).ownBlock = some g) ⟨k1', hv, fun g => Iff.rfl⟩ (G := fun _ => False) ((Chg.of_grown k2).mono fun g _ h => by cases h) (fun g _ hg => hg.elim) fun g hg => ?_
  rw [k3] at hg
  injection hg with hg
  exact .inr (Nat.le_of_eq hg)
theorem app_op {t : TypeId} (fr : FrD Df N a L) {o : Oper} {x y : Operand} {v u v' : Value} {w' : World} (ho : o.op = .call { callee := .builtin .append, args := #[x, y], argTypes := #[t, t] }) (hx : ev L x = some v) (hy : ev L y = some u)
  (hr : (Builtin.append_ #[t, t] o.type #[v, u]).run P w = .ok v' w') : (execOp a.eval o).run P w = .ok (.value v') w' := by
 unfold execOp
 simp only [ho, resolve]
 rw [Sem.run_bind, Sem.run_pure, Result.andThen_ok]
 simp only [invoke, builtin, List.map_toArray, List.map_cons, List.map_nil, (fr.ev hx).1, (fr.ev hy).1]
 rw [Sem.run_bind, hr]; rfl
theorem vok_agg {cs : List Value} (h : ∀ v ∈ cs, vok1 v = true) : vok (.agg cs.toArray) = true := by
 simp only [vok, vokC, List.all_eq_true]
 exact h
end
section
variable {P : Program} {T : Orc} {ops : Array Oper} {Q : Exit → Act → World → Prop} {S' : World → Prop} {Df : List Deferred} {N : Nat} {a : Act} {w w0 : World} {L : Env} {R M : List Asn} {k : IntKind} {e : Nat}
theorem wl_allocg {o : Oper} {rest : List Oper} {t : TypeId} {d : Nat} {zs : List Value} (fr : FrD Df N a L) (hw : wantL ops L o = some true) (hd : o.dst = some d) (hlt : Nat.blt d N = true) (ho : o.op = .alloc t) (hz : ∀ W, (zeroValue t).run P W = .ok (.agg zs.toArray) W) (hok : zs.all vok = true) (S : Sat w0 w R)
  (h : ∀ w' b, Sat w0 w' (stA t b zs :: R) → ∀ a', FrD Df N a' ((d, .pointer (some ⟨b, 0, none⟩)) :: L) → wpList P ops Q rest a' w') : wpList P ops Q (o :: rest) a w := by
 refine wl_val (v := .pointer (some ⟨w.heap.size, 0, none⟩)) (w' := w.alloc (.cells zs.toArray t)) fr hw hd hlt ?_ rfl (h _ _ ?_)
 ·unfold execOp
  simp only [ho, Instr.alloc]
  rw [Sem.run_bind, Sem.run_bind, hz, Result.andThen_ok]
  rfl
 ·exact S.add (F := fun g => g = w.heap.size) ((Below.refl _ _).alloc (Nat.le_refl _) _) ⟨heap_alloc_new _ _, hok, S.below.size, fun g => Iff.rfl⟩ fun g hg => Nat.le_of_eq hg.symm
theorem wl_stg (hT : T.Ok P) {o : Oper} {rest : List Oper} {te : TypeId} {p v : Operand} {b e' : Nat} {cs vs : List Value} (fr : FrD Df N a L) (hw : wantL ops L o = some true) (hd : o.dst = none) (ho : o.op = .store te p v) (hp : ev L p = some (.pointer (some ⟨b, 0, none⟩))) (hv : ev L v = some (.agg vs.toArray)) (hs : T.sz.lookup te = some vs.length)
  (hl : cs.length = vs.length) (h1 : vs.all (fun v => v.oneCell' && vok v) = true) (S : Sat w0 w (stA e' b cs :: R)) (h : ∀ w', Sat w0 w' (stA e' b vs :: R) → wpList P ops Q rest a w') : wpList P ops Q (o :: rest) a w := by
 obtain ⟨F, ⟨g1, g2, g4, g5⟩, hF, hk⟩ := S.opened
 rw [List.all_eq_true] at h1
 have hst := run_storeCells_cells (P := P) b 0 vs 0 w (fun j hj => by
  rw [cell_of_row _ _ _ _ _ _ g1]
  simp
  omega) (fun j hj => frozen_of_row w b _ _ _ g1) (fun u hu => by have := h1 u hu; simp at this; exact this.1)
 have hheap := heap_setCells b vs 0 w cs.toArray e' g1 (by simp; omega)
 refine wl_skip (w' := w.setCells b 0 vs) fr hw hd ?_ (h _ ?_)
 ·unfold execOp
  simp only [ho, (fr.ev hp).1, (fr.ev hv).1, Instr.storeAt, Instr.sureAddr, storeVar, Value.cells]
  simp [size_run hT hs]
  have hst' : (storeCells (⟨b, 0, none⟩ : Addr) vs).run P w = .ok () (w.setCells b 0 vs) := by simpa using hst
  rw [hst']
  rfl
 ·refine hk (A' := stA e' b vs) (F' := F) (G := fun g => g = b) ⟨?_, ?_, g4, g5⟩ (chg_setCells b vs 0 w) (fun g _ hg => (g5 g).2 hg) fun g hg => .inl hg
  ·rw [hheap]
   congr 2
   apply Array.toList_inj.1
   simp [splice, hl]
  ·rw [List.all_eq_true]
   intro u hu
   have := h1 u hu
   simp at this
   exact this.2
theorem sl_build {s : SOp} {rest : List Itm} {t : TypeId} {ps : Array (Nat × Operand)} {d : Nat} {L2 : List (Nat × Value)} {cs : List Value} (fr : FrD Df N a L) (hw : wantS L s = some true) (hq : s.q = true) (hd : s.dst = some d) (hlt : Nat.blt d N = true) (ho : s.op = .build t ps) (hp : (ps.map fun (i, x) => (i, a.eval x)).toList = L2) (hb : P.built t L2 = some cs.toArray) (hv : vok (.agg cs.toArray) = true)
  (h : ∀ a', FrD Df N a' ((d, .agg cs.toArray) :: L) → SL P Q S' rest a' w) : SL P Q S' (.one s :: rest) a w := by
 refine sl_q (v := .agg cs.toArray) fr hw hq hd hlt (fun w' _ => ?_) hv h
 unfold execOp
 simp only [SOp.oper, ho]
 rw [Sem.run_bind, run_build w' t _ cs.toArray (by rw [hp]; exact hb)]; rfl
theorem lit1_exec {t z : Nat} (hu : P.underlying t = some (.slice e)) (hi : (P.info? e).map (fun i => (i.zero.isSome, i.size)) = some (true, z)) (h0 : (Nat.blt 0 z && Nat.ble z 1000) = true) (fr : FrD Df N a L) {o : Oper} {x : Operand} {cs : List Value} (ho : o.op = .buildSlice t 1 #[(0, x)]) (hx : ev L x = some (.agg cs.toArray)) (hl : cs.length = z) (hv : cs.all vok1 = true) (S : Sat w0 w R) :
  ∃ A c w', (execOp a.eval o).run P w = .ok (.value (.slice A 1 c)) w' ∧ vok (.slice A 1 c) = true ∧ Sat w0 w' (rvA e z A c 1 cs :: R) := by
 simp only [Bool.and_eq_true, Nat.ble_eq] at h0
 have h0' := blt_lt h0.1
 refine ⟨some ⟨w.heap.size, 0, none⟩, 1, w.alloc (.cells cs.toArray e), ?_, vok_sl ⟨Nat.le_refl _, by unfold maxLen; omega⟩, ?_⟩
 ·have h := exec_one_slice (P := P) (a := a) (w := w) (N := o.dst) (tt := o.type) t e x cs.toArray z (fr.ev hx).1 (by simpa using hl) hu hi h0' (by omega)
  unfold execOp at h ⊢
  simp only [ho] at h ⊢
  exact h
 ·have hm := RowV.made w e z 1 cs.toArray S.below.size (by simp [hl]) (by unfold maxLen; omega)
  rw [List.all_eq_true] at hv
  exact S.add (F := fun g => (Value.slice (some ⟨w.heap.size, 0, none⟩) 1 1).ownBlock = some g) ((Below.refl _ _).alloc (Nat.le_refl _) _) ⟨hm, hv, fun g => Iff.rfl⟩ fun g hg => by
   have : w.heap.size = g := by simpa [Value.ownBlock] using hg
   omega
theorem sl_lit1 {t z : Nat} (hu : P.underlying t = some (.slice e)) (hi : (P.info? e).map (fun i => (i.zero.isSome, i.size)) = some (true, z)) (h0 : (Nat.blt 0 z && Nat.ble z 1000) = true) {s : SOp} {rest : List Itm} {d : Nat} {x : Operand} {cs : List Value} (fr : FrD Df N a L) (hw : wantS L s = some true) (hq : s.q = false) (hd : s.dst = some d) (hlt : Nat.blt d N = true)
  (ho : s.op = .buildSlice t 1 #[(0, x)]) (hx : ev L x = some (.agg cs.toArray)) (hl : cs.length = z) (hv : cs.all vok1 = true) (S : Sat w0 w R) (h : ∀ w' A c, Sat w0 w' (rvA e z A c 1 cs :: R) → S' w' ∧ ∀ a', FrD Df N a' ((d, .slice A 1 c) :: L) → SL P Q S' rest a' w') : SL P Q S' (.one s :: rest) a w := by
 obtain ⟨A, c, w', h1, h2, h3⟩ := lit1_exec (P := P) hu hi h0 fr (o := s.oper) ho hx hl hv S
 exact sl_val fr hw hq hd hlt h1 (h w' A c h3).1 h2 (h w' A c h3).2
theorem wl_lit1 {t z : Nat} (hu : P.underlying t = some (.slice e)) (hi : (P.info? e).map (fun i => (i.zero.isSome, i.size)) = some (true, z)) (h0 : (Nat.blt 0 z && Nat.ble z 1000) = true) {o : Oper} {rest : List Oper} {d : Nat} {x : Operand} {cs : List Value} (fr : FrD Df N a L) (hw : wantL ops L o = some true) (hd : o.dst = some d) (hlt : Nat.blt d N = true)
  (ho : o.op = .buildSlice t 1 #[(0, x)]) (hx : ev L x = some (.agg cs.toArray)) (hl : cs.length = z) (hv : cs.all vok1 = true) (S : Sat w0 w R) (h : ∀ w' A c, Sat w0 w' (rvA e z A c 1 cs :: R) → ∀ a', FrD Df N a' ((d, .slice A 1 c) :: L) → wpList P ops Q rest a' w') : wpList P ops Q (o :: rest) a w := by
 obtain ⟨A, c, w', h1, h2, h3⟩ := lit1_exec (P := P) hu hi h0 fr ho hx hl hv S
 exact wl_val fr hw hd hlt h1 h2 (h w' A c h3)
theorem rvapp_exec {t z bytes : Nat} (ht : P.underlying t = some (.slice e)) (hinfo : (P.info? e).map (fun i => (i.zero.map (·.cells.size), i.size, i.bytes)) = some (some z, z, bytes)) (hz0 : Nat.blt 0 z = true) (hby : Nat.ble bytes 128 = true) (fr : FrD Df N a L) {o : Oper} {x y : Operand} {A Y : Option Addr} {n c cy : Nat} {xs news : List Value}
  (ho : o.op = .call { callee := .builtin .append, args := #[x, y], argTypes := #[t, t] }) (hx : ev L x = some (.slice A n c)) (hy : ev L y = some (.slice Y 1 cy)) (h1 : news.all (fun u => u.oneCell') = true) (hb : n ≤ 1000000000000) (S : Sat w0 w (rvA e z Y cy 1 news :: rvA e z A c n xs :: R)) :
  ∃ A2 c2 w', (execOp a.eval o).run P w = .ok (.value (.slice A2 (n + 1) c2)) w' ∧ vok (.slice A2 (n + 1) c2) = true ∧ Sat w0 w' (rvA e z A2 c2 (n + 1) (xs ++ news) :: R) := by
 obtain ⟨q1, q2, q3, q4, q5⟩ := rv_facts S
 cases Y with
 | none => have := q3 rfl; omega
 | some ad =>
  obtain ⟨g, rfl, hr⟩ := q5 ad rfl
  rw [List.all_eq_true] at h1
  obtain ⟨A2, c2, w', r1, r2, r3⟩ := rv_app (P := P) (ty := o.type) (ad := ⟨g, 0, none⟩) (cy := cy) ht hinfo (blt_lt hz0) (Nat.le_of_ble_eq_true hby) S.tl (by omega) (fun j u hu => by rw [addr0]; have := hr j u hu; rwa [Nat.zero_add] at this) (fun u hu => ⟨h1 u hu, q4 u hu⟩) hb
  exact ⟨A2, c2, w', app_op fr ho hx hy r1, vok_sl r2, r3⟩
theorem sl_rvapp {t z bytes : Nat} (ht : P.underlying t = some (.slice e)) (hinfo : (P.info? e).map (fun i => (i.zero.map (·.cells.size), i.size, i.bytes)) = some (some z, z, bytes)) (hz0 : Nat.blt 0 z = true) (hby : Nat.ble bytes 128 = true) {s : SOp} {rest : List Itm} {d : Nat} {x y : Operand} {A Y : Option Addr} {n c cy : Nat} {xs news : List Value} (fr : FrD Df N a L) (hw : wantS L s = some true) (hq : s.q = false) (hd : s.dst = some d) (hlt : Nat.blt d N = true)
  (ho : s.op = .call { callee := .builtin .append, args := #[x, y], argTypes := #[t, t] }) (hx : ev L x = some (.slice A n c)) (hy : ev L y = some (.slice Y 1 cy)) (h1 : news.all (fun u => u.oneCell') = true) (hb : n ≤ 1000000000000) (S : Sat w0 w (rvA e z Y cy 1 news :: rvA e z A c n xs :: R))
  (h : ∀ w' A2 c2, Sat w0 w' (rvA e z A2 c2 (n + 1) (xs ++ news) :: R) → S' w' ∧ ∀ a', FrD Df N a' ((d, .slice A2 (n + 1) c2) :: L) → SL P Q S' rest a' w') : SL P Q S' (.one s :: rest) a w := by
 obtain ⟨A2, c2, w', r1, r2, r3⟩ := rvapp_exec (P := P) ht hinfo hz0 hby fr (o := s.oper) ho hx hy h1 hb S
 exact sl_val fr hw hq hd hlt r1 (h w' A2 c2 r3).1 r2 (h w' A2 c2 r3).2
theorem wl_rvapp {t z bytes : Nat} (ht : P.underlying t = some (.slice e)) (hinfo : (P.info? e).map (fun i => (i.zero.map (·.cells.size), i.size, i.bytes)) = some (some z, z, bytes)) (hz0 : Nat.blt 0 z = true) (hby : Nat.ble bytes 128 = true) {o : Oper} {rest : List Oper} {d : Nat} {x y : Operand} {A Y : Option Addr} {n c cy : Nat} {xs news : List Value} (fr : FrD Df N a L) (hw : wantL ops L o = some true) (hd : o.dst = some d) (hlt : Nat.blt d N = true)
  (ho : o.op = .call { callee := .builtin .append, args := #[x, y], argTypes := #[t, t] }) (hx : ev L x = some (.slice A n c)) (hy : ev L y = some (.slice Y 1 cy)) (h1 : news.all (fun u => u.oneCell') = true) (hb : n ≤ 1000000000000) (S : Sat w0 w (rvA e z Y cy 1 news :: rvA e z A c n xs :: R))
  (h : ∀ w' A2 c2, Sat w0 w' (rvA e z A2 c2 (n + 1) (xs ++ news) :: R) → ∀ a', FrD Df N a' ((d, .slice A2 (n + 1) c2) :: L) → wpList P ops Q rest a' w') : wpList P ops Q (o :: rest) a w := by
 obtain ⟨A2, c2, w', r1, r2, r3⟩ := rvapp_exec (P := P) ht hinfo hz0 hby fr ho hx hy h1 hb S
 exact wl_val fr hw hd hlt r1 r2 (h w' A2 c2 r3)
end
structure Hd where
 A : Option Addr
 c : Nat
 l : List Int
 g : Option (Option Addr × Nat × List Int)
 k : Int
section
variable {w w0 : World} {R M X : List Asn} {k : IntKind} {e eo c : Nat} {A : Option Addr} {hs : List Hd} {i : Nat}
theorem erase_parts {α : Type} (hs : List α) (hi : i < hs.length) (x : α) : hs = hs.take i ++ hs[i] :: hs.drop (i + 1) ∧ hs.eraseIdx i = hs.take i ++ hs.drop (i + 1) ∧ hs.set i x = hs.take i ++ x :: hs.drop (i + 1) :=
 ⟨by rw [List.getElem_cons_drop]; exact (List.take_append_drop i hs).symm, List.eraseIdx_eq_take_drop_succ hs i, List.set_eq_take_append_cons_drop.trans (by rw [if_pos hi])⟩
end
theorem i64_next {i n : Nat} (h : i < n) (hn : n ≤ 9223372036854775807) : IntKind.wrap .i64 ((i : Int) + 1) = ((i + 1 : Nat) : Int) := by rw [show IntKind.wrap .i64 ((i : Int) + 1) = (i : Int) + 1 from IntWalk.i64_in _ ⟨by omega, by omega⟩]; omega
section
variable {α : Type} {f : α → α} {l : List α} {i : Nat}
end
section
variable {α : Type} {f : α → List Value} {z : Nat}
theorem el_len (hf : ∀ x, (f x).length = z) (l : List α) : (l.flatMap f).length = l.length * z := by
 induction l with
 | nil => simp
 | cons x l ih => rw [List.flatMap_cons, List.length_append, hf, ih, List.length_cons, Nat.add_mul, Nat.one_mul, Nat.add_comm]
theorem el_get (hf : ∀ x, (f x).length = z) : ∀ (l : List α) (i j : Nat) (u : Value) (hi : i < l.length), (f l[i])[j]? = some u → (l.flatMap f)[i * z + j]? = some u := by
 intro l
 induction l with
 | nil => intro i j u hi; exact absurd hi (Nat.not_lt_zero _)
 | cons x l ih =>
  intro i j u hi hu
  rw [List.flatMap_cons]
  cases i with
  | zero =>
   have hj := (List.getElem?_eq_some_iff.1 hu).1
   rw [List.getElem?_append_left (by simpa using hj), Nat.zero_mul, Nat.zero_add]
   exact hu
  | succ i =>
   have h1 := hf x
   rw [List.getElem?_append_right (by rw [h1, Nat.add_mul]; omega), h1, show (i + 1) * z + j - z = i * z + j by rw [Nat.add_mul]; omega]
   exact ih i j u (by simpa using hi) hu
theorem el_drop (hf : ∀ x, (f x).length = z) : ∀ (l : List α) (k : Nat), (l.drop k).flatMap f = (l.flatMap f).drop (k * z) := by
 intro l
 induction l with
 | nil => intro k; simp
 | cons x l ih =>
  intro k
  cases k with
  | zero => simp
  | succ k => rw [List.drop_succ_cons, List.flatMap_cons, ih, Nat.add_mul, Nat.one_mul, Nat.add_comm, ← hf x, List.drop_length_add_append]
theorem el_snoc (l : List α) (x : α) : (l ++ [x]).flatMap f = l.flatMap f ++ f x := by simp
end
section
variable {P : Program} {T : Orc} {ops : Array Oper} {Q : Exit → Act → World → Prop} {S' : World → Prop} {Df : List Deferred} {N : Nat} {a : Act} {w w0 : World} {L : Env} {R M : List Asn} {e z : Nat} {A : Option Addr} {c n : Nat} {xs : List Value}
theorem rv_append_none {P : Program} (w : World) {t ty : Nat} (ht : P.underlying t = some (.slice e)) {bytes : Nat} (hinfo : (P.info? e).map (fun i => (i.zero.map (·.cells.size), i.size, i.bytes)) = some (some z, z, bytes)) (A : Option Addr) (n c cy : Nat) (hn : n ≤ c) :
  (Builtin.append_ #[t, t] ty #[.slice A n c, .slice none 0 cy]).run P w = .ok (.slice A n c) w := by
 obtain ⟨i, hi, hzz⟩ := Option.map_eq_some_iff.1 hinfo
 simp only [Builtin.append_, Sem.run_bind, run_underlying ht, Result.andThen_ok]
 simp [sizeOf, typeInfo, hi, Builtin.lenOf, hn, Builtin.firstCells, run_underlying ht]
 cases A <;> simp [storeCells]
theorem rv_appm {t ty bytes m : Nat} (ht : P.underlying t = some (.slice e)) (hinfo : (P.info? e).map (fun i => (i.zero.map (·.cells.size), i.size, i.bytes)) = some (some z, z, bytes)) (hz0 : 0 < z) (hby : bytes ≤ 128) (S : Sat w0 w (rvA e z A c n xs :: R))
  {Y : Option Addr} {cy : Nat} {news : List Value} (hl : news.length = m * z) (hY : Y = none → m = 0) (hc : ∀ ad, Y = some ad → ∀ j u, news[j]? = some u → w.cell? (ad.add j) = some u) (h1 : ∀ u ∈ news, u.oneCell' = true ∧ vok1 u = true) (hb : n + m ≤ 1000000000000) :
  ∃ A2 c2 w', (Builtin.append_ #[t, t] ty #[.slice A n c, .slice Y m cy]).run P w = .ok (.slice A2 (n + m) c2) w' ∧ (n + m ≤ c2 ∧ c2 ≤ maxLen) ∧ Sat w0 w' (rvA e z A2 c2 (n + m) (xs ++ news) :: R) := by
 cases Y with
 | none =>
  have hm := hY rfl
  subst hm
  have hn : news = [] := List.eq_nil_of_length_eq_zero (by simpa using hl)
  subst hn
  obtain ⟨-, h2, -⟩ := rv_facts S
  exact ⟨A, c, w, rv_append_none w ht hinfo A n c cy h2.1, h2, by rw [List.append_nil]; exact S⟩
 | some ad =>
  obtain ⟨F, ⟨g2, g3, g5⟩, hF, hk⟩ := S.opened
  obtain ⟨i, hi, hzz⟩ := Option.map_eq_some_iff.1 hinfo
  simp only [Prod.mk.injEq] at hzz
  obtain ⟨hz1, hsz, hbi⟩ := hzz
  obtain ⟨z0, hz, hzc⟩ := Option.map_eq_some_iff.1 hz1
  have hmul : (n + m) * bytes ≤ (n + m) * 128 := Nat.mul_le_mul_left _ hby
  obtain ⟨v', w', hr, k1, k2⟩ := append_two (P := P) w w0.heap.size t ty e i z0 z bytes ht hi hz hsz hbi hzc hz0 (.slice A n c) n xs g2 ad m cy news hl (hc ad rfl) (fun u hu => (h1 u hu).1) (by unfold maxLen; omega) (by omega) S.below.size
  have k1' : RowV w' w0.heap.size e z v' (n + m) (xs ++ news) := k1
  obtain ⟨A2, c2, rfl, q1, q2, q3, q4⟩ := k1'.slice
  refine ⟨A2, c2, w', hr, ⟨q1, q2⟩, ?_⟩
  have hv : ∀ v ∈ xs ++ news, vok1 v = true := fun v hv => by
   rcases List.mem_append.1 hv with hv | hv
   ·exact g3 v hv
   ·exact (h1 v hv).2
  rcases k2 with ⟨k2, k3⟩ | ⟨k2, k3⟩
  ·exact hk (A' := rvA e z A2 c2 (n + m) (xs ++ news)) (F' := F) ⟨k1', hv, fun g => by rw [g5 g, k3]⟩ (Chg.of_grown k2) (fun g _ hg => (g5 g).2 hg.symm) fun g hg => .inl hg
  ·refine hk (A' := rvA e z A2 c2 (n + m) (xs ++ news)) (F' := fun g => (Value.slice A2 (n + m) c2).ownBlock = some g) ⟨k1', hv, fun g => Iff.rfl⟩ (G := fun _ => False) ((Chg.of_grown k2).mono fun g _ h => by cases h) (fun g _ hg => hg.elim) fun g hg => ?_
   rw [k3] at hg
   injection hg with hg
   exact .inr (Nat.le_of_eq hg)
theorem wl_rvappm {t bytes m : Nat} (ht : P.underlying t = some (.slice e)) (hinfo : (P.info? e).map (fun i => (i.zero.map (·.cells.size), i.size, i.bytes)) = some (some z, z, bytes)) (hz0 : Nat.blt 0 z = true) (hby : Nat.ble bytes 128 = true) {o : Oper} {rest : List Oper} {d : Nat} {x y : Operand} {Y : Option Addr} {cy : Nat} {news : List Value} (fr : FrD Df N a L) (hw : wantL ops L o = some true) (hd : o.dst = some d) (hlt : Nat.blt d N = true)
  (ho : o.op = .call { callee := .builtin .append, args := #[x, y], argTypes := #[t, t] }) (hx : ev L x = some (.slice A n c)) (hy : ev L y = some (.slice Y m cy)) (hl : news.length = m * z) (hY : Y = none → m = 0) (hc : ∀ ad, Y = some ad → ∀ j u, news[j]? = some u → w.cell? (ad.add j) = some u) (h1 : ∀ u ∈ news, u.oneCell' = true ∧ vok1 u = true) (hb : n + m ≤ 1000000000000) (S : Sat w0 w (rvA e z A c n xs :: R))
  (h : ∀ w' A2 c2, Sat w0 w' (rvA e z A2 c2 (n + m) (xs ++ news) :: R) → ∀ a', FrD Df N a' ((d, .slice A2 (n + m) c2) :: L) → wpList P ops Q rest a' w') : wpList P ops Q (o :: rest) a w := by
 obtain ⟨A2, c2, w', r1, r2, r3⟩ := rv_appm (P := P) (ty := o.type) (cy := cy) ht hinfo (blt_lt hz0) (Nat.le_of_ble_eq_true hby) S hl hY hc h1 hb
 exact wl_val fr hw hd hlt (app_op fr ho hx hy r1) (vok_sl r2) (h w' A2 c2 r3)
theorem wl_takev (hT : T.Ok P) {o : Oper} {rest : List Oper} {t s : TypeId} {x y : Operand} {d : Nat} {ki : IntKind} {i : Nat} (fr : FrD Df N a L) (hw : wantL ops L o = some true) (ho : o.op = .slice t x none (some y) none) (hd : o.dst = some d) (hlt : Nat.blt d N = true)
  (hx : ev L x = some (.slice A n c)) (hy : ev L y = some (.int ki (i : Int))) (ht : T.ty.lookup t = some (.slice e)) (hs : T.sz.lookup e = some s) (hb : i ≤ n)
  (h : ∀ a', FrD Df N a' ((d, .slice A i c) :: L) → wpList P ops Q rest a' w) : wpList P ops Q (o :: rest) a w := by
 have hv : n ≤ c ∧ c ≤ maxLen := by simpa [vok, vokC, vok1] using (fr.ev hx).2
 have h1 := take_run hT fr ho hx hy ht hs ⟨by omega, by omega⟩ w
 rw [Int.toNat_natCast] at h1
 exact wl_val fr hw hd hlt h1 (vok_sl ⟨by omega, hv.2⟩) h
end
end Go.Proofs.YticnjkdaccacaaaGreat.Sx
end
section
namespace Go.Proofs.YticnjkdaccacaaaGreat.Sx
open Go Go.RowKit Base Oq
section
variable {P : Program} {T : Orc} {ops : Array Oper} {Q : Exit → Act → World → Prop} {S' : World → Prop} {Df : List Deferred} {N : Nat} {a : Act} {w w0 : World} {L : Env} {R : List Asn}
theorem ldagg_at (hT : T.Ok P) (fr : FrD Df N a L) {o : Oper} {t : TypeId} {x : Operand} (ho : o.op = .load t x) {ad : Addr} {cs : List Value} {d : TypeDesc} (hx : ev L x = some (.pointer (some ad))) (ht : T.ty.lookup t = some d) (hd : aggD d = true) (hs : T.sz.lookup t = some cs.length)
  (hc : ∀ j u, cs[j]? = some u → w.cell? (ad.add j) = some u) : (execOp a.eval o).run P w = .ok (.value (.agg cs.toArray)) w := by
 have hld := run_loadCells_list (P := P) w ad cs hc
 unfold execOp
 simp only [ho, (fr.ev hx).1, Instr.loadAt, Instr.sureAddr, loadVar]
 simp [isAgg_run (hT.und ht), hd, size_run hT hs, hld]
theorem vok_agl {cs : List Value} (h : ∀ v ∈ cs, vok1 v = true) : vok (.agg cs.toArray) = true := by
 simp only [vok, vokC, List.all_eq_true]
 exact h
theorem wl_ldrs (hT : T.Ok P) {o1 o2 : Oper} {rest : List Oper} {t te : TypeId} {x ix : Operand} {d1 d2 : Nat} {n c e z : Nat} {A : Option Addr} {ki : IntKind} {i : Int} {de : TypeDesc} {cs : List Value}
  (hr : ∃ ad, A = some ad ∧ ∀ j u, cs[j]? = some u → w.cell? (ad.add (i.toNat * z + j)) = some u) (hv : vok (.agg cs.toArray) = true) (fr : FrD Df N a L) (hw : wantL ops L o1 = some true) (ho1 : o1.op = .indexAddr t x ix) (hd1 : o1.dst = some d1) (hw2 : wantL ops L o2 = some true) (ho2 : o2.op = .load te (.tmp d1)) (hd2 : o2.dst = some d2) (hl1 : Nat.blt d1 N = true) (hl2 : Nat.blt d2 N = true)
  (hx : ev L x = some (.slice A n c)) (hi : ev L ix = some (.int ki i)) (ht : T.ty.lookup t = some (.slice e)) (hs : T.sz.lookup e = some z) (hte : T.ty.lookup te = some de) (hde : aggD de = true) (hse : T.sz.lookup te = some cs.length) (hf : L.lookup d1 = none) (hb : 0 ≤ i ∧ i < (n : Int))
  (h : ∀ a', FrD Df N a' ((d2, .agg cs.toArray) :: L) → wpList P ops Q rest a' w) : wpList P ops Q (o1 :: o2 :: rest) a w := by
 obtain ⟨ad, rfl, hc⟩ := hr
 refine wl_val fr hw hd1 hl1 (indexAddr_run hT fr ho1 hx hi ht hs hb.1 hb.2 w) rfl fun a1 fr1 => ?_
 exact wl_val fr1 (want_skip hw2 hf) hd2 hl2 (ldagg_at hT fr1 ho2 (by show ((d1, _) :: L).lookup d1 = _; rw [lookup_cons, if_pos rfl]) hte hde hse (fun j u hu => by rw [add_add]; exact hc j u hu)) hv fun a2 fr2 => h a2 (fr2.skip2 hf)
end
section
variable {P : Program} {T : Orc} {ops : Array Oper} {Q : Exit → Act → World → Prop} {S' : World → Prop} {Df : List Deferred} {N : Nat} {a : Act} {w w0 : World} {L : Env} {R M : List Asn}
theorem cw_at {c : Code} {K : Act → World → Prop} (M : Act → World → Prop) (hx : c.wp P (Exit.then M Q) a w) (hy : ∀ a w, M a w → K a w) : c.wp P (Exit.then K Q) a w :=
 wp_mono hx fun e a w h => by cases e <;> first | exact hy _ _ h | exact h
theorem Sat.stRng {e b : Nat} {cs : List Value} (S : Sat w0 w M) (i : Nat) (hi : M[i]? = some (stA e b cs)) (o m : Nat) {A : Addr} (hA : A = (⟨b, 0, none⟩ : Addr).add o) : ∀ j u, ((cs.drop o).take m)[j]? = some u → w.cell? (A.add j) = some u := by
 intro j u hu
 subst hA
 rw [List.getElem?_take] at hu
 split at hu
 ·rw [List.getElem?_drop] at hu
  rw [add_add]
  exact (S.stAt i hi hu).1
 ·cases hu
theorem wl_ldsub (hT : T.Ok P) {o : Oper} {rest : List Oper} {t : TypeId} {x : Operand} {d : Nat} {ad : Addr} {cs : List Value} {dd : TypeDesc} (hc : ∀ j u, cs[j]? = some u → w.cell? (ad.add j) = some u) (hv : cs.all vok1 = true) (fr : FrD Df N a L) (hw : wantL ops L o = some true) (ho : o.op = .load t x) (hd : o.dst = some d) (hlt : Nat.blt d N = true)
  (hx : ev L x = some (.pointer (some ad))) (ht : T.ty.lookup t = some dd) (hdd : aggD dd = true) (hs : T.sz.lookup t = some cs.length) (h : ∀ a', FrD Df N a' ((d, .agg cs.toArray) :: L) → wpList P ops Q rest a' w) : wpList P ops Q (o :: rest) a w :=
 wl_val fr hw hd hlt (ldagg_at hT fr ho hx ht hdd hs hc) hv h
theorem sl_ldsub (hT : T.Ok P) {s : SOp} {rest : List Itm} {t : TypeId} {x : Operand} {d : Nat} {ad : Addr} {cs : List Value} {dd : TypeDesc} (hc : ∀ w, S' w → ∀ j u, cs[j]? = some u → w.cell? (ad.add j) = some u) (hv : cs.all vok1 = true) (fr : FrD Df N a L) (hw : wantS L s = some true) (hq : s.q = true) (ho : s.op = .load t x) (hd : s.dst = some d) (hlt : Nat.blt d N = true)
  (hx : ev L x = some (.pointer (some ad))) (ht : T.ty.lookup t = some dd) (hdd : aggD dd = true) (hs : T.sz.lookup t = some cs.length) (h : ∀ a', FrD Df N a' ((d, .agg cs.toArray) :: L) → SL P Q S' rest a' w) : SL P Q S' (.one s :: rest) a w :=
 sl_q fr hw hq hd hlt (fun w' hS => ldagg_at hT fr (o := s.oper) ho hx ht hdd hs (hc w' hS)) hv h
theorem ret1c (hT : T.Ok P) {fn : Func} {E : Ending → World → Prop} {t ty : Nat} {ad : Addr} {cs : List Value} {dd : TypeDesc} (fr : Fr N a L) (hres : fn.results = #[.cell t ty]) (hx : L.lookup t = some (.pointer (some ad))) (ht : T.ty.lookup ty = some dd) (hdd : aggD dd = true) (hs : T.sz.lookup ty = some cs.length)
  (hc : ∀ j u, cs[j]? = some u → w.cell? (ad.add j) = some u) (hE : E (.returned (.agg cs.toArray)) w) : bodyPost P fn E .ret a w :=
 bodyPost_ret (v := .agg cs.toArray) (by
  have hld := run_loadCells_list (P := P) w ad cs hc
  have e : a.tmps[t]?.getD undef = .pointer (some ad) := by rw [(fr.get _ _ hx).1]; rfl
  simp [results, hres, e, asAddr, loadVar, isAgg_run (hT.und ht), hdd, size_run hT hs, hld]) fr.defers hE
theorem wl_ixa (hT : T.Ok P) {o : Oper} {rest : List Oper} {t : TypeId} {x ix : Operand} {d n e s : Nat} {A : Addr} {ki : IntKind} {i : Int} (fr : FrD Df N a L) (hw : wantL ops L o = some true) (ho : o.op = .indexAddr t x ix) (hd : o.dst = some d) (hlt : Nat.blt d N = true) (hx : ev L x = some (.pointer (some A))) (hi : ev L ix = some (.int ki i))
  (ht : T.ty.lookup t = some (.array n e)) (hs : T.sz.lookup e = some s) (hb : 0 ≤ i ∧ i < (n : Int)) (h : ∀ a', FrD Df N a' ((d, .pointer (some (A.add (i.toNat * s)))) :: L) → wpList P ops Q rest a' w) : wpList P ops Q (o :: rest) a w :=
 wl_val fr hw hd hlt (indexArr_run hT fr ho hx hi ht hs hb.1 hb.2 w) rfl h
theorem sl_ixa (hT : T.Ok P) {s : SOp} {rest : List Itm} {t : TypeId} {x ix : Operand} {d n e z : Nat} {A : Addr} {ki : IntKind} {i : Int} (fr : FrD Df N a L) (hw : wantS L s = some true) (hq : s.q = true) (ho : s.op = .indexAddr t x ix) (hd : s.dst = some d) (hlt : Nat.blt d N = true) (hx : ev L x = some (.pointer (some A))) (hi : ev L ix = some (.int ki i))
  (ht : T.ty.lookup t = some (.array n e)) (hs : T.sz.lookup e = some z) (hb : 0 ≤ i ∧ i < (n : Int)) (h : ∀ a', FrD Df N a' ((d, .pointer (some (A.add (i.toNat * z)))) :: L) → SL P Q S' rest a' w) : SL P Q S' (.one s :: rest) a w :=
 sl_q fr hw hq hd hlt (fun w' _ => indexArr_run hT fr (o := s.oper) ho hx hi ht hs hb.1 hb.2 w') rfl h
theorem wl_ixs2 (hT : T.Ok P) {o : Oper} {rest : List Oper} {t : TypeId} {x ix : Operand} {d n e s : Nat} {cs : List Value} {ki : IntKind} {i : Nat} {de : TypeDesc} (fr : FrD Df N a L) (hw : wantL ops L o = some true) (ho : o.op = .index t x ix) (hd : o.dst = some d) (hlt : Nat.blt d N = true) (hx : ev L x = some (.agg cs.toArray)) (hi : ev L ix = some (.int ki (i : Int)))
  (ht : T.ty.lookup t = some (.array n e)) (hs : T.sz.lookup e = some s) (hte : T.ty.lookup e = some de) (hde : aggD de = true) (hb : i < n) (hv : cs.all vok1 = true)
  (h : ∀ a', FrD Df N a' ((d, .agg ((cs.drop (i * s)).take s).toArray) :: L) → wpList P ops Q rest a' w) : wpList P ops Q (o :: rest) a w := by
 refine wl_val (v := .agg ((cs.drop (i * s)).take s).toArray) (w' := w) fr hw hd hlt ?_ ?_ h
 ·unfold execOp
  simp only [ho, (fr.ev hx).1, (fr.ev hi).1, Instr.index, asIntOf]
  have h1 : (0 : Int) ≤ (i : Int) ∧ (i : Int) < n := by omega
  rw [Sem.run_bind, Sem.run_bind, Sem.run_pure, Result.andThen_ok]
  simp only
  rw [Sem.run_bind, run_underlying (hT.und ht), Result.andThen_ok]
  simp only
  rw [if_pos h1, Sem.run_bind, size_run hT hs, Result.andThen_ok]
  unfold part
  rw [Sem.run_bind, isAgg_run (hT.und hte), Result.andThen_ok, hde, if_pos rfl, Sem.run_bind, size_run hT hs, Result.andThen_ok]
  simp [List.extract_toArray, List.extract_eq_take_drop]
 ·refine vok_agl fun v hm => ?_
  rw [List.all_eq_true] at hv
  exact hv v (List.mem_of_mem_drop (List.mem_of_mem_take hm))
theorem wl_stfA (hT : T.Ok P) {o : Oper} {rest : List Oper} {te : TypeId} {p v : Operand} {b e : Nat} {cs : List Value} {z : Value} {A : Addr} (j : Nat) (fr : FrD Df N a L) (hw : wantL ops L o = some true) (hd : o.dst = none) (ho : o.op = .store te p v) (hp : ev L p = some (.pointer (some A))) (hA : A = (⟨b, 0, none⟩ : Addr).add j) (hv : ev L v = some z) (hs : T.sz.lookup te = some 1)
  (hc : z.cells = #[z]) (h1 : z.oneCell' = true) (S : Sat w0 w (stA e b cs :: R)) (hj : j < cs.length) (h : ∀ w', Sat w0 w' (stA e b (cs.set j z) :: R) → wpList P ops Q rest a w') : wpList P ops Q (o :: rest) a w := by
 subst hA
 exact wl_stf hT fr hw hd ho hp hv hs hc h1 S (Nat.ble_eq_true_of_le hj) h
theorem sl_stfA (hT : T.Ok P) {s : SOp} {rest : List Itm} {te : TypeId} {p v : Operand} {b e : Nat} {cs : List Value} {z : Value} {A : Addr} (j : Nat) (fr : FrD Df N a L) (hw : wantS L s = some true) (hq : s.q = false) (hd : s.dst = none) (ho : s.op = .store te p v) (hp : ev L p = some (.pointer (some A))) (hA : A = (⟨b, 0, none⟩ : Addr).add j) (hv : ev L v = some z) (hs : T.sz.lookup te = some 1)
  (hc : z.cells = #[z]) (h1 : z.oneCell' = true) (S : Sat w0 w (stA e b cs :: R)) (hj : j < cs.length) (h : ∀ w', Sat w0 w' (stA e b (cs.set j z) :: R) → S' w' ∧ SL P Q S' rest a w') : SL P Q S' (.one s :: rest) a w := by
 subst hA
 exact sl_stf hT fr hw hq hd ho hp hv hs hc h1 S (Nat.ble_eq_true_of_le hj) h
end
end Go.Proofs.YticnjkdaccacaaaGreat.Sx
end
