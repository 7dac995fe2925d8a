/- Texts of this work, one behind the other. -/
import Derived.Test.YticnjkdaccacaaaGreatDoorVWallsPlay10
section
namespace Go.Proofs.YticnjkdaccacaaaGreatDoor.Sx
open Go Go.RowKit Base _root_.Go.Proofs.YticnjkdaccacaaaGreatDoor.Own OwnV
section
variable {α : Type} {f : α → List Value} {z : Nat}
theorem el_len (hf : ∀ x, (f x).length = z) (l : List α) : (l.flatMap f).length = l.length * z := by
  induction l with
  | nil => simp
  | cons x l ih => rw [List.flatMap_cons, List.length_append, hf, ih, List.length_cons, Nat.add_mul, Nat.one_mul, Nat.add_comm]
theorem el_get (hf : ∀ x, (f x).length = z) : ∀ (l : List α) (i j : Nat) (u : Value) (hi : i < l.length), (f l[i])[j]? = some u → (l.flatMap f)[i * z + j]? = some u := by
  intro l
  induction l with
  | nil => intro i j u hi; exact absurd hi (Nat.not_lt_zero _)
  | cons x l ih =>
    intro i j u hi hu
    rw [List.flatMap_cons]
    cases i with
    | zero =>
      have hj := (List.getElem?_eq_some_iff.1 hu).1
      rw [List.getElem?_append_left (by simpa using hj), Nat.zero_mul, Nat.zero_add]
      exact hu
    | succ i =>
      have h1 := hf x
      rw [List.getElem?_append_right (by rw [h1, Nat.add_mul]; omega), h1, show (i + 1) * z + j - z = i * z + j by rw [Nat.add_mul]; omega]
      exact ih i j u (by simpa using hi) hu
theorem el_take (hf : ∀ x, (f x).length = z) : ∀ (l : List α) (k : Nat), (l.take k).flatMap f = (l.flatMap f).take (k * z) := by
  intro l
  induction l with
  | nil => intro k; simp
  | cons x l ih =>
    intro k
    cases k with
    | zero => simp
    | succ k => rw [List.take_succ_cons, List.flatMap_cons, List.flatMap_cons, ih, Nat.add_mul, Nat.one_mul, Nat.add_comm, ← hf x, List.take_length_add_append]
theorem el_drop (hf : ∀ x, (f x).length = z) : ∀ (l : List α) (k : Nat), (l.drop k).flatMap f = (l.flatMap f).drop (k * z) := by
  intro l
  induction l with
  | nil => intro k; simp
  | cons x l ih =>
    intro k
    cases k with
    | zero => simp
    | succ k => rw [List.drop_succ_cons, List.flatMap_cons, ih, Nat.add_mul, Nat.one_mul, Nat.add_comm, ← hf x, List.drop_length_add_append]
theorem el_snoc (l : List α) (x : α) : (l ++ [x]).flatMap f = l.flatMap f ++ f x := by simp
end
section
variable {P : Program} {T : Orc} {ops : Array Oper} {Q : Exit → Act → World → Prop} {S' : World → Prop} {Df : List Deferred} {N : Nat} {a : Act} {w w0 : World} {L : Env} {R M : List Asn} {e z : Nat} {A : Option Addr} {c n : Nat} {xs : List Value}
theorem rv_append_none {P : Program} (w : World) {t ty : Nat} (ht : P.underlying t = some (.slice e)) {bytes : Nat} (hinfo : (P.info? e).map (fun i => (i.zero.map (·.cells.size), i.size, i.bytes)) = some (some z, z, bytes)) (A : Option Addr) (n c cy : Nat) (hn : n ≤ c) :
    (Builtin.append_ #[t, t] ty #[.slice A n c, .slice none 0 cy]).run P w = .ok (.slice A n c) w := by
  obtain ⟨i, hi, hzz⟩ := Option.map_eq_some_iff.1 hinfo
  simp only [Builtin.append_, Sem.run_bind, run_underlying ht, Result.andThen_ok]
  simp [sizeOf, typeInfo, hi, Builtin.lenOf, hn, Builtin.firstCells, run_underlying ht]
  cases A <;> simp [storeCells]
theorem rv_appm {t ty bytes m : Nat} (ht : P.underlying t = some (.slice e)) (hinfo : (P.info? e).map (fun i => (i.zero.map (·.cells.size), i.size, i.bytes)) = some (some z, z, bytes)) (hz0 : 0 < z) (hby : bytes ≤ 128) (S : Sat w0 w (rvA e z A c n xs :: R))
    {Y : Option Addr} {cy : Nat} {news : List Value} (hl : news.length = m * z) (hY : Y = none → m = 0) (hc : ∀ ad, Y = some ad → ∀ j u, news[j]? = some u → w.cell? (ad.add j) = some u) (h1 : ∀ u ∈ news, u.oneCell' = true ∧ vok1 u = true) (hb : n + m ≤ 1000000000000) :
    ∃ A2 c2 w', (Builtin.append_ #[t, t] ty #[.slice A n c, .slice Y m cy]).run P w = .ok (.slice A2 (n + m) c2) w' ∧ (n + m ≤ c2 ∧ c2 ≤ maxLen) ∧ Sat w0 w' (rvA e z A2 c2 (n + m) (xs ++ news) :: R) := by
  cases Y with
  | none =>
    have hm := hY rfl
    subst hm
    have hn : news = [] := List.eq_nil_of_length_eq_zero (by simpa using hl)
    subst hn
    obtain ⟨-, h2, -⟩ := rv_facts S
    exact ⟨A, c, w, rv_append_none w ht hinfo A n c cy h2.1, h2, by rw [List.append_nil]; exact S⟩
  | some ad =>
    obtain ⟨F, ⟨g2, g3, g5⟩, hF, hk⟩ := S.opened
    obtain ⟨i, hi, hzz⟩ := Option.map_eq_some_iff.1 hinfo
    simp only [Prod.mk.injEq] at hzz
    obtain ⟨hz1, hsz, hbi⟩ := hzz
    obtain ⟨z0, hz, hzc⟩ := Option.map_eq_some_iff.1 hz1
    have hmul : (n + m) * bytes ≤ (n + m) * 128 := Nat.mul_le_mul_left _ hby
    obtain ⟨v', w', hr, k1, k2⟩ := append_two (P := P) w w0.heap.size t ty e i z0 z bytes ht hi hz hsz hbi hzc hz0 (.slice A n c) n xs g2 ad m cy news hl (hc ad rfl) (fun u hu => (h1 u hu).1) (by unfold maxLen; omega) (by omega) S.below.size
    have k1' : RowV w' w0.heap.size e z v' (n + m) (xs ++ news) := k1
    obtain ⟨A2, c2, rfl, q1, q2, q3, q4⟩ := k1'.slice
    refine ⟨A2, c2, w', hr, ⟨q1, q2⟩, ?_⟩
    have hv : ∀ v ∈ xs ++ news, vok1 v = true := fun v hv => by
      rcases List.mem_append.1 hv with hv | hv
      · exact g3 v hv
      · exact (h1 v hv).2
    rcases k2 with ⟨k2, k3⟩ | ⟨k2, k3⟩
    · exact hk (A' := rvA e z A2 c2 (n + m) (xs ++ news)) (F' := F) ⟨k1', hv, fun g => by rw [g5 g, k3]⟩ (Chg.of_grown k2) (fun g _ hg => (g5 g).2 hg.symm) fun g hg => .inl hg
    · refine hk (A' := rvA e z A2 c2 (n + m) (xs ++ news)) (F' := fun g => (Value.slice A2 (n + m) c2).ownBlock = some g) ⟨k1', hv, fun g => Iff.rfl⟩ (G := fun _ => False) ((Chg.of_grown k2).mono fun g _ h => by cases h) (fun g _ hg => hg.elim) fun g hg => ?_
      rw [k3] at hg
      injection hg with hg
      exact .inr (Nat.le_of_eq hg)
theorem wl_rvappm {t bytes m : Nat} (ht : P.underlying t = some (.slice e)) (hinfo : (P.info? e).map (fun i => (i.zero.map (·.cells.size), i.size, i.bytes)) = some (some z, z, bytes)) (hz0 : Nat.blt 0 z = true) (hby : Nat.ble bytes 128 = true) {o : Oper} {rest : List Oper} {d : Nat} {x y : Operand} {Y : Option Addr} {cy : Nat} {news : List Value} (fr : FrD Df N a L) (hw : wantL ops L o = some true) (hd : o.dst = some d) (hlt : Nat.blt d N = true)
    (ho : o.op = .call { callee := .builtin .append, args := #[x, y], argTypes := #[t, t] }) (hx : ev L x = some (.slice A n c)) (hy : ev L y = some (.slice Y m cy)) (hl : news.length = m * z) (hY : Y = none → m = 0) (hc : ∀ ad, Y = some ad → ∀ j u, news[j]? = some u → w.cell? (ad.add j) = some u) (h1 : ∀ u ∈ news, u.oneCell' = true ∧ vok1 u = true) (hb : n + m ≤ 1000000000000) (S : Sat w0 w (rvA e z A c n xs :: R))
    (h : ∀ w' A2 c2, Sat w0 w' (rvA e z A2 c2 (n + m) (xs ++ news) :: R) → ∀ a', FrD Df N a' ((d, .slice A2 (n + m) c2) :: L) → wpList P ops Q rest a' w') : wpList P ops Q (o :: rest) a w := by
  obtain ⟨A2, c2, w', r1, r2, r3⟩ := rv_appm (P := P) (ty := o.type) (cy := cy) ht hinfo (blt_lt hz0) (Nat.le_of_ble_eq_true hby) S hl hY hc h1 hb
  exact wl_val fr hw hd hlt (app_op fr ho hx hy r1) (vok_sl r2) (h w' A2 c2 r3)
theorem wl_takev (hT : T.Ok P) {o : Oper} {rest : List Oper} {t s : TypeId} {x y : Operand} {d : Nat} {ki : IntKind} {i : Nat} (fr : FrD Df N a L) (hw : wantL ops L o = some true) (ho : o.op = .slice t x none (some y) none) (hd : o.dst = some d) (hlt : Nat.blt d N = true)
    (hx : ev L x = some (.slice A n c)) (hy : ev L y = some (.int ki (i : Int))) (ht : T.ty.lookup t = some (.slice e)) (hs : T.sz.lookup e = some s) (hb : i ≤ n)
    (h : ∀ a', FrD Df N a' ((d, .slice A i c) :: L) → wpList P ops Q rest a' w) : wpList P ops Q (o :: rest) a w := by
  have hv : n ≤ c ∧ c ≤ maxLen := by simpa [vok, vokC, vok1] using (fr.ev hx).2
  have h1 := take_run hT fr ho hx hy ht hs ⟨by omega, by omega⟩ w
  rw [Int.toNat_natCast] at h1
  exact wl_val fr hw hd hlt h1 (vok_sl ⟨by omega, hv.2⟩) h
def dropV (z : Nat) (A : Option Addr) (c j : Nat) : Option Addr := if c = j then A else A.map (·.add (j * z))
theorem wl_dropv (hT : T.Ok P) {o : Oper} {rest : List Oper} {t : TypeId} {x y : Operand} {d : Nat} {ki : IntKind} {i : Nat} (fr : FrD Df N a L) (hw : wantL ops L o = some true) (ho : o.op = .slice t x (some y) none none) (hd : o.dst = some d) (hlt : Nat.blt d N = true)
    (hx : ev L x = some (.slice A n c)) (hy : ev L y = some (.int ki (i : Int))) (ht : T.ty.lookup t = some (.slice e)) (hs : T.sz.lookup e = some z) (hb : i ≤ n)
    (h : ∀ a', FrD Df N a' ((d, .slice (dropV z A c i) (n - i) (c - i)) :: L) → wpList P ops Q rest a' w) : wpList P ops Q (o :: rest) a w := by
  have hv : n ≤ c ∧ c ≤ maxLen := by simpa [vok, vokC, vok1] using (fr.ev hx).2
  refine wl_val fr hw hd hlt (slice_run hT fr ho hx (vlo := some (.int ki (i : Int))) (vhi := none) (vmx := none) (congrArg some (fr.ev hy).1) rfl rfl ht (fun W => ?_) w) (vok_sl ⟨by omega, by omega⟩) h
  simp only [Instr.slice, Sem.run_bind, run_underlying (hT.und ht), Result.andThen_ok, Instr.sliceBounds, Instr.sliceBound, asIntOf, Sem.run_pure, Option.isSome]
  rw [if_pos ⟨by omega, by omega⟩]
  simp [size_run hT hs, dropV]
theorem dropV_reads {w : World} {A : Option Addr} {c i z : Nat} {xs : List Value} (hA : ∀ ad, A = some ad → ∃ g, ad = ⟨g, 0, none⟩ ∧ w.rangeAt g 0 xs) (hl : xs.length ≤ c * z) : ∀ ad, dropV z A c i = some ad → ∀ j u, (xs.drop (i * z))[j]? = some u → w.cell? (ad.add j) = some u := by
  intro ad he j u hu
  rw [List.getElem?_drop] at hu
  have hlt := (List.getElem?_eq_some_iff.1 hu).1
  unfold dropV at he
  by_cases hc : c = i
  · subst hc; omega
  · rw [if_neg hc] at he
    obtain ⟨a0, ha, rfl⟩ := Option.map_eq_some_iff.1 he
    obtain ⟨g, rfl, hr⟩ := hA a0 ha
    have := hr _ u hu
    rw [add_add, addr0]
    rwa [Nat.zero_add] at this
theorem dropV_none {A : Option Addr} {c i z n : Nat} (h : A = none → n = 0) : dropV z A c i = none → n - i = 0 := by
  intro he
  unfold dropV at he
  split at he
  · rw [h he]; exact Nat.zero_sub _
  · cases A with
    | none => rw [h rfl]; exact Nat.zero_sub _
    | some ad => cases he
theorem elem_cell {w : World} {g i z j : Nat} {f : List Value} {u : Value} (hr : w.rangeAt g (i * z) f) (hu : f[j]? = some u) : w.cell? (((⟨g, 0, none⟩ : Addr).add ((i : Int).toNat * z)).add j) = some u := by
  rw [add_add, addr0, Int.toNat_natCast]
  exact hr j u hu
end
end Go.Proofs.YticnjkdaccacaaaGreatDoor.Sx
end
