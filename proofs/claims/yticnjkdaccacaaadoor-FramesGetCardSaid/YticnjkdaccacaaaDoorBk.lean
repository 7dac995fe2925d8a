/- Rows of one's own of elements of any size, cell by cell; a row and the same with more behind it; rows that are held. -/
import Derived.Test.YticnjkdaccacaaaDoorRe
namespace Go.Proofs.YticnjkdaccacaaaDoor.Sx
open Go Go.RowKit Base Own OwnV

/-! ### append: in the same row, or in a new one -/
theorem append_two {P : Program} (w : World) (base : Nat) (t ty e : TypeId) (i : TypeInfo) (z : Value) (size bytes : Nat) (ht : P.underlying t = some (.slice e)) (hi : P.info? e = some i) (hz : i.zero = some z)
    (hsize : i.size = size) (hby : i.bytes = bytes) (hzs : z.cells.size = size) (hsz : 0 < size) (v : Value) (n : Nat) (xs : List Value) (hown : w.ownsRow base e size v n xs)
    (a : Addr) (m c : Nat) (news : List Value) (hl : news.length = m * size) (hnews : ∀ j u, news[j]? = some u → w.cell? (a.add j) = some u) (h1 : ∀ u ∈ news, u.oneCell' = true)
    (h63 : n + m ≤ maxLen) (hbytes : (n + m) * bytes ≤ 140737488355328) (hbase : base ≤ w.heap.size) :
    ∃ v' w', (Builtin.append_ #[t, t] ty #[v, .slice (some a) m c]).run P w = .ok v' w' ∧ w'.ownsRow base e size v' (n + m) (xs ++ news) ∧
      ((w.grownBy w' v.ownBlock ∧ v'.ownBlock = v.ownBlock) ∨ (w.grownBy w' none ∧ v'.ownBlock = some w.heap.size)) := by
  obtain ⟨v', w', hr, h2, h3, _, h5⟩ := run_append_own_at (P := P) w base t ty e i z size bytes ht hi hz hsize hby hzs hsz v n xs hown a m c news hl hnews h1 h63 hbytes hbase
  refine ⟨v', w', hr, h2, ?_⟩
  have hsmall : n + m ≤ 9223372036854775807 := by simp only [maxLen] at h63; omega
  rcases hown.2 with ⟨rfl, rfl⟩ | ⟨g, cap, cur, rfl, hbg, hg, hnc, hcm, hcs, htake⟩
  · rcases h5 with h5 | h5
    · exact .inl ⟨h3, h5⟩
    · exact .inr ⟨h3, h5⟩
  · by_cases hroom : n + m ≤ cap
    · subst hsize
      have hfit : n * i.size + news.length ≤ cur.size := by rw [hl, hcs, ← Nat.add_mul]; exact Nat.mul_le_mul_right _ hroom
      have hr2 := run_append_room (P := P) w t ty e i ht hi g n cap cur hg a m c news hl hnews h1 hroom hfit
      rw [hr] at hr2
      injection hr2 with q1 q2
      exact .inl ⟨h3, by rw [q1]; rfl⟩
    · subst hsize
      have holds : ∀ j u, xs[j]? = some u → w.cell? ((⟨g, 0, none⟩ : Addr).add j) = some u := hown.cells (g := g) rfl
      have hr2 := run_append_grow (P := P) w t ty e i z ht hi hz ⟨g, 0, none⟩ n cap xs hown.1 holds a m c news hl hnews (by omega) (by omega) (growslice_fits (by omega) (by rw [hby]; exact hbytes))
      rw [hr] at hr2
      injection hr2 with q1 q2
      refine .inr ⟨?_, by rw [q1]; rfl⟩
      rw [q2]
      exact ⟨rfl, rfl, rfl, by simp, fun k hk _ => Below.heap_alloc w.drew _ k hk⟩
/-! ### Rows of elements of any size -/
def rvA (e z : Nat) (A : Option Addr) (c n : Nat) (xs : List Value) : Asn where
  holds := fun w B F => RowV w B e z (.slice A n c) n xs ∧ (∀ v ∈ xs, vok1 v = true) ∧ ∀ g, F g ↔ (Value.slice A n c).ownBlock = some g
  keep := fun ⟨h1, h2, h3⟩ hc hF _ => ⟨h1.kept hc fun g hg => hF g ((h3 g).2 hg), h2, h3⟩
  dom := fun ⟨h1, h2, h3⟩ g hg => h1.lt g ((h3 g).1 hg)
/-- A row, and a longer one that begins with it: in one block, or in two. -/
def gwA (e z : Nat) (A : Option Addr) (xs : List Value) (A' : Option Addr) (c' n' : Nat) (ys : List Value) : Asn where
  holds := fun w B F => (A = none → xs = []) ∧ (∀ ad, A = some ad → ad = ⟨ad.block, 0, none⟩ ∧ B ≤ ad.block ∧ ad.block < w.heap.size ∧ w.rangeAt ad.block 0 xs) ∧ RowV w B e z (.slice A' n' c') n' ys ∧ (∀ v ∈ ys, vok1 v = true) ∧ (∃ t, ys = xs ++ t) ∧
    ∀ g, F g ↔ (∃ ad, A = some ad ∧ ad.block = g) ∨ (Value.slice A' n' c').ownBlock = some g
  keep := fun ⟨h0, h1, h2, h3, h4, h5⟩ hc hF _ => ⟨h0, fun ad he => by
    obtain ⟨q1, q2, q3, q4⟩ := h1 ad he
    refine ⟨q1, q2, Nat.lt_of_lt_of_le q3 hc.size, fun j u hu => ?_⟩
    rw [World.cell?_of_block (a := ⟨ad.block, 0 + j, none⟩) (hc.block ad.block q3 (hF _ ((h5 _).2 (.inl ⟨ad, he, rfl⟩))))]
    exact q4 j u hu, h2.kept hc fun g hg => hF g ((h5 g).2 (.inr hg)), h3, h4, h5⟩
  dom := fun ⟨h0, h1, h2, h3, h4, h5⟩ g hg => by
    rcases (h5 g).1 hg with ⟨ad, he, rfl⟩ | hg
    · exact ⟨(h1 ad he).2.1, (h1 ad he).2.2.1⟩
    · exact h2.lt g hg
section
variable {P : Program} {T : Orc} {ops : Array Oper} {Q : Exit → Act → World → Prop} {S' : World → Prop} {Df : List Deferred} {N : Nat} {a : Act} {w w0 : World} {L : Env} {R : List Asn} {e z : Nat} {A A' : Option Addr} {c c' n n' : Nat} {xs ys : List Value}
/-- A thing, said otherwise. -/
theorem Sat.imp {X Y : Asn} (S : Sat w0 w (X :: R)) (h : ∀ F, X.holds w w0.heap.size F → Y.holds w w0.heap.size F) : Sat w0 w (Y :: R) := by
  obtain ⟨F, h1, h2, h3⟩ := S.parts
  exact ⟨S.below, F, h F h1, h2, h3⟩
theorem rv_of_own {k : IntKind} {l : List Int} (S : Sat w0 w (ownA k e A c l :: R)) : Sat w0 w (rvA e 1 A c l.length (l.map (Value.int k)) :: R) :=
  S.imp fun F ⟨h1, h2, h3⟩ => ⟨h1, fun v hv => by obtain ⟨x, hx, rfl⟩ := List.mem_map.1 hv; exact h2 x hx, h3⟩
theorem own_of_rv {k : IntKind} {l : List Int} (S : Sat w0 w (rvA e 1 A c l.length (l.map (Value.int k)) :: R)) : Sat w0 w (ownA k e A c l :: R) :=
  S.imp fun F ⟨h1, h2, h3⟩ => ⟨h1, fun x hx => h2 _ (List.mem_map.2 ⟨x, hx, rfl⟩), h3⟩
theorem rv_nil (e z : Nat) (S : Sat w0 w R) : Sat w0 w (rvA e z none 0 0 [] :: R) :=
  S.add (F := fun _ => False) (Below.refl _ _) ⟨RowV.nil w _ e z, fun v hv => (by cases hv), fun g => by simp [Value.ownBlock]⟩ fun _ h => h.elim
theorem rv_facts (S : Sat w0 w (rvA e z A c n xs :: R)) : xs.length = n * z ∧ (n ≤ c ∧ c ≤ maxLen) ∧ (A = none → n = 0) ∧ (∀ v ∈ xs, vok1 v = true) ∧ ∀ ad, A = some ad → ∃ g, ad = ⟨g, 0, none⟩ ∧ w.rangeAt g 0 xs := by
  obtain ⟨F, ⟨h1, h2, h3⟩, _⟩ := S.hd.imp fun _ h => And.intro h trivial
  obtain ⟨A2, c2, he, q1, q2, q3, q4⟩ := h1.slice
  injection he with e1 e2 e3
  subst e1 e3
  exact ⟨h1.len, ⟨q1, q2⟩, q3, h2, fun ad he => by
    obtain ⟨g, r1, r2, r3, r4, r5⟩ := q4 ad he
    exact ⟨g, r1, r4⟩⟩
theorem Sat.rvAt {M : List Asn} (S : Sat w0 w M) (i : Nat) (hi : M[i]? = some (rvA e z A c n xs)) : xs.length = n * z ∧ (n ≤ c ∧ c ≤ maxLen) ∧ (A = none → n = 0) ∧ (∀ v ∈ xs, vok1 v = true) ∧ ∀ ad, A = some ad → ∃ g, ad = ⟨g, 0, none⟩ ∧ w.rangeAt g 0 xs := rv_facts (S.frontAt i hi)
theorem gw_start (S : Sat w0 w (rvA e z A c n xs :: R)) : Sat w0 w (gwA e z A xs A c n xs :: R) := by
  refine S.imp fun F ⟨h1, h2, h3⟩ => ?_
  obtain ⟨A2, c2, he, q1, q2, q3, q4⟩ := h1.slice
  injection he with e1 e2 e3
  subst e1 e3
  refine ⟨fun h => ?_, fun ad he => ?_, h1, h2, ⟨[], (List.append_nil _).symm⟩, fun g => ?_⟩
  · have := h1.len
    rw [q3 h] at this
    exact List.eq_nil_of_length_eq_zero (by omega)
  · obtain ⟨g, r1, r2, r3, r4, r5⟩ := q4 ad he
    subst r1
    exact ⟨rfl, r2, r3, r4⟩
  · rw [h3 g]
    constructor
    · exact .inr
    · rintro (⟨ad, he, rfl⟩ | h)
      · obtain ⟨g, r1, _⟩ := q4 ad he
        subst r1
        rw [he]; rfl
      · exact h
/-- Some cells of a row are written over. -/
theorem rv_set (S : Sat w0 w (rvA e z A c n xs :: R)) {g : Nat} (hA : A = some ⟨g, 0, none⟩) (o : Nat) (vs : List Value) (ho : o + vs.length ≤ n * z) (hv : ∀ v ∈ vs, vok1 v = true) : Sat w0 (w.setCells g o vs) (rvA e z A c n (splice xs o vs) :: R) := by
  subst hA
  obtain ⟨F, ⟨h1, h2, h3⟩, hF, hk⟩ := S.opened
  refine hk (A' := rvA e z _ c n (splice xs o vs)) (F' := F) (G := fun k => k = g) ⟨h1.set o vs ho, fun v hm => ?_, h3⟩ (chg_setCells g vs o w) (fun k _ hk => (h3 k).2 (by subst hk; rfl)) fun k hk => .inl hk
  unfold splice at hm
  rw [List.mem_append, List.mem_append] at hm
  rcases hm with hm | hm | hm
  · exact h2 v (List.mem_of_mem_take hm)
  · exact hv v hm
  · exact h2 v (List.mem_of_mem_drop hm)
/-- What an append does, for elements of any size. -/
theorem gw_app {t ty bytes : Nat} (ht : P.underlying t = some (.slice e)) (hinfo : (P.info? e).map (fun i => (i.zero.map (·.cells.size), i.size, i.bytes)) = some (some z, z, bytes)) (hz0 : 0 < z) (hby : bytes ≤ 128) (S : Sat w0 w (gwA e z A xs A' c' n' ys :: R))
    {ad : Addr} {cy : Nat} {news : List Value} (hl : news.length = z) (hc : ∀ j u, news[j]? = some u → w.cell? (ad.add j) = some u) (h1 : ∀ u ∈ news, u.oneCell' = true ∧ vok1 u = true) (hb : n' ≤ 1000000000000) :
    ∃ A2 c2 w', (Builtin.append_ #[t, t] ty #[.slice A' n' c', .slice (some ad) 1 cy]).run P w = .ok (.slice A2 (n' + 1) c2) w' ∧ (n' + 1 ≤ c2 ∧ c2 ≤ maxLen) ∧ Sat w0 w' (gwA e z A xs A2 c2 (n' + 1) (ys ++ news) :: R) := by
  obtain ⟨F, ⟨g0, g1, g2, g3, ⟨tt, g4⟩, g5⟩, hF, hk⟩ := S.opened
  obtain ⟨i, hi, hzz⟩ := Option.map_eq_some_iff.1 hinfo
  simp only [Prod.mk.injEq] at hzz
  obtain ⟨hz1, hsz, hbi⟩ := hzz
  obtain ⟨z0, hz, hzc⟩ := Option.map_eq_some_iff.1 hz1
  have hmul : (n' + 1) * bytes ≤ (n' + 1) * 128 := Nat.mul_le_mul_left _ hby
  obtain ⟨v', w', hr, k1, k2⟩ := append_two (P := P) w w0.heap.size t ty e i z0 z bytes ht hi hz hsz hbi hzc hz0 (.slice A' n' c') n' ys g2 ad 1 cy news (by omega) hc (fun u hu => (h1 u hu).1) (by unfold maxLen; omega) (by omega) S.below.size
  have k1' : RowV w' w0.heap.size e z v' (n' + 1) (ys ++ news) := k1
  obtain ⟨A2, c2, rfl, q1, q2, q3, q4⟩ := k1'.slice
  refine ⟨A2, c2, w', hr, ⟨q1, q2⟩, ?_⟩
  have hv : ∀ v ∈ ys ++ news, vok1 v = true := fun v hv => by
    rcases List.mem_append.1 hv with hv | hv
    · exact g3 v hv
    · exact (h1 v hv).2
  have hpre : ∃ t, ys ++ news = xs ++ t := ⟨tt ++ news, by rw [g4, List.append_assoc]⟩
  rcases k2 with ⟨k2, k3⟩ | ⟨k2, k3⟩
  · have hc2 := Chg.of_grown k2
    refine hk (A' := gwA e z A xs A2 c2 (n' + 1) (ys ++ news)) (F' := F) ⟨g0, fun ad' he => ?_, k1', hv, hpre, fun g => ?_⟩ hc2 (fun g _ hg => (g5 g).2 (.inr hg.symm)) fun g hg => .inl hg
    · obtain ⟨r1, r2, r3, r4⟩ := g1 ad' he
      refine ⟨r1, r2, Nat.lt_of_lt_of_le r3 hc2.size, fun j u hu => ?_⟩
      by_cases hs : (Value.slice A' n' c').ownBlock = some ad'.block
      · rw [← k3] at hs
        cases A2 with
        | none => simp [Value.ownBlock] at hs
        | some a2 =>
          obtain ⟨g, s1, s2, s3, s4, s5⟩ := q4 a2 rfl
          have : g = ad'.block := by subst s1; simpa [Value.ownBlock] using hs
          subst this
          refine s4 j u ?_
          rw [g4, List.append_assoc, List.getElem?_append_left (List.getElem?_eq_some_iff.1 hu).1]
          exact hu
      · rw [World.cell?_of_block (a := ⟨ad'.block, 0 + j, none⟩) (hc2.block ad'.block r3 fun h => hs h.symm)]
        exact r4 j u hu
    · rw [g5 g, k3]
  · have hc2 : Chg (fun _ => False) w w' := (Chg.of_grown k2).mono fun g _ h => by cases h
    refine hk (A' := gwA e z A xs A2 c2 (n' + 1) (ys ++ news)) (F' := fun g => (∃ ad, A = some ad ∧ ad.block = g) ∨ (Value.slice A2 (n' + 1) c2).ownBlock = some g) ⟨g0, fun ad' he => ?_, k1', hv, hpre, fun g => Iff.rfl⟩ hc2 (fun g _ hg => hg.elim) fun g hg => ?_
    · obtain ⟨r1, r2, r3, r4⟩ := g1 ad' he
      refine ⟨r1, r2, Nat.lt_of_lt_of_le r3 hc2.size, fun j u hu => ?_⟩
      rw [World.cell?_of_block (a := ⟨ad'.block, 0 + j, none⟩) (hc2.block ad'.block r3 fun h => h)]
      exact r4 j u hu
    · rcases hg with hg | hg
      · exact .inl ((g5 g).2 (.inl hg))
      · rw [k3] at hg
        injection hg with hg
        exact .inr (Nat.le_of_eq hg)
/-- .. to a row of one's own. -/
theorem rv_app {t ty bytes : Nat} (ht : P.underlying t = some (.slice e)) (hinfo : (P.info? e).map (fun i => (i.zero.map (·.cells.size), i.size, i.bytes)) = some (some z, z, bytes)) (hz0 : 0 < z) (hby : bytes ≤ 128) (S : Sat w0 w (rvA e z A c n xs :: R))
    {ad : Addr} {cy : Nat} {news : List Value} (hl : news.length = z) (hc : ∀ j u, news[j]? = some u → w.cell? (ad.add j) = some u) (h1 : ∀ u ∈ news, u.oneCell' = true ∧ vok1 u = true) (hb : n ≤ 1000000000000) :
    ∃ A2 c2 w', (Builtin.append_ #[t, t] ty #[.slice A n c, .slice (some ad) 1 cy]).run P w = .ok (.slice A2 (n + 1) c2) w' ∧ (n + 1 ≤ c2 ∧ c2 ≤ maxLen) ∧ Sat w0 w' (rvA e z A2 c2 (n + 1) (xs ++ news) :: R) := by
  obtain ⟨F, ⟨g2, g3, g5⟩, hF, hk⟩ := S.opened
  obtain ⟨i, hi, hzz⟩ := Option.map_eq_some_iff.1 hinfo
  simp only [Prod.mk.injEq] at hzz
  obtain ⟨hz1, hsz, hbi⟩ := hzz
  obtain ⟨z0, hz, hzc⟩ := Option.map_eq_some_iff.1 hz1
  have hmul : (n + 1) * bytes ≤ (n + 1) * 128 := Nat.mul_le_mul_left _ hby
  obtain ⟨v', w', hr, k1, k2⟩ := append_two (P := P) w w0.heap.size t ty e i z0 z bytes ht hi hz hsz hbi hzc hz0 (.slice A n c) n xs g2 ad 1 cy news (by omega) hc (fun u hu => (h1 u hu).1) (by unfold maxLen; omega) (by omega) S.below.size
  have k1' : RowV w' w0.heap.size e z v' (n + 1) (xs ++ news) := k1
  obtain ⟨A2, c2, rfl, q1, q2, q3, q4⟩ := k1'.slice
  refine ⟨A2, c2, w', hr, ⟨q1, q2⟩, ?_⟩
  have hv : ∀ v ∈ xs ++ news, vok1 v = true := fun v hv => by
    rcases List.mem_append.1 hv with hv | hv
    · exact g3 v hv
    · exact (h1 v hv).2
  rcases k2 with ⟨k2, k3⟩ | ⟨k2, k3⟩
  · exact hk (A' := rvA e z A2 c2 (n + 1) (xs ++ news)) (F' := F) ⟨k1', hv, fun g => by rw [g5 g, k3]⟩ (Chg.of_grown k2) (fun g _ hg => (g5 g).2 hg.symm) fun g hg => .inl hg
  · refine hk (A' := rvA e z A2 c2 (n + 1) (xs ++ news)) (F' := fun g => (Value.slice A2 (n + 1) c2).ownBlock = some g) ⟨k1', hv, fun g => Iff.rfl⟩ (G := fun _ => False) ((Chg.of_grown k2).mono fun g _ h => by cases h) (fun g _ hg => hg.elim) fun g hg => ?_
    rw [k3] at hg
    injection hg with hg
    exact .inr (Nat.le_of_eq hg)
/-- append as an operation. -/
theorem app_op {t : TypeId} (fr : FrD Df N a L) {o : Oper} {x y : Operand} {v u v' : Value} {w' : World} (ho : o.op = .call { callee := .builtin .append, args := #[x, y], argTypes := #[t, t] }) (hx : ev L x = some v) (hy : ev L y = some u)
    (hr : (Builtin.append_ #[t, t] o.type #[v, u]).run P w = .ok v' w') : (execOp a.eval o).run P w = .ok (.value v') w' := by
  unfold execOp
  simp only [ho, resolve]
  rw [Sem.run_bind, Sem.run_pure, Result.andThen_ok]
  simp only [invoke, builtin, List.map_toArray, List.map_cons, List.map_nil, (fr.ev hx).1, (fr.ev hy).1]
  rw [Sem.run_bind, hr]; rfl
/-- An element of several cells, loaded whole. -/
theorem ldagg_run (hT : T.Ok P) (fr : FrD Df N a L) {o : Oper} {t : TypeId} {x : Operand} (ho : o.op = .load t x) {g j : Nat} {cs : List Value} {d : TypeDesc} (hx : ev L x = some (.pointer (some ⟨g, j, none⟩))) (ht : T.ty.lookup t = some d) (hd : d.isRow = true) (hs : T.sz.lookup t = some cs.length)
    (hc : w.rangeAt g j cs) : (execOp a.eval o).run P w = .ok (.value (.agg cs.toArray)) w := by
  have h := exec_load_mid (P := P) (a := a) (w := w) (N := o.dst) (tt := o.type) t x g j (fr.ev hx).1 cs d hc (hT.und ht) hd (hT.size hs)
  unfold execOp at h ⊢
  simp only [ho] at h ⊢
  exact h
theorem vok_agg {cs : List Value} (h : ∀ v ∈ cs, vok1 v = true) : vok (.agg cs.toArray) = true := by
  simp only [vok, vokC, List.all_eq_true]
  exact h
/-- An element of a row of elements of several cells. -/
theorem wl_ldv (hT : T.Ok P) {o1 o2 : Oper} {rest : List Oper} {t te : TypeId} {x ix : Operand} {d1 d2 : Nat} {n c : Nat} {ki : IntKind} {i : Int} {de : TypeDesc} {cs : List Value}
    (hr : ∀ ad, A = some ad → ∃ g, ad = ⟨g, 0, none⟩ ∧ w.rangeAt g (i.toNat * z) cs) (hA : A ≠ none) (hv : ∀ v ∈ cs, vok1 v = true) (fr : FrD Df N a L) (hw : wantL ops L o1 = some true) (ho1 : o1.op = .indexAddr t x ix) (hd1 : o1.dst = some d1) (hw2 : wantL ops L o2 = some true) (ho2 : o2.op = .load te (.tmp d1)) (hd2 : o2.dst = some d2) (hl1 : Nat.blt d1 N = true) (hl2 : Nat.blt d2 N = true)
    (hx : ev L x = some (.slice A n c)) (hi : ev L ix = some (.int ki i)) (ht : T.ty.lookup t = some (.slice e)) (hs : T.sz.lookup e = some z) (hte : T.ty.lookup te = some de) (hde : de.isRow = true) (hse : T.sz.lookup te = some cs.length) (hf : L.lookup d1 = none) (hb : 0 ≤ i ∧ i < (n : Int))
    (h : ∀ a', FrD Df N a' ((d2, .agg cs.toArray) :: L) → wpList P ops Q rest a' w) : wpList P ops Q (o1 :: o2 :: rest) a w := by
  cases A with
  | none => exact absurd rfl hA
  | some ad =>
    obtain ⟨g, rfl, hc⟩ := hr ad rfl
    refine wl_val fr hw hd1 hl1 (indexAddr_run hT fr ho1 hx hi ht hs hb.1 hb.2 w) rfl fun a1 fr1 => ?_
    have e1 : (⟨g, 0, none⟩ : Addr).add (i.toNat * z) = ⟨g, i.toNat * z, none⟩ := addr0 g _
    rw [e1] at fr1
    exact wl_val fr1 (want_skip hw2 hf) hd2 hl2 (ldagg_run hT fr1 ho2 (by show ((d1, _) :: L).lookup d1 = _; rw [lookup_cons, if_pos rfl]) hte hde hse hc) (vok_agg hv) fun a2 fr2 => h a2 (fr2.skip2 hf)
end
end Go.Proofs.YticnjkdaccacaaaDoor.Sx
