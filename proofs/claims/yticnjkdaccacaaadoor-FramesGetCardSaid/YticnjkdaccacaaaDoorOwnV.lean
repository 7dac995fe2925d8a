/- Own rows of elements of more cells than one. -/
import Derived.Test.YticnjkdaccacaaaDoorOwn
import Derived.Deep.MidRow
import Derived.Great.BuildSlice
namespace Go.Proofs.YticnjkdaccacaaaDoor.OwnV
open Go Go.RowKit Base Own

def RowV (w : World) (B : Nat) (e : TypeId) (z : Nat) (v : Value) (n : Nat) (xs : List Value) : Prop := w.ownsRow B e z v n xs
section
variable {w w' : World} {B : Nat} {e : TypeId} {z : Nat} {v : Value} {n : Nat} {xs : List Value}
theorem RowV.nil (w : World) (B : Nat) (e : TypeId) (z : Nat) : RowV w B e z (.slice none 0 0) 0 [] := ⟨by simp, .inl ⟨rfl, rfl⟩⟩
theorem RowV.len (h : RowV w B e z v n xs) : xs.length = n * z := h.1
theorem RowV.slice (h : RowV w B e z v n xs) : ∃ A c, v = .slice A n c ∧ n ≤ c ∧ c ≤ maxLen ∧ (A = none → n = 0) ∧ ∀ ad, A = some ad → ∃ g, ad = ⟨g, 0, none⟩ ∧ B ≤ g ∧ g < w.heap.size ∧ w.rangeAt g 0 xs ∧ w.there g 0 (n * z) := by
  rcases h.2 with ⟨rfl, rfl⟩ | ⟨g, cap, cur, rfl, hB, hg, h1, h2, h3, h4⟩
  · exact ⟨none, 0, rfl, Nat.le_refl _, Nat.zero_le _, fun _ => rfl, fun ad e => by cases e⟩
  · refine ⟨some ⟨g, 0, none⟩, cap, rfl, h1, h2, fun e => absurd e (by simp), fun ad e => ?_⟩
    injection e with e; subst e
    have hsz : n * z ≤ cur.size := by rw [h3]; exact Nat.mul_le_mul_right _ h1
    refine ⟨g, rfl, hB, (Array.getElem?_eq_some_iff.1 hg).1, fun j u hj => ?_, fun j hj => ⟨?_, ?_⟩⟩
    · rw [Nat.zero_add, cell_of_row _ _ _ _ _ _ hg]
      rw [← h4, List.getElem?_take] at hj
      split at hj
      · rw [← hj]; simp
      · cases hj
    · rw [Nat.zero_add, cell_of_row _ _ _ _ _ _ hg, Array.getElem?_eq_getElem (by omega)]; rfl
    · rw [Nat.zero_add]; exact frozen_of_row _ _ _ _ _ hg
theorem RowV.kept {F : Nat → Prop} (h : RowV w B e z v n xs) (hc : Chg F w w') (hF : ∀ g, v.ownBlock = some g → ¬ F g) : RowV w' B e z v n xs := by
  refine ⟨h.1, ?_⟩
  rcases h.2 with hn | ⟨g, cap, cur, rfl, hb, hgg, rest⟩
  · exact .inl hn
  · refine .inr ⟨g, cap, cur, rfl, hb, ?_, rest⟩
    rw [hc.block g (Array.getElem?_eq_some_iff.1 hgg).1 (hF g rfl)]
    exact hgg
theorem RowV.new (h : RowV w B e z v n xs) (hb : Below w.heap.size w w') : RowV w' B e z v n xs := h.kept (Chg.of_new hb) (fun _ _ hf => hf)
theorem RowV.alloc (h : RowV w B e z v n xs) (o : Obj) : RowV (w.alloc o) B e z v n xs := h.kept (Chg.alloc w o) (fun _ _ hf => hf)
theorem RowV.lower {B' : Nat} (h : RowV w B e z v n xs) (hB : B' ≤ B) : RowV w B' e z v n xs := by
  refine ⟨h.1, ?_⟩
  rcases h.2 with hn | ⟨g, cap, cur, rfl, hb, rest⟩
  · exact .inl hn
  · exact .inr ⟨g, cap, cur, rfl, Nat.le_trans hB hb, rest⟩
theorem RowV.lt (h : RowV w B e z v n xs) : ∀ g, v.ownBlock = some g → B ≤ g ∧ g < w.heap.size := World.ownsRow.lt h
/-- A block that was just laid. -/
theorem RowV.made (w : World) (e : TypeId) (z n : Nat) (cs : Array Value) (hB : B ≤ w.heap.size) (hl : cs.size = n * z) (hn : n ≤ maxLen) :
    RowV (w.alloc (.cells cs e)) B e z (.slice (some ⟨w.heap.size, 0, none⟩) n n) n cs.toList := by
  refine ⟨by simp [hl], .inr ⟨_, _, cs, rfl, hB, heap_alloc_new _ _, Nat.le_refl _, hn, hl, ?_⟩⟩
  exact List.take_of_length_le (by simp [hl])
theorem splice_get {α : Type} (L : List α) (o : Nat) (vs : List α) (h : o + vs.length ≤ L.length) (k : Nat) : (splice L o vs)[k]? = if o ≤ k ∧ k < o + vs.length then vs[k - o]? else L[k]? := by
  unfold splice
  rw [List.getElem?_append, List.length_take, show min o L.length = o by omega]
  by_cases h1 : k < o
  · rw [if_pos h1, if_neg (by omega), List.getElem?_take, if_pos h1]
  · rw [if_neg h1, List.getElem?_append]
    by_cases h2 : k - o < vs.length
    · rw [if_pos h2, if_pos (by omega)]
    · rw [if_neg h2, if_neg (by omega), List.getElem?_drop]
      congr 1; omega
theorem heap_setCells (b : Nat) : ∀ (vs : List Value) (o : Nat) (w : World) (cur : Array Value) (t : TypeId), w.heap[b]? = some (.cells cur t (0, 0)) → o + vs.length ≤ cur.size →
    (w.setCells b o vs).heap[b]? = some (.cells (splice cur.toList o vs).toArray t (0, 0)) := by
  intro vs
  induction vs with
  | nil => intro o w cur t hg _; simpa [World.setCells, splice] using hg
  | cons u vs ih =>
    intro o w cur t hg hl
    simp only [List.length_cons] at hl
    have h1 := heap_setCell_same w b o cur t u hg
    have h2 := ih (o + 1) (w.setCell ⟨b, o, none⟩ u) (cur.setIfInBounds o u) t h1 (by simp; omega)
    show ((w.setCell ⟨b, o, none⟩ u).setCells b (o + 1) vs).heap[b]? = _
    rw [h2]
    congr 3
    rw [Array.toList_setIfInBounds]
    apply List.ext_getElem?
    intro k
    rw [splice_get _ _ _ (by simp; omega), splice_get _ _ _ (by simp; omega), List.length_cons, List.getElem?_set]
    by_cases h3 : k = o
    · subst h3
      rw [if_neg (by omega), if_pos rfl, if_pos (by simp; omega), if_pos (by omega)]; simp
    · by_cases h4 : o + 1 ≤ k ∧ k < o + 1 + vs.length
      · rw [if_pos h4, if_pos (by omega), show k - o = (k - (o + 1)) + 1 by omega, List.getElem?_cons_succ]
      · rw [if_neg h4, if_neg (fun h => h3 h.symm), if_neg (by omega)]
theorem chg_setCells (b : Nat) : ∀ (vs : List Value) (o : Nat) (w : World), Chg (fun k => k = b) w (w.setCells b o vs) := by
  intro vs
  induction vs with
  | nil => intro o w; exact Chg.refl _ _
  | cons u vs ih => intro o w; exact (Chg.setCell w ⟨b, o, none⟩ u).trans (ih (o + 1) _) (fun _ _ h => h)
/-- Some cells are written over. -/
theorem RowV.set {g c : Nat} (h : RowV w B e z (.slice (some ⟨g, 0, none⟩) n c) n xs) (o : Nat) (vs : List Value) (ho : o + vs.length ≤ n * z) :
    RowV (w.setCells g o vs) B e z (.slice (some ⟨g, 0, none⟩) n c) n (splice xs o vs) := by
  rcases h.2 with ⟨h1, _⟩ | ⟨g', cap, cur, h1, hB, hg, h2, h3, h4, h5⟩
  · cases h1
  · injection h1 with h1 h6 h7
    injection h1 with h1
    injection h1 with h1
    subst h1 h7
    have hx : xs.length = n * z := h.1
    have hsz : n * z ≤ cur.size := by rw [h4]; exact Nat.mul_le_mul_right _ h2
    refine ⟨by rw [length_splice _ _ _ (by rw [hx]; exact ho), hx], .inr ⟨g, c, _, rfl, hB, heap_setCells g vs o w cur e hg (by omega), h2, h3, ?_, ?_⟩⟩
    · rw [List.size_toArray, length_splice _ _ _ (by simp; omega)]; simpa using h4
    · rw [← h5]
      apply List.ext_getElem?
      intro k
      rw [List.getElem?_take, splice_get _ _ _ (by simp; omega), splice_get _ _ _ (by rw [List.length_take]; simp; omega), List.getElem?_take]
      split <;> split <;> first | rfl | omega
end
theorem exec_load_mid {P : Program} {a : Act} {w : World} {N : Option Tmp} {tt : TypeId} (ty : TypeId) (x : Operand) (b o : Nat) (hx : a.eval x = .pointer (some ⟨b, o, none⟩)) (cs : List Value) (d : TypeDesc) (hc : w.rangeAt b o cs)
    (hu : P.underlying ty = some d) (hd : d.isRow = true) (hi : (P.info? ty).map (·.size) = some cs.length) : (execOp a.eval ⟨N, .load ty x, tt, "", #[], none⟩).run P w = .ok (.value (.agg cs.toArray)) w := by
  unfold execOp
  simp only [hx, Instr.loadAt, Instr.sureAddr, Sem.run_bind, Sem.run_pure, Result.andThen_ok, run_loadVar_mid w b o ty cs d hc hu hd hi]
theorem fold_splice : ∀ (vs : List Value) (k off : Nat) (cs : Array Value), off + k + vs.length ≤ cs.size →
    ((vs.zipIdx k).foldl (fun cs (x : Value × Nat) => cs.setIfInBounds (off + x.2) x.1) cs).toList = splice cs.toList (off + k) vs := by
  intro vs
  induction vs with
  | nil => intro k off cs _; simp [splice]
  | cons v vs ih =>
    intro k off cs h
    simp only [List.length_cons] at h
    rw [List.zipIdx_cons, List.foldl_cons, ih (k + 1) off _ (by simp; omega)]
    apply List.ext_getElem?
    intro j
    rw [Array.toList_setIfInBounds, splice_get _ _ _ (by simp; omega), splice_get _ _ _ (by simp; omega), List.length_cons, List.getElem?_set]
    by_cases h3 : j = off + k
    · subst h3
      rw [if_neg (by omega), if_pos rfl, if_pos (by simp; omega), if_pos (by omega)]; simp
    · by_cases h4 : off + (k + 1) ≤ j ∧ j < off + (k + 1) + vs.length
      · rw [if_pos h4, if_pos (by omega), show j - (off + k) = (j - (off + (k + 1))) + 1 by omega, List.getElem?_cons_succ]
      · rw [if_neg h4, if_neg (fun h => h3 h.symm), if_neg (by omega)]
theorem fill_step (place : Nat → Option (Nat × Nat)) (cells : Array Value) (i off size : Nat) (v : Value) (rest : List (Nat × Value)) (hp : place i = some (off, size)) (hv : v.cells.size = size) (hf : off + size ≤ cells.size) :
    Instr.fill place cells ((i, v) :: rest) = Instr.fill place (splice cells.toList off v.cells.toList).toArray rest := by
  rw [Instr.fill, hp]
  simp only
  rw [if_neg (by simp; omega)]
  congr 1
  apply Array.toList_inj.1
  rw [← Array.foldl_toList, Array.toList_zipIdx, fold_splice _ _ _ _ (by simp; omega)]
  rfl
theorem fill_all (cells c : Array Value) (s : Nat) (hc : c.size = s) (hs : cells.size = s) : Instr.fill (fun i => some (i * s, s)) cells [(0, .agg c)] = some c := by
  rw [fill_step _ _ 0 0 s _ _ (by simp) (by simpa [Value.cells] using hc) (by omega), Instr.fill]
  congr 1
  apply Array.toList_inj.1
  simp only [splice, Value.cells]
  rw [List.take_zero, List.nil_append, List.drop_eq_nil_of_le (by simp; omega)]
  simp
theorem exec_build {P : Program} {a : Act} {w : World} {N : Option Tmp} {tt : TypeId} (t : TypeId) (parts : Array (Nat × Operand)) (cells : Array Value) (h : P.built t (parts.map fun (i, x) => (i, a.eval x)).toList = some cells) :
    (execOp a.eval ⟨N, .build t parts, tt, "", #[], none⟩).run P w = .ok (.value (.agg cells)) w := by
  unfold execOp
  simp only [Sem.run_bind, run_build w t _ cells h, Result.andThen_ok]
  rfl
/-- A slice of one element that is a struct or an array. -/
theorem one_slice {P : Program} {o : Oper} {a : Act} {w : World} {K : Act → World → Prop} {Q : Exit → Act → World → Prop} (t e : TypeId) (x : Operand) (ho : o.op = .buildSlice t 1 #[(0, x)]) (c : Array Value) (s : Nat) (hx : a.eval x = .agg c) (hc : c.size = s)
    (hu : P.underlying t = some (.slice e)) (hi : (P.info? e).map (fun i => (i.zero.isSome, i.size)) = some (true, s)) (h0 : 0 < s) (h1 : s ≤ 16777216)
    (h : K (a.put o.dst (.slice (some ⟨w.heap.size, 0, none⟩) 1 1)) (w.alloc (.cells c e))) : o.wp P a w K Q := by
  obtain ⟨ie, hie, hzz⟩ := Option.map_eq_some_iff.1 hi
  simp only [Prod.mk.injEq] at hzz
  obtain ⟨z, hz⟩ := Option.isSome_iff_exists.1 hzz.1
  refine wp_buildSlice t e 1 _ ho c ie z hu hie hz (by rw [hzz.2]; omega) (by rw [hzz.2]; omega) ?_ h
  rw [hzz.2]
  simp only [List.map_toArray, List.map_cons, List.map_nil, hx]
  exact fill_all _ c s hc (by simp)
/-- append of elements of any size to an own row. -/
theorem apv_wp {P : Program} {B : Nat} {w : World} {e : TypeId} {z bytes : Nat} {v : Value} {n : Nat} {xs : List Value} {K : Act → World → Prop} {Q : Exit → Act → World → Prop} {o : Oper} {a : Act} {t : TypeId}
    (ht : P.underlying t = some (.slice e)) (hinfo : (P.info? e).map (fun i => (i.zero.map (·.cells.size), i.size, i.bytes)) = some (some z, z, bytes)) (hz0 : 0 < z) (hown : RowV w B e z v n xs) (hbase : B ≤ w.heap.size)
    (ad : Addr) (m c : Nat) (news : List Value) (hl : news.length = m * z) (hnews : ∀ j u, news[j]? = some u → w.cell? (ad.add j) = some u) (h1 : ∀ u ∈ news, u.oneCell' = true) (h63 : n + m ≤ maxLen) (hbytes : (n + m) * bytes ≤ 140737488355328)
    (s x : Operand) (ho : o.op = .call { callee := .builtin .append, args := #[s, x], argTypes := #[t, t] }) (hs : a.eval s = v) (hx : a.eval x = .slice (some ad) m c)
    (h : ∀ v' w', RowV w' B e z v' (n + m) (xs ++ news) → w.grownBy w' v.ownBlock → (v'.ownBlock = v.ownBlock ∨ v'.ownBlock = some w.heap.size) → K (a.put o.dst v') w') : Oper.wp P o a w K Q := by
  obtain ⟨i, hi, hzz⟩ := Option.map_eq_some_iff.1 hinfo
  simp only [Prod.mk.injEq] at hzz
  obtain ⟨hz1, hsz, hby⟩ := hzz
  obtain ⟨z0, hz, hzc⟩ := Option.map_eq_some_iff.1 hz1
  obtain ⟨v', w', hr, h2, h3, _, h5⟩ := run_append_own_at (P := P) w B t o.type e i z0 z bytes ht hi hz hsz hby hzc hz0 v n xs hown ad m c news hl hnews h1 h63 hbytes hbase
  unfold Oper.wp execOp
  simp only [ho, resolve, invoke, builtin, Sem.run_bind, Sem.run_pure, Result.andThen_ok, List.map_toArray, List.map_cons, List.map_nil, hs, hx, hr]
  exact h v' w' h2 h3 h5
theorem exec_one_slice {P : Program} {a : Act} {w : World} {N : Option Tmp} {tt : TypeId} (t e : TypeId) (x : Operand) (c : Array Value) (s : Nat) (hx : a.eval x = .agg c) (hc : c.size = s)
    (hu : P.underlying t = some (.slice e)) (hi : (P.info? e).map (fun i => (i.zero.isSome, i.size)) = some (true, s)) (h0 : 0 < s) (h1 : s ≤ 16777216) :
    (execOp a.eval ⟨N, .buildSlice t 1 #[(0, x)], tt, "", #[], none⟩).run P w = .ok (.value (.slice (some ⟨w.heap.size, 0, none⟩) 1 1)) (w.alloc (.cells c e)) := by
  obtain ⟨ie, hie, hzz⟩ := Option.map_eq_some_iff.1 hi
  simp only [Prod.mk.injEq] at hzz
  obtain ⟨z, hz⟩ := Option.isSome_iff_exists.1 hzz.1
  have hf : Instr.fill (fun i => some (i * ie.size, ie.size)) ((Array.range (1 * ie.size)).map (z.cells[· % z.cells.size]!)) (#[(0, x)].map fun (i, x) => (i, a.eval x)).toList = some c := by
    rw [hzz.2]
    simp only [List.map_toArray, List.map_cons, List.map_nil, hx]
    exact fill_all _ c s hc (by simp)
  unfold execOp
  simp only [Sem.run_bind, run_buildSlice w t e 1 _ c ie z hu hie hz (by rw [hzz.2]; omega) (by rw [hzz.2]; omega) hf, Result.andThen_ok]
  rfl
/-- A load of one cell. -/
theorem exec_load_cell {P : Program} {a : Act} {w : World} {N : Option Tmp} {tt : TypeId} (ty : TypeId) (x : Operand) (ad : Addr) (v : Value) (hx : a.eval x = .pointer (some ad)) (hc : w.cell? ad = some v) (hag : ∀ W, (isAgg ty).run P W = .ok false W) :
    (execOp a.eval ⟨N, .load ty x, tt, "", #[], none⟩).run P w = .ok (.value v) w := by
  unfold execOp
  simp [hx, Instr.loadAt, Instr.sureAddr, loadVar, Sem.run_bind, Sem.run_pure, Result.andThen_ok, hag, run_load, hc]
theorem run_copy_v {P : Program} (w : World) (dT sT ty elem : TypeId) (z b o dLen dCap : Nat) (a : Addr) (sLen sCap n : Nat) (cs : List Value) (hu : P.underlying dT = some (.slice elem)) (hs : (P.info? elem).map (·.size) = some z) (hn : n = Nat.min sLen dLen) (hl : cs.length = n * z)
    (hsrc : ∀ j v, cs[j]? = some v → w.cell? (a.add j) = some v) (hth : w.there b o cs.length) (h1 : ∀ v ∈ cs, v.oneCell' = true) :
    (Builtin.copy_ #[dT, sT] ty #[.slice (some ⟨b, o, none⟩) dLen dCap, .slice (some a) sLen sCap]).run P w = .ok (goInt n) (w.setCells b o cs) := by
  have hld := run_loadCells_list (P := P) w a cs hsrc
  have hst := run_storeCells_cells (P := P) b o cs 0 w (fun j hj => by simpa using (hth j hj).1) (fun j hj => by simpa using (hth j hj).2) h1
  rw [hl] at hld
  cases hq : P.info? elem with
  | none => simp [hq] at hs
  | some i =>
    have hi : i.size = z := by simpa [hq] using hs
    simp [Builtin.copy_, run_underlying hu, Builtin.lenOf, Builtin.firstCells, sizeOf, typeInfo, hq, hi, ← hn, hld, hst]
theorem wp_copy_v {P : Program} {o : Oper} {a : Act} {w : World} {K : Act → World → Prop} {Q : Exit → Act → World → Prop} (d s : Operand) (dT sT elem : TypeId) (z g off dLen dCap : Nat) (ad : Addr) (sLen sCap n : Nat) (cs : List Value)
    (ho : o.op = .call { callee := .builtin .copy, args := #[d, s], argTypes := #[dT, sT] }) (hd : a.eval d = .slice (some ⟨g, off, none⟩) dLen dCap) (hss : a.eval s = .slice (some ad) sLen sCap)
    (hu : P.underlying dT = some (.slice elem)) (hs : (P.info? elem).map (·.size) = some z) (hn : n = Nat.min sLen dLen) (hl : cs.length = n * z)
    (hsrc : ∀ j v, cs[j]? = some v → w.cell? (ad.add j) = some v) (hth : w.there g off cs.length) (h1 : ∀ v ∈ cs, v.oneCell' = true) (hK : K (a.put o.dst (goInt n)) (w.setCells g off cs)) : Oper.wp P o a w K Q := by
  have hr := run_copy_v (P := P) w dT sT o.type elem z g off dLen dCap ad sLen sCap n cs hu hs hn hl hsrc hth h1
  unfold Oper.wp
  simp [execOp, ho, resolve, invoke, builtin, hd, hss, hr, Result.andThen]
  exact hK
end Go.Proofs.YticnjkdaccacaaaDoor.OwnV
