/- Rows of whole numbers of the call's own: append. -/
import Derived.Test.YticnjkdaccacaaaDoorBase
import Derived.Maps.AppendAt
import Derived.Laws.CopyOwn
namespace Go.Proofs.YticnjkdaccacaaaDoor.Own
open Go Go.RowKit Base

/-- Some blocks may have changed, and new ones may have come. -/
structure Chg (F : Nat → Prop) (w w' : World) : Prop where
  os : w'.os = w.os
  tape : w'.tape = w.tape
  output : w'.output = w.output
  size : w.heap.size ≤ w'.heap.size
  block : ∀ k, k < w.heap.size → ¬ F k → w'.heap[k]? = w.heap[k]?
section
variable {F G : Nat → Prop} {w w' w'' : World}
theorem Chg.refl (F : Nat → Prop) (w : World) : Chg F w w := ⟨rfl, rfl, rfl, Nat.le_refl _, fun _ _ _ => rfl⟩
theorem Chg.then (h : Chg F w w') (h' : Chg G w' w'') : Chg (fun k => F k ∨ G k) w w'' :=
  ⟨h'.os.trans h.os, h'.tape.trans h.tape, h'.output.trans h.output, Nat.le_trans h.size h'.size,
    fun k hk hn => (h'.block k (Nat.lt_of_lt_of_le hk h.size) (fun hg => hn (.inr hg))).trans (h.block k hk (fun hf => hn (.inl hf)))⟩
theorem Chg.trans (h : Chg F w w') (h' : Chg G w' w'') (hs : ∀ k, k < w.heap.size → G k → F k) : Chg F w w'' :=
  ⟨h'.os.trans h.os, h'.tape.trans h.tape, h'.output.trans h.output, Nat.le_trans h.size h'.size,
    fun k hk hn => (h'.block k (Nat.lt_of_lt_of_le hk h.size) (fun hg => hn (hs k hk hg))).trans (h.block k hk hn)⟩
theorem Chg.mono (h : Chg F w w') (hs : ∀ k, k < w.heap.size → F k → G k) : Chg G w w' := ⟨h.os, h.tape, h.output, h.size, fun k hk hn => h.block k hk (fun hf => hn (hs k hk hf))⟩
theorem Chg.of_below {B : Nat} (h : Below B w w') : Chg (fun k => B ≤ k) w w' := ⟨h.os, h.tape, h.output, h.size, fun k _ hn => h.block k (Nat.lt_of_not_le hn)⟩
theorem Chg.of_new (h : Below w.heap.size w w') : Chg (fun _ => False) w w' := ⟨h.os, h.tape, h.output, h.size, fun k hk _ => h.block k hk⟩
theorem Chg.of_grown {row : Option Nat} (h : w.grownBy w' row) : Chg (fun k => some k = row) w w' := ⟨h.os, h.tape, h.output, h.size, fun k hk hn => h.block k hk hn⟩
theorem Chg.below {w0 : World} {B : Nat} (h : Below B w0 w) (hc : Chg F w w') (hB : B ≤ w.heap.size) (hF : ∀ k, F k → B ≤ k) : Below B w0 w' :=
  h.trans ⟨hc.os, hc.tape, hc.output, hc.size, fun k hk => hc.block k (Nat.lt_of_lt_of_le hk hB) (fun hf => Nat.not_le.2 hk (hF k hf))⟩
theorem Chg.to_below {B : Nat} (hc : Chg F w w') (hB : B ≤ w.heap.size) (hF : ∀ k, F k → B ≤ k) : Below B w w' := Chg.below (Below.refl B w) hc hB hF
theorem Chg.alloc (w : World) (o : Obj) : Chg (fun _ => False) w (w.alloc o) := ⟨rfl, rfl, rfl, by simp, fun k hk _ => Below.heap_alloc w o k hk⟩
theorem Chg.setCell (w : World) (p : Addr) (u : Value) : Chg (fun k => k = p.block) w (w.setCell p u) := ⟨rfl, rfl, rfl, by simp [World.setCell], fun k _ hn => Below.heap_setCell _ _ _ _ hn⟩
theorem Chg.drew (w : World) : Chg (fun _ => False) w w.drew := ⟨rfl, rfl, rfl, Nat.le_refl _, fun _ _ _ => rfl⟩
end
theorem Rd.chg {k : IntKind} {w w' : World} {A : Option Addr} {l : List Int} {F : Nat → Prop} (h : Rd k w A l) (hc : Chg F w w') (hF : ∀ ad, A = some ad → ¬ F ad.block) : Rd k w' A l := fun hne => by
  obtain ⟨ad, e, h1, h2⟩ := h hne
  refine ⟨ad, e, Nat.lt_of_lt_of_le h1 hc.size, fun j hj => ?_⟩
  rw [World.cell?_of_block (w := w) (by rw [add_block]; exact hc.block _ h1 (hF ad e))]
  exact h2 j hj

/-- A row of the call's own: its numbers. -/
def OwnI (k : IntKind) (w : World) (B : Nat) (e : TypeId) (v : Value) (l : List Int) : Prop := w.ownsRow B e 1 v l.length (l.map (Value.int k))
section
variable {k : IntKind} {w w' : World} {B : Nat} {e : TypeId} {v : Value} {l : List Int}
theorem OwnI.nil (k : IntKind) (w : World) (B : Nat) (e : TypeId) : OwnI k w B e (.slice none 0 0) [] := ⟨by simp, .inl ⟨rfl, rfl⟩⟩
theorem OwnI.slice (h : OwnI k w B e v l) : ∃ A c, v = .slice A l.length c ∧ l.length ≤ c ∧ c ≤ maxLen ∧ Rd k w A l ∧ ∀ ad, A = some ad → B ≤ ad.block ∧ ad.block < w.heap.size ∧ ad = ⟨ad.block, 0, none⟩ := by
  rcases h.2 with ⟨rfl, h0⟩ | ⟨g, cap, cur, rfl, hB, hg, h1, h2, h3, h4⟩
  · obtain rfl : l = [] := List.eq_nil_of_length_eq_zero h0
    exact ⟨none, 0, rfl, Nat.le_refl _, Nat.zero_le _, Rd.nil, fun ad e => by cases e⟩
  · refine ⟨_, cap, rfl, h1, h2, Rd.block hg (fun j hj => ?_), fun ad e => ?_⟩
    · have h5 : (cur.toList.take (l.length * 1))[j]? = (l.map (Value.int k))[j]? := by rw [h4]
      rw [List.getElem?_take, if_pos (by omega)] at h5
      have h6 : cur[j]? = cur.toList[j]? := by simp
      rw [h6, h5]
      simp [List.getElem?_eq_getElem hj, List.getD_eq_getElem?_getD]
    · injection e with e; subst e
      exact ⟨hB, (Array.getElem?_eq_some_iff.1 hg).1, rfl⟩
theorem OwnI.kept {F : Nat → Prop} (h : OwnI k w B e v l) (hc : Chg F w w') (hF : ∀ g, v.ownBlock = some g → ¬ F g) : OwnI k w' B e v l := by
  refine ⟨h.1, ?_⟩
  rcases h.2 with hn | ⟨g, cap, cur, rfl, hb, hgg, rest⟩
  · exact .inl hn
  · refine .inr ⟨g, cap, cur, rfl, hb, ?_, rest⟩
    rw [hc.block g (Array.getElem?_eq_some_iff.1 hgg).1 (hF g rfl)]
    exact hgg
theorem OwnI.new (h : OwnI k w B e v l) (hb : Below w.heap.size w w') : OwnI k w' B e v l := h.kept (Chg.of_new hb) (fun _ _ hf => hf)
theorem OwnI.alloc (h : OwnI k w B e v l) (o : Obj) : OwnI k (w.alloc o) B e v l := h.kept (Chg.alloc w o) (fun _ _ hf => hf)
theorem OwnI.lower {B' : Nat} (h : OwnI k w B e v l) (hB : B' ≤ B) : OwnI k w B' e v l := by
  refine ⟨h.1, ?_⟩
  rcases h.2 with hn | ⟨g, cap, cur, rfl, hb, rest⟩
  · exact .inl hn
  · exact .inr ⟨g, cap, cur, rfl, Nat.le_trans hB hb, rest⟩
theorem OwnI.lt (h : OwnI k w B e v l) : ∀ g, v.ownBlock = some g → B ≤ g ∧ g < w.heap.size := World.ownsRow.lt h
/-- One number is written over. -/
theorem OwnI.set {g n c j : Nat} {x : Int} (h : OwnI k w B e (.slice (some ⟨g, 0, none⟩) n c) l) (hj : j < l.length) : OwnI k (w.setCell ⟨g, j, none⟩ (.int k x)) B e (.slice (some ⟨g, 0, none⟩) n c) (l.set j x) := by
  refine ⟨by simp, ?_⟩
  rcases h.2 with ⟨h1, _⟩ | ⟨g', cap, cur, h1, hB, hg, h2, h3, h4, h5⟩
  · cases h1
  · injection h1 with h1 h6 h7
    injection h1 with h1
    injection h1 with h1
    subst h1 h7 h6
    refine .inr ⟨g, c, cur.setIfInBounds j (.int k x), by rw [List.length_set], hB, heap_setCell_same _ _ _ _ _ _ hg, by rw [List.length_set]; exact h2, h3, by rw [Array.size_setIfInBounds]; exact h4, ?_⟩
    rw [List.length_set, Array.toList_setIfInBounds, List.take_set, h5, List.map_set]
theorem OwnI.cell {g n c j : Nat} (h : OwnI k w B e (.slice (some ⟨g, 0, none⟩) n c) l) (hj : j < l.length) : w.cell? ⟨g, j, none⟩ = some (.int k (l.getD j 0)) ∧ w.frozen? ⟨g, j, none⟩ = false ∧ B ≤ g ∧ g < w.heap.size ∧ n = l.length ∧ n ≤ c := by
  rcases h.2 with ⟨h1, _⟩ | ⟨g', cap, cur, h1, hB, hg, h2, h3, h4, h5⟩
  · cases h1
  · injection h1 with h1 h6 h7
    injection h1 with h1
    injection h1 with h1
    subst h1 h7
    refine ⟨?_, frozen_of_row _ _ _ _ _ hg, hB, (Array.getElem?_eq_some_iff.1 hg).1, h6, by omega⟩
    have h8 : (cur.toList.take (l.length * 1))[j]? = (l.map (Value.int k))[j]? := by rw [h5]
    rw [List.getElem?_take, if_pos (by omega)] at h8
    rw [cell_of_row _ _ _ _ _ _ hg]
    have h9 : cur[j]? = cur.toList[j]? := by simp
    rw [h9, h8]
    simp [List.getElem?_eq_getElem hj, List.getD_eq_getElem?_getD]
/-- A row that is not empty lies in a block. -/
theorem OwnI.ptr (h : OwnI k w B e v l) (hl : 0 < l.length) : ∃ g c, v = .slice (some ⟨g, 0, none⟩) l.length c := by
  obtain ⟨A, c, rfl, _, _, hr, hA⟩ := h.slice
  obtain ⟨ad, rfl, _⟩ := hr (by intro e; rw [e] at hl; exact absurd hl (Nat.lt_irrefl _))
  exact ⟨ad.block, c, by rw [(hA ad rfl).2.2]⟩
/-- Two values do not share their blocks. -/
def Sep (v u : Value) : Prop := ∀ g, v.ownBlock = some g → u.ownBlock ≠ some g
theorem Sep.nil (u : Value) : Sep (.slice none 0 0) u := fun g h => by simp [Value.ownBlock] at h
theorem Sep.symm {v u : Value} (h : Sep v u) : Sep u v := fun g h1 h2 => h g h2 h1
/-- Behind an append to v: u stays apart. -/
theorem Sep.grow {v u v' : Value} {n : Nat} (h : Sep v u) (hv : v'.ownBlock = v.ownBlock ∨ ∃ g, v'.ownBlock = some g ∧ n ≤ g) (hu : ∀ g, u.ownBlock = some g → g < n) : Sep v' u := by
  intro g h1 h2
  rcases hv with hv | ⟨g', h3, h4⟩
  · rw [hv] at h1; exact h g h1 h2
  · rw [h1] at h3; injection h3 with h3; subst h3; exact Nat.not_le.2 (hu g h2) h4
/-- Behind an append to v: what u holds stays. -/
theorem OwnI.other {u : Value} {m : List Int} (h : OwnI k w B e u m) (hc : Chg (fun k => some k = v.ownBlock) w w') (hs : Sep v u) : OwnI k w' B e u m :=
  h.kept hc fun g hg hf => hs g hf.symm hg
/-- A block that was just laid. -/
theorem OwnI.made (w : World) (k : IntKind) (l : List Int) (e : TypeId) (cs : Array Value) (hcs : cs = (l.map (Value.int k)).toArray) (hB : B ≤ w.heap.size) (hl : l.length ≤ maxLen) :
    OwnI k (w.alloc (.cells cs e)) B e (.slice (some ⟨w.heap.size, 0, none⟩) l.length l.length) l := by
  refine ⟨by simp, .inr ⟨_, _, cs, rfl, hB, heap_alloc_new _ _, Nat.le_refl _, hl, by subst hcs; simp, ?_⟩⟩
  subst hcs
  rw [Nat.mul_one]
  exact List.take_of_length_le (by simp)
end
section
variable {P : Program} {w : World} {k : IntKind} {B : Nat} {e : TypeId} {v : Value} {l : List Int}
theorem ap_run (t ty : TypeId) (z : Value) (bytes : Nat) (ht : P.underlying t = some (.slice e)) (hinfo : (P.info? e).map (fun i => (i.zero, i.size, i.bytes)) = some (some z, 1, bytes)) (hz : z.cells.size = 1)
    (hown : OwnI k w B e v l) (X : Option Addr) (n c : Nat) (news : List Int) (hn : news.length = n) (hX : Rd k w X news) (hXn : X = none → n = 0) (h63 : l.length + n ≤ maxLen) (hb : (l.length + n) * bytes ≤ 140737488355328) (hbase : B ≤ w.heap.size) :
    ∃ v' w', (Builtin.append_ #[t, t] ty #[v, .slice X n c]).run P w = .ok v' w' ∧ OwnI k w' B e v' (l ++ news) ∧ w.grownBy w' v.ownBlock ∧ (v'.ownBlock = v.ownBlock ∨ v'.ownBlock = some w.heap.size) := by
  obtain ⟨i, hi, hzz⟩ := Option.map_eq_some_iff.1 hinfo
  simp only [Prod.mk.injEq] at hzz
  obtain ⟨hz0, hs, hby⟩ := hzz
  subst hn
  cases X with
  | some ad =>
    obtain ⟨v', w', h1, h2, h3, _, h5⟩ := run_append_own_at (P := P) w B t ty e i z 1 bytes ht hi hz0 hs hby hz (by omega) v l.length (l.map (Value.int k)) hown ad news.length c (news.map (Value.int k)) (by simp)
      (fun j u hu => by
        have hj : j < news.length := by
          have := (List.getElem?_eq_some_iff.1 hu).1; simpa using this
        obtain ⟨ad', e', _, hc⟩ := hX.cell hj
        cases e'
        rw [hc, ← hu]
        simp [List.getElem?_eq_getElem hj, List.getD_eq_getElem?_getD])
      (fun u hu => by obtain ⟨x, _, rfl⟩ := List.mem_map.1 hu; rfl) h63 hb hbase
    refine ⟨v', w', h1, ?_, h3, h5⟩
    unfold OwnI
    rw [List.length_append, List.map_append]
    exact h2
  | none =>
    obtain rfl : news = [] := List.eq_nil_of_length_eq_zero (hXn rfl)
    obtain ⟨A, c', rfl, h1, h2, _⟩ := hown.slice
    refine ⟨_, w, ?_, by rw [List.append_nil]; exact hown, ⟨rfl, rfl, rfl, Nat.le_refl _, fun _ _ _ => rfl⟩, .inl rfl⟩
    simp only [Builtin.append_, Sem.run_bind, run_underlying ht, Result.andThen_ok]
    have hu : ((TypeDesc.slice e) matches .int _) = false := rfl
    simp [sizeOf, typeInfo, hi, hs, Builtin.lenOf, h1, Builtin.firstCells, run_underlying ht]
    cases A <;> simp [storeCells]
/-- A slice type of whole numbers, its facts. -/
structure RowTy (P : Program) (t e : TypeId) (k : IntKind) : Prop where
  ht : P.underlying t = some (.slice e)
  hi : ∃ bytes, bytes ≤ 8 ∧ (P.info? e).map (fun i => (i.zero, i.size, i.bytes)) = some (some (.int k 0), 1, bytes)
theorem ap_wp {w0 : World} {K : Act → World → Prop} {Q : Exit → Act → World → Prop} {o : Oper} {a : Act} {t : TypeId} (T : RowTy P t e k) (bd : Below w0.heap.size w0 w) (hown : OwnI k w w0.heap.size e v l) {X : Option Addr} {news : List Int} (hX : Rd k w X news) (hXn : X = none → news = [])
    (hb : l.length + news.length ≤ 17592186044416) (s x : Operand) (n c : Nat) (ho : o.op = .call { callee := .builtin .append, args := #[s, x], argTypes := #[t, t] }) (hs : a.eval s = v) (hx : a.eval x = .slice X n c) (hn : news.length = n)
    (h : ∀ v' w', OwnI k w' w0.heap.size e v' (l ++ news) → Below w0.heap.size w0 w' → w.grownBy w' v.ownBlock → (v'.ownBlock = v.ownBlock ∨ v'.ownBlock = some w.heap.size) → K (a.put o.dst v') w') : Oper.wp P o a w K Q := by
  obtain ⟨bytes, hle, hinfo⟩ := T.hi
  subst hn
  have hmul : (l.length + news.length) * bytes ≤ (l.length + news.length) * 8 := Nat.mul_le_mul_left _ hle
  obtain ⟨v', w', hr, h2, h3, h4⟩ := ap_run (P := P) t o.type (.int k 0) bytes T.ht hinfo rfl hown X news.length c news rfl hX (fun e => by rw [hXn e]; rfl) (by unfold maxLen; omega) (by omega) bd.size
  unfold Oper.wp execOp
  simp only [ho, resolve, invoke, builtin, Sem.run_bind, Sem.run_pure, Result.andThen_ok, List.map_toArray, List.map_cons, List.map_nil, hs, hx, hr]
  exact h v' w' h2 (bd.grown h3 bd.size fun k hk => (hown.lt k hk).1) h3 h4
theorem ap_list {w0 : World} {ops : Array Oper} {rest : List Oper} {Q : Exit → Act → World → Prop} {o : Oper} {a : Act} {t : TypeId} (hgd : o.guard = none) (T : RowTy P t e k) (bd : Below w0.heap.size w0 w) (hown : OwnI k w w0.heap.size e v l) {X : Option Addr} {news : List Int} (hX : Rd k w X news) (hXn : X = none → news = [])
    (hb : l.length + news.length ≤ 17592186044416) (s x : Operand) (n c : Nat) (ho : o.op = .call { callee := .builtin .append, args := #[s, x], argTypes := #[t, t] }) (hs : a.eval s = v) (hx : a.eval x = .slice X n c) (hn : news.length = n)
    (h : ∀ v' w', OwnI k w' w0.heap.size e v' (l ++ news) → Below w0.heap.size w0 w' → w.grownBy w' v.ownBlock → (v'.ownBlock = v.ownBlock ∨ v'.ownBlock = some w.heap.size) → wpList P ops Q rest (a.put o.dst v') w') : wpList P ops Q (o :: rest) a w :=
  wpList_plain hgd fun _ hK => ap_wp T bd hown hX hXn hb s x n c ho hs hx hn fun v' w' h1 h2 h3 h4 => hK _ _ (h v' w' h1 h2 h3 h4)
theorem Rd.lit (w : World) (k : IntKind) (l : List Int) (cs : Array Value) (t : TypeId) (fr : Nat × Nat) (hc : cs = (l.map (Value.int k)).toArray) : Rd k (w.alloc (.cells cs t fr)) (some ⟨w.heap.size, 0, none⟩) l := by
  refine Rd.block (heap_alloc_new _ _) (fun j hj => ?_)
  subst hc
  simp [List.getElem?_eq_getElem hj, List.getD_eq_getElem?_getD]
/-- What is appended is a literal that was just laid. -/
theorem ap_lit {w0 : World} {ops : Array Oper} {rest : List Oper} {Q : Exit → Act → World → Prop} {o : Oper} {a : Act} {t t' : TypeId} {cs : Array Value} (hgd : o.guard = none) (T : RowTy P t e k) (bd : Below w0.heap.size w0 w) (hown : OwnI k w w0.heap.size e v l) (news : List Int) (hcs : cs = (news.map (Value.int k)).toArray)
    (hb : l.length + news.length ≤ 17592186044416) (s x : Operand) (n c : Nat) (ho : o.op = .call { callee := .builtin .append, args := #[s, x], argTypes := #[t, t] }) (hs : a.eval s = v) (hx : a.eval x = .slice (some ⟨w.heap.size, 0, none⟩) n c) (hn : news.length = n)
    (h : ∀ v' w', OwnI k w' w0.heap.size e v' (l ++ news) → Below w0.heap.size w0 w' → Chg (fun k => some k = v.ownBlock) w w' → (v'.ownBlock = v.ownBlock ∨ ∃ g, v'.ownBlock = some g ∧ w.heap.size ≤ g) → wpList P ops Q rest (a.put o.dst v') w') : wpList P ops Q (o :: rest) a (w.alloc (.cells cs t')) :=
  ap_list hgd T (bd.alloc bd.size _) (hown.alloc _) (Rd.lit w k news cs t' (0, 0) hcs) (fun e => by cases e) hb s x n c ho hs hx hn fun v' w' h1 h2 h3 h4 =>
    h v' w' h1 h2 (((Chg.alloc w _).then (Chg.of_grown h3)).mono (fun k _ hf => hf.elim False.elim id)) (h4.imp id fun e => ⟨_, e, by simp⟩)
/-- The same with a literal, in a region that draws its order. -/
theorem ap_lit_wp {w0 : World} {K : Act → World → Prop} {Q : Exit → Act → World → Prop} {o : Oper} {a : Act} {t t' : TypeId} {cs : Array Value} (T : RowTy P t e k) (bd : Below w0.heap.size w0 w) (hown : OwnI k w w0.heap.size e v l) (news : List Int) (hcs : cs = (news.map (Value.int k)).toArray)
    (hb : l.length + news.length ≤ 17592186044416) (s x : Operand) (n c : Nat) (ho : o.op = .call { callee := .builtin .append, args := #[s, x], argTypes := #[t, t] }) (hs : a.eval s = v) (hx : a.eval x = .slice (some ⟨w.heap.size, 0, none⟩) n c) (hn : news.length = n)
    (h : ∀ v' w', OwnI k w' w0.heap.size e v' (l ++ news) → Below w0.heap.size w0 w' → Chg (fun k => some k = v.ownBlock) w w' → (v'.ownBlock = v.ownBlock ∨ ∃ g, v'.ownBlock = some g ∧ w.heap.size ≤ g) → K (a.put o.dst v') w') : Oper.wp P o a (w.alloc (.cells cs t')) K Q :=
  ap_wp T (bd.alloc bd.size _) (hown.alloc _) (Rd.lit w k news cs t' (0, 0) hcs) (fun e => by cases e) hb s x n c ho hs hx hn fun v' w' h1 h2 h3 h4 =>
    h v' w' h1 h2 (((Chg.alloc w _).then (Chg.of_grown h3)).mono (fun k _ hf => hf.elim False.elim id)) (h4.imp id fun e => ⟨_, e, by simp⟩)
/-- What is copied into an own row. -/
theorem copy_run {g c : Nat} (dT sT ty elem : TypeId) (hu : P.underlying dT = some (.slice elem)) (hs : (P.info? elem).map (·.size) = some 1) (h : OwnI k w B e (.slice (some ⟨g, 0, none⟩) l.length c) l) (off : Nat) (D : Option Addr) (dLen dCap : Nat) (X : Option Addr) (sLen sCap : Nat) (src : List Int)
    (hD : src ≠ [] → D = some ⟨g, off, none⟩) (hX : Rd k w X src) (hn : src.length = Nat.min sLen dLen) (hfit : off + src.length ≤ l.length) :
    ∃ w', (Builtin.copy_ #[dT, sT] ty #[.slice D dLen dCap, .slice X sLen sCap]).run P w = .ok (goInt src.length) w' ∧ OwnI k w' B e (.slice (some ⟨g, 0, none⟩) l.length c) (splice l off src) ∧ Chg (fun k => k = g) w w' := by
  by_cases h0 : src = []
  · subst h0
    refine ⟨w, run_copy_none w dT sT ty elem D X dLen dCap sLen sCap hu hs (by simpa using hn.symm), ?_, Chg.refl _ _⟩
    have : splice l off ([] : List Int) = l := by simp [splice]
    rw [this]; exact h
  · obtain rfl := hD h0
    obtain ⟨ad, rfl, h1, h2⟩ := hX h0
    rcases h.2 with ⟨h3, _⟩ | ⟨g', cap, cur, h3, hB, hg, h4, h5, h6, h7⟩
    · cases h3
    · injection h3 with h3 h8 h9
      injection h3 with h3
      injection h3 with h3
      subst h3 h9
      have hr := run_copy_row (P := P) w dT sT ty elem g off dLen dCap ad sLen sCap cur e (src.map (Value.int k)) hu hs hg (by rw [List.length_map]; exact hn) (fun j v hj => by
        have hjl : j < src.length := by
          rcases Nat.lt_or_ge j src.length with h | h
          · exact h
          · simp [List.getElem?_eq_none (show (src.map (Value.int k)).length ≤ j by simpa using h)] at hj
        rw [h2 j hjl]
        simp [List.getElem?_eq_getElem hjl] at hj
        subst hj
        simp [List.getD, List.getElem?_eq_getElem hjl]) (by rw [List.length_map]; omega) (fun v hv => by obtain ⟨x, _, rfl⟩ := List.mem_map.1 hv; rfl)
      rw [List.length_map] at hr
      have hsz : off + src.length ≤ cur.toList.length := by simp; omega
      refine ⟨_, hr, ⟨by simp, .inr ⟨g, c, _, by rw [length_splice _ _ _ hfit], hB, setRow_heap w g cur _ e _ hg, by rw [length_splice _ _ _ hfit]; exact h4, h5, ?_, ?_⟩⟩, ⟨rfl, rfl, rfl, by simp [World.setRow], fun j hj hn' => setRow_other w g j _ hn'⟩⟩
      · simp; omega
      · rw [length_splice _ _ _ hfit, Nat.mul_one]
        have h7' : cur.toList.take l.length = l.map (Value.int k) := by rw [← h7, Nat.mul_one]
        simp only [splice, List.map_append, List.map_take, List.map_drop]
        rw [← h7']
        simp only [List.take_append, List.length_take, List.length_append, List.length_map, List.length_drop, List.append_assoc, List.take_take, List.drop_take]
        rw [show min l.length off = off by omega, show min off cur.toList.length = off by omega, List.take_of_length_le (l := List.map (Value.int k) src) (by rw [List.length_map]; omega), show l.length - off - src.length = l.length - (off + src.length) by omega, show min off l.length = off by omega]
theorem copy_list {ops : Array Oper} {rest : List Oper} {Q : Exit → Act → World → Prop} {o : Oper} {a : Act} {g c : Nat} (hgd : o.guard = none) (d s : Operand) (dT sT elem : TypeId) (ho : o.op = .call { callee := .builtin .copy, args := #[d, s], argTypes := #[dT, sT] })
    (hu : P.underlying dT = some (.slice elem)) (hs : (P.info? elem).map (·.size) = some 1) (h : OwnI k w B e (.slice (some ⟨g, 0, none⟩) l.length c) l) (off : Nat) (D : Option Addr) (dLen dCap : Nat) (X : Option Addr) (sLen sCap : Nat) (src : List Int)
    (hd : a.eval d = .slice D dLen dCap) (hss : a.eval s = .slice X sLen sCap)
    (hD : src ≠ [] → D = some ⟨g, off, none⟩) (hX : Rd k w X src) (hn : src.length = Nat.min sLen dLen) (hfit : off + src.length ≤ l.length)
    (hK : ∀ w', OwnI k w' B e (.slice (some ⟨g, 0, none⟩) l.length c) (splice l off src) → Chg (fun k => k = g) w w' → wpList P ops Q rest (a.put o.dst (goInt src.length)) w') : wpList P ops Q (o :: rest) a w := by
  obtain ⟨w', hr, h1, h2⟩ := copy_run (P := P) dT sT o.type elem hu hs h off D dLen dCap X sLen sCap src hD hX hn hfit
  refine wpList_plain hgd fun K hK' => ?_
  unfold Oper.wp
  simp [execOp, ho, resolve, invoke, builtin, hd, hss, hr, Result.andThen]
  exact hK' _ _ (hK w' h1 h2)
theorem copy_list_m {ops : Array Oper} {rest : List Oper} {Q : Exit → Act → World → Prop} {o : Oper} {a : Act} {g c m : Nat} (hm : l.length = m) (hgd : o.guard = none) (d s : Operand) (dT sT elem : TypeId) (ho : o.op = .call { callee := .builtin .copy, args := #[d, s], argTypes := #[dT, sT] })
    (hu : P.underlying dT = some (.slice elem)) (hs : (P.info? elem).map (·.size) = some 1) (h : OwnI k w B e (.slice (some ⟨g, 0, none⟩) m c) l) (off : Nat) (D : Option Addr) (dLen dCap : Nat) (X : Option Addr) (sLen sCap : Nat) (src : List Int)
    (hd : a.eval d = .slice D dLen dCap) (hss : a.eval s = .slice X sLen sCap)
    (hD : src ≠ [] → D = some ⟨g, off, none⟩) (hX : Rd k w X src) (hn : src.length = Nat.min sLen dLen) (hfit : off + src.length ≤ m)
    (hK : ∀ w', OwnI k w' B e (.slice (some ⟨g, 0, none⟩) m c) (splice l off src) → Chg (fun k => k = g) w w' → wpList P ops Q rest (a.put o.dst (goInt src.length)) w') : wpList P ops Q (o :: rest) a w := by
  subst hm
  exact copy_list hgd d s dT sT elem ho hu hs h off D dLen dCap X sLen sCap src hd hss hD hX hn hfit hK
end
end Go.Proofs.YticnjkdaccacaaaDoor.Own
