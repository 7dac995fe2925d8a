/- Maps with whole numbers for keys, among the things in memory. -/
import Derived.Test.YticnjkdaccacaaaDoorSo
namespace Go.Proofs.YticnjkdaccacaaaDoor.Sx
open Go Go.RowKit Base Own

/-! ### What a map is: its entries, in the order in which they came -/
def upM {α : Type} : List (Int × α) → Int → α → List (Int × α)
  | [], x, v => [(x, v)]
  | p :: r, x, v => if p.1 = x then (p.1, v) :: r else p :: upM r x v
def delM {α : Type} : List (Int × α) → Int → List (Int × α)
  | [], _ => []
  | p :: r, x => if p.1 = x then r else p :: delM r x
def lkM {α : Type} (m : List (Int × α)) (x : Int) : Option α := m.lookup x
section
variable {α : Type}
theorem lkM_cons (m : List (Int × α)) (p : Int × α) (x : Int) : lkM (p :: m) x = if p.1 = x then some p.2 else lkM m x := by
  obtain ⟨a, b⟩ := p
  unfold lkM
  rw [List.lookup_cons]
  by_cases h : a = x
  · subst h; simp
  · have : (x == a) = false := by simpa using fun e => h e.symm
    simp [this, h]
theorem lk_up (m : List (Int × α)) (x y : Int) (v : α) : lkM (upM m x v) y = if x = y then some v else lkM m y := by
  induction m with
  | nil => unfold upM; rw [lkM_cons]
  | cons p r ih =>
    unfold upM
    by_cases h : p.1 = x
    · rw [if_pos h, lkM_cons, lkM_cons, h]
      by_cases hxy : x = y
      · rw [if_pos hxy, if_pos hxy]
      · rw [if_neg hxy, if_neg hxy, if_neg hxy]
    · rw [if_neg h, lkM_cons, lkM_cons, ih]
      by_cases hp : p.1 = y
      · rw [if_pos hp, if_pos hp, if_neg (fun e => h (by rw [hp, e]))]
      · rw [if_neg hp, if_neg hp]
def keysM (m : List (Int × α)) : List Int := m.map (·.1)
theorem lk_some {m : List (Int × α)} {x : Int} {v : α} (h : lkM m x = some v) : (x, v) ∈ m := by
  induction m with
  | nil => cases h
  | cons p r ih =>
    rw [lkM_cons] at h
    by_cases hp : p.1 = x
    · rw [if_pos hp] at h; injection h with h; subst h; subst hp; exact List.mem_cons_self
    · rw [if_neg hp] at h; exact List.mem_cons_of_mem _ (ih h)
theorem lk_none {m : List (Int × α)} {x : Int} : lkM m x = none ↔ x ∉ keysM m := by
  induction m with
  | nil => simp [lkM, keysM]
  | cons p r ih =>
    rw [lkM_cons]
    by_cases hp : p.1 = x
    · rw [if_pos hp]; simp [keysM, hp]
    · rw [if_neg hp, ih]; simp [keysM, Ne.symm hp]
theorem keys_up (m : List (Int × α)) (x : Int) (v : α) : keysM (upM m x v) = if x ∈ keysM m then keysM m else keysM m ++ [x] := by
  induction m with
  | nil => rfl
  | cons p r ih =>
    unfold upM
    by_cases h : p.1 = x
    · rw [if_pos h, if_pos (by simp [keysM, h])]; rfl
    · rw [if_neg h]
      show p.1 :: keysM (upM r x v) = _
      rw [ih]
      by_cases hm : x ∈ keysM r
      · rw [if_pos hm, if_pos (by simp only [keysM, List.map_cons, List.mem_cons]; exact .inr hm)]; rfl
      · rw [if_neg hm, if_neg (by simp only [keysM, List.map_cons, List.mem_cons, not_or]; exact ⟨fun e => h e.symm, hm⟩)]; rfl
theorem nodup_up {m : List (Int × α)} (h : (keysM m).Nodup) (x : Int) (v : α) : (keysM (upM m x v)).Nodup := by
  rw [keys_up]
  split
  · exact h
  · rename_i hx
    rw [List.nodup_append]
    exact ⟨h, by simp, fun a ha b hb e => by rw [List.mem_singleton] at hb; subst hb; subst e; exact hx ha⟩
theorem mem_up {m : List (Int × α)} {x : Int} {v : α} {p : Int × α} (h : p ∈ upM m x v) : p ∈ m ∨ p = (x, v) := by
  induction m with
  | nil => simp [upM] at h; exact .inr h
  | cons q r ih =>
    unfold upM at h
    split at h
    · rename_i hq
      rcases List.mem_cons.1 h with h | h
      · exact .inr (by rw [h, hq])
      · exact .inl (List.mem_cons_of_mem _ h)
    · rcases List.mem_cons.1 h with h | h
      · exact .inl (by rw [h]; exact List.mem_cons_self)
      · exact (ih h).imp (List.mem_cons_of_mem _) id
theorem mem_del {m : List (Int × α)} {x : Int} {p : Int × α} (h : p ∈ delM m x) : p ∈ m := by
  induction m with
  | nil => cases h
  | cons q r ih =>
    unfold delM at h
    split at h
    · exact List.mem_cons_of_mem _ h
    · rcases List.mem_cons.1 h with h | h
      · rw [h]; exact List.mem_cons_self
      · exact List.mem_cons_of_mem _ (ih h)
theorem del_sub (m : List (Int × α)) (x : Int) : (delM m x).Sublist m := by
  induction m with
  | nil => exact .slnil
  | cons q r ih =>
    unfold delM
    split
    · exact .cons _ (List.Sublist.refl _)
    · exact .cons_cons _ ih
theorem lk_del {m : List (Int × α)} (hn : (keysM m).Nodup) (x y : Int) : lkM (delM m x) y = if x = y then none else lkM m y := by
  induction m with
  | nil => unfold delM; split <;> rfl
  | cons p r ih =>
    have hn' : p.1 ∉ keysM r ∧ (keysM r).Nodup := by simpa [keysM] using hn
    unfold delM
    by_cases h : p.1 = x
    · rw [if_pos h, lkM_cons, h]
      by_cases hxy : x = y
      · rw [if_pos hxy, ← hxy, lk_none, ← h]; exact hn'.1
      · rw [if_neg hxy, if_neg hxy]
    · rw [if_neg h, lkM_cons, lkM_cons, ih hn'.2]
      by_cases hp : p.1 = y
      · rw [if_pos hp, if_pos hp, if_neg (fun e => h (by rw [hp, e]))]
      · rw [if_neg hp, if_neg hp]
end
/-! ### In memory -/
/-- The entries of a map object tell m. -/
structure Tells {α : Type} (k : IntKind) (f : α → Value) (es : Array MapEntry) (clock : Nat) (m : List (Int × α)) : Prop where
  ents : es.toList.map (fun e => (e.key, e.val)) = m.map fun p => (Value.int k p.1, f p.2)
  nodup : (keysM m).Nodup
  wf : ∀ p ∈ m, (Lit.int k p.1).wf = true ∧ vok (f p.2) = true
  born : (es.toList.map (·.born)).Nodup ∧ ∀ e ∈ es.toList, e.born < clock
section
variable {α : Type} {P : Program} {k : IntKind} {f : α → Value} {es : Array MapEntry} {clock : Nat} {m : List (Int × α)}
theorem Tells.empty (k : IntKind) (f : α → Value) : Tells k f #[] 0 [] := ⟨rfl, List.nodup_nil, (fun p hp => by cases hp), List.nodup_nil, (fun e he => by cases he)⟩
theorem findNow_tells {K : Int} : ∀ {l : List MapEntry} {m : List (Int × α)} (i : Nat), l.map (fun e => (e.key, e.val)) = m.map (fun p => (Value.int k p.1, f p.2)) →
    Instr.findNow (.int k) (.int k K) l i = some ((m.zipIdx i).find? (fun p => p.1.1 == K) |>.map fun p => (p.2, f p.1.2)) := by
  intro l
  induction l with
  | nil =>
    intro m i h
    cases m with
    | nil => rfl
    | cons p r => simp at h
  | cons e l ih =>
    intro m i h
    cases m with
    | nil => simp at h
    | cons p r =>
      simp only [List.map_cons, List.cons.injEq, Prod.mk.injEq] at h
      obtain ⟨⟨h1, h2⟩, h3⟩ := h
      unfold Instr.findNow
      rw [h1]
      simp only [Instr.sameNow, if_true]
      rw [List.zipIdx_cons, List.find?_cons]
      by_cases hk : p.1 = K
      · have e1 : (K == p.1) = true := by simp [hk]
        have e2 : (p.1 == K) = true := by simp [hk]
        simp only [e1, e2]
        rw [h2]; rfl
      · have e1 : (K == p.1) = false := by simpa using fun e => hk e.symm
        have e2 : (p.1 == K) = false := by simpa using hk
        simp only [e1, e2]
        exact ih (i + 1) h3
theorem find_zip {m : List (Int × α)} {K : Int} : ∀ (i : Nat), ((m.zipIdx i).find? (fun p => p.1.1 == K)).map (fun p => p.1.2) = lkM m K := by
  induction m with
  | nil => intro i; rfl
  | cons p r ih =>
    intro i
    rw [List.zipIdx_cons, List.find?_cons, lkM_cons]
    by_cases hk : p.1 = K
    · have e2 : (p.1 == K) = true := by simp [hk]
      simp only [e2, if_pos hk]; rfl
    · have e2 : (p.1 == K) = false := by simpa using hk
      simp only [e2, if_neg hk]
      exact ih (i + 1)
theorem findKey_run {kt : TypeId} (hu : P.underlying kt = some (.int k)) (h : Tells k f es clock m) (K : Int) (w : World) :
    (Instr.findKey kt (.int k K) es.toList).run P w = .ok ((m.zipIdx 0).find? (fun p => p.1.1 == K) |>.map fun p => (p.2, f p.1.2)) w := by
  unfold Instr.findKey
  rw [Sem.run_bind, run_underlying hu, Result.andThen_ok, findNow_tells 0 h.ents]
  rfl
theorem checkKey_run {kt : TypeId} (hu : P.underlying kt = some (.int k)) (b : Bool) (K : Int) (w : World) : (Instr.checkKey b 10000 kt (.int k K)).run P w = .ok () w := by
  show (Instr.checkKey b (9999 + 1) kt (.int k K)).run P w = .ok () w
  unfold Instr.checkKey
  rw [Sem.run_bind, run_underlying hu, Result.andThen_ok]
  rfl
/-- A map's object: what getObj and setObj do. -/
theorem getObj_run {b : Nat} {w : World} (h : w.heap[b]? = some (.map es clock)) : (getObj b).run P w = .ok (.map es clock) w := by
  simp [getObj, Sem.run, h]
def World.putObj (w : World) (b : Nat) (o : Obj) : World := { w with heap := w.heap.setIfInBounds b o }
theorem setObj_run {b : Nat} {w : World} {o : Obj} (h : w.heap[b]? = some (.map es clock)) : (setObj b o).run P w = .ok () (World.putObj w b o) := by
  simp [setObj, Sem.run, h, World.putObj]
theorem putObj_chg (w : World) (b : Nat) (o : Obj) : Chg (fun k => k = b) w (World.putObj w b o) :=
  ⟨rfl, rfl, rfl, by simp [World.putObj], fun k _ hk => by simp only [World.putObj]; rw [Array.getElem?_setIfInBounds_ne (fun e => hk e.symm)]⟩
theorem putObj_at {w : World} {b : Nat} {o p : Obj} (h : w.heap[b]? = some p) : (World.putObj w b o).heap[b]? = some o := by
  have := (Array.getElem?_eq_some_iff.1 h).1
  simp [World.putObj, this]
theorem find_at {K : Int} {p : Int × α} {i : Nat} : ∀ {m : List (Int × α)} {o : Nat}, (m.zipIdx o).find? (fun p => p.1.1 == K) = some (p, i) → o ≤ i ∧ m[i - o]? = some p ∧ p.1 = K ∧ (∀ x, upM m K x = m.set (i - o) (K, x)) ∧ delM m K = m.eraseIdx (i - o) := by
  intro m
  induction m with
  | nil => intro o h; cases h
  | cons q r ih =>
    intro o h
    rw [List.zipIdx_cons, List.find?_cons] at h
    by_cases hk : q.1 = K
    · have e2 : (q.1 == K) = true := by simp [hk]
      simp only [e2] at h
      injection h with h
      injection h with h1 h2
      subst h1 h2
      refine ⟨Nat.le_refl _, by simp, hk, fun x => ?_, ?_⟩
      · unfold upM; rw [if_pos hk, hk]; simp
      · unfold delM; rw [if_pos hk]; simp
    · have e2 : (q.1 == K) = false := by simpa using hk
      simp only [e2] at h
      obtain ⟨h1, h2, h3, h4, h5⟩ := ih h
      have e3 : i - o = (i - (o + 1)) + 1 := by omega
      refine ⟨by omega, by rw [e3]; simpa using h2, h3, fun x => ?_, ?_⟩
      · unfold upM; rw [if_neg hk, h4, e3]; rfl
      · unfold delM; rw [if_neg hk, h5, e3]; rfl
theorem find_no {K : Int} : ∀ {m : List (Int × α)} {o : Nat}, (m.zipIdx o).find? (fun p => p.1.1 == K) = none → (∀ x, upM m K x = m ++ [(K, x)]) ∧ delM m K = m ∧ K ∉ keysM m := by
  intro m
  induction m with
  | nil => intro o _; exact ⟨fun _ => rfl, rfl, by simp [keysM]⟩
  | cons q r ih =>
    intro o h
    rw [List.zipIdx_cons, List.find?_cons] at h
    by_cases hk : q.1 = K
    · have e2 : (q.1 == K) = true := by simp [hk]
      simp only [e2] at h; cases h
    · have e2 : (q.1 == K) = false := by simpa using hk
      simp only [e2] at h
      obtain ⟨h1, h2, h3⟩ := ih h
      refine ⟨fun x => ?_, ?_, ?_⟩
      · unfold upM; rw [if_neg hk, h1]; rfl
      · unfold delM; rw [if_neg hk, h2]
      · simp only [keysM, List.map_cons, List.mem_cons, not_or]; exact ⟨fun e => hk e.symm, h3⟩
theorem Tells.len (h : Tells k f es clock m) : es.size = m.length := by
  have := congrArg List.length h.ents
  simpa using this
theorem lookup_run {mt kt et : TypeId} {z : Value} (hu : P.underlying mt = some (.map kt et)) (hk : P.underlying kt = some (.int k)) (hz : ∀ W, (zeroValue et).run P W = .ok z W) (h : Tells k f es clock m) {b : Nat} {w : World} (hb : w.heap[b]? = some (.map es clock)) (K : Int) (ok : Bool) :
    (Instr.lookup mt (.map (some b)) (.int k K) ok).run P w = .ok (if ok then .tuple #[((lkM m K).map f).getD z, .bool (lkM m K).isSome] else ((lkM m K).map f).getD z) w := by
  unfold Instr.lookup
  rw [Sem.run_bind, run_underlying hu, Result.andThen_ok]
  simp only
  rw [Sem.run_bind, getObj_run hb, Result.andThen_ok]
  simp only
  rw [Sem.run_bind, Sem.run_pure, Result.andThen_ok, Sem.run_bind, checkKey_run hk, Result.andThen_ok, Sem.run_bind, findKey_run hk h, Result.andThen_ok]
  have hf := find_zip (m := m) (K := K) 0
  cases hfi : (m.zipIdx 0).find? (fun p => p.1.1 == K) with
  | none =>
    rw [hfi] at hf
    simp only [Option.map_none] at hf ⊢
    rw [← hf, Sem.run_bind, hz, Result.andThen_ok]
    simp
  | some q =>
    rw [hfi] at hf
    simp only [Option.map_some] at hf ⊢
    rw [← hf]
    simp
theorem update_run {mt kt et : TypeId} (hu : P.underlying mt = some (.map kt et)) (hk : P.underlying kt = some (.int k)) (h : Tells k f es clock m) {b : Nat} {w : World} (hb : w.heap[b]? = some (.map es clock)) {K : Int} (hK : (Lit.int k K).wf = true) {x : α} (hx : vok (f x) = true) :
    ∃ es' clock', (Instr.mapUpdate mt (.map (some b)) (.int k K) (f x)).run P w = .ok () (World.putObj w b (.map es' clock')) ∧ Tells k f es' clock' (upM m K x) := by
  have hwf : ∀ p ∈ upM m K x, (Lit.int k p.1).wf = true ∧ vok (f p.2) = true := fun p hp => by
    rcases mem_up hp with hp | hp
    · exact h.wf p hp
    · subst hp; exact ⟨hK, hx⟩
  cases hfi : (m.zipIdx 0).find? (fun p => p.1.1 == K) with
  | none =>
    obtain ⟨h1, _, _⟩ := find_no hfi
    refine ⟨es.push { key := .int k K, val := f x, born := clock }, clock + 1, ?_, ?_, nodup_up h.nodup K x, hwf, ?_, ?_⟩
    · unfold Instr.mapUpdate
      rw [Sem.run_bind, run_underlying hu, Result.andThen_ok]
      simp only
      rw [Sem.run_bind, getObj_run hb, Result.andThen_ok]
      simp only
      rw [Sem.run_bind, checkKey_run hk, Result.andThen_ok, Sem.run_bind, findKey_run hk h, Result.andThen_ok, hfi]
      simp only [Option.map_none]
      exact setObj_run hb
    · rw [h1, Array.toList_push, List.map_append, List.map_append, h.ents]; rfl
    · rw [Array.toList_push, List.map_append, List.nodup_append]
      refine ⟨h.born.1, by simp, fun c hc d hd e => ?_⟩
      simp only [List.map_cons, List.map_nil, List.mem_singleton] at hd
      obtain ⟨y, hy, rfl⟩ := List.mem_map.1 hc
      have := h.born.2 y hy
      omega
    · intro e he
      rw [Array.toList_push, List.mem_append] at he
      rcases he with he | he
      · have := h.born.2 e he; omega
      · simp only [List.mem_singleton] at he; subst he; exact Nat.lt_succ_self _
  | some q =>
    obtain ⟨p, i⟩ := q
    obtain ⟨-, h2, h3, h4, -⟩ := find_at hfi
    rw [Nat.sub_zero] at h2 h4
    have hil : i < m.length := (List.getElem?_eq_some_iff.1 h2).1
    have hi : i < es.size := by rw [h.len]; exact hil
    have hkey : (es[i]).key = .int k K := by
      have := congrArg (fun l => l[i]?) h.ents
      simp only [List.getElem?_map, h2, Option.map_some] at this
      rw [Array.getElem?_toList, Array.getElem?_eq_getElem hi] at this
      simp only [Option.map_some, Option.some.injEq, Prod.mk.injEq] at this
      rw [this.1, h3]
    refine ⟨es.modify i fun e => { e with key := .int k K, val := f x }, clock, ?_, ?_, nodup_up h.nodup K x, hwf, ?_, ?_⟩
    · unfold Instr.mapUpdate
      rw [Sem.run_bind, run_underlying hu, Result.andThen_ok]
      simp only
      rw [Sem.run_bind, getObj_run hb, Result.andThen_ok]
      simp only
      rw [Sem.run_bind, checkKey_run hk, Result.andThen_ok, Sem.run_bind, findKey_run hk h, Result.andThen_ok, hfi]
      simp only [Option.map_some]
      rw [Sem.run_bind]
      have e1 : ((es[i]?.map (·.key)).getD (.int k K)) = .int k K := by rw [Array.getElem?_eq_getElem hi]; exact hkey
      have e2 : (Instr.keyThatStays (.int k K) (.int k K)).run P w = .ok (.int k K) w := by
        unfold Instr.keyThatStays
        have : Instr.sameBits 10000 (.int k K) (.int k K) = true := by
          unfold Instr.sameBits; simp
        rw [if_pos this]; rfl
      rw [e1, e2, Result.andThen_ok]
      exact setObj_run hb
    · rw [h4]
      apply List.ext_getElem?
      intro j
      rw [List.getElem?_map, Array.getElem?_toList, Array.getElem?_modify, List.getElem?_map, List.getElem?_set]
      by_cases hij : i = j
      · subst hij
        rw [if_pos rfl, if_pos rfl, if_pos hil, Array.getElem?_eq_getElem hi]; rfl
      · rw [if_neg hij, if_neg hij]
        have := congrArg (fun l => l[j]?) h.ents
        simpa using this
    · have e : (es.modify i fun e => { e with key := .int k K, val := f x }).toList.map (·.born) = es.toList.map (·.born) := by
        apply List.ext_getElem?
        intro j
        rw [List.getElem?_map, Array.getElem?_toList, Array.getElem?_modify, List.getElem?_map, Array.getElem?_toList]
        split
        · cases es[j]? <;> rfl
        · rfl
      rw [e]; exact h.born.1
    · intro e he
      have he' := List.mem_iff_getElem?.1 he
      obtain ⟨j, hj⟩ := he'
      rw [Array.getElem?_toList, Array.getElem?_modify] at hj
      split at hj
      · cases hej : es[j]? with
        | none => rw [hej] at hj; cases hj
        | some y =>
          rw [hej] at hj
          simp only [Option.map_some, Option.some.injEq] at hj
          subst hj
          exact h.born.2 y (by rw [← Array.getElem?_toList] at hej; exact List.mem_of_getElem? hej)
      · exact h.born.2 e (by rw [← Array.getElem?_toList] at hj; exact List.mem_of_getElem? hj)
theorem map_erase {β γ : Type} (g : β → γ) : ∀ (l : List β) (i : Nat), (l.eraseIdx i).map g = (l.map g).eraseIdx i := by
  intro l
  induction l with
  | nil => intro i; rfl
  | cons x l ih =>
    intro i
    cases i with
    | zero => rfl
    | succ i => simp [ih]
theorem delete_run {mt kt et : TypeId} {ts : Array TypeId} {ty : TypeId} (hu : P.underlying mt = some (.map kt et)) (hk : P.underlying kt = some (.int k)) (ht : ts[0]? = some mt) (h : Tells k f es clock m) {b : Nat} {w : World} (hb : w.heap[b]? = some (.map es clock)) (K : Int) :
    ∃ es', (Builtin.delete_ ts ty #[.map (some b), .int k K]).run P w = .ok (.tuple #[]) (World.putObj w b (.map es' clock)) ∧ Tells k f es' clock (delM m K) := by
  have hwf : ∀ p ∈ delM m K, (Lit.int k p.1).wf = true ∧ vok (f p.2) = true := fun p hp => h.wf p (mem_del hp)
  have hnd : (keysM (delM m K)).Nodup := h.nodup.sublist ((del_sub m K).map _)
  cases hfi : (m.zipIdx 0).find? (fun p => p.1.1 == K) with
  | none =>
    obtain ⟨-, h1, -⟩ := find_no hfi
    refine ⟨es, ?_, by rw [h1]; exact h.ents, hnd, hwf, h.born⟩
    unfold Builtin.delete_
    simp only [ht, List.getElem?_toArray, List.getElem?_cons_zero, List.getElem?_cons_succ]
    rw [Sem.run_bind, run_underlying hu, Result.andThen_ok]
    simp only
    rw [Sem.run_bind, getObj_run hb, Result.andThen_ok]
    simp only
    rw [Sem.run_bind, checkKey_run hk, Result.andThen_ok, Sem.run_bind, findKey_run hk h, Result.andThen_ok, hfi]
    simp only [Option.map_none]
    rw [Sem.run_bind, setObj_run hb]; rfl
  | some q =>
    obtain ⟨p, i⟩ := q
    obtain ⟨-, h2, h3, -, h5⟩ := find_at hfi
    rw [Nat.sub_zero] at h2 h5
    have hil : i < m.length := (List.getElem?_eq_some_iff.1 h2).1
    have hi : i < es.size := by rw [h.len]; exact hil
    have hte : (es.eraseIdxIfInBounds i).toList = es.toList.eraseIdx i := by simp
    refine ⟨es.eraseIdxIfInBounds i, ?_, ?_, hnd, hwf, ?_, ?_⟩
    · unfold Builtin.delete_
      simp only [ht, List.getElem?_toArray, List.getElem?_cons_zero, List.getElem?_cons_succ]
      rw [Sem.run_bind, run_underlying hu, Result.andThen_ok]
      simp only
      rw [Sem.run_bind, getObj_run hb, Result.andThen_ok]
      simp only
      rw [Sem.run_bind, checkKey_run hk, Result.andThen_ok, Sem.run_bind, findKey_run hk h, Result.andThen_ok, hfi]
      simp only [Option.map_some]
      rw [Sem.run_bind, setObj_run hb]; rfl
    · rw [hte, h5, map_erase, h.ents, map_erase]
    · rw [hte, map_erase]
      exact h.born.1.sublist (List.eraseIdx_sublist _ _)
    · intro e he
      rw [hte] at he
      exact h.born.2 e ((List.eraseIdx_sublist _ _).subset he)
end
end Go.Proofs.YticnjkdaccacaaaDoor.Sx
