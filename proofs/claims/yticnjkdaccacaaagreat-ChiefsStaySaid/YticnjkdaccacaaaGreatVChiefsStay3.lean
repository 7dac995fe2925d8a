/- Texts of this work, one behind the other. -/
import Derived.Test.YticnjkdaccacaaaGreatVChiefsStay2
import Derived.Laws.IdiomCopy
import Derived.Maps.RangeWalk
set_option maxRecDepth 100000
set_option maxHeartbeats 16000000
section
namespace Go.Proofs.YticnjkdaccacaaaGreat.Sx
open Go Go.RowKit Base Oq
def upM {α : Type} : List (Int × α) → Int → α → List (Int × α)
 | [], x, v => [(x, v)]
 | p :: r, x, v => if p.1 = x then (p.1, v) :: r else p :: upM r x v
def delM {α : Type} : List (Int × α) → Int → List (Int × α)
 | [], _ => []
 | p :: r, x => if p.1 = x then r else p :: delM r x
def lkM {α : Type} (m : List (Int × α)) (x : Int) : Option α := m.lookup x
section
variable {α : Type}
theorem lkM_cons (m : List (Int × α)) (p : Int × α) (x : Int) : lkM (p :: m) x = if p.1 = x then some p.2 else lkM m x := by
 obtain ⟨a, b⟩ := p
 unfold lkM
 rw [List.lookup_cons]
 by_cases h : a = x
 ·subst h; simp
 ·have : (x == a) = false := by simpa using fun e => h e.symm
  simp [this, h]
def keysM (m : List (Int × α)) : List Int := m.map (·.1)
theorem lk_some {m : List (Int × α)} {x : Int} {v : α} (h : lkM m x = some v) : (x, v) ∈ m := by
 induction m with
 | nil => cases h
 | cons p r ih =>
  rw [lkM_cons] at h
  by_cases hp : p.1 = x
  ·rw [if_pos hp] at h; injection h with h; subst h; subst hp; exact List.mem_cons_self
  ·rw [if_neg hp] at h; exact List.mem_cons_of_mem _ (ih h)
theorem keys_up (m : List (Int × α)) (x : Int) (v : α) : keysM (upM m x v) = if x ∈ keysM m then keysM m else keysM m ++ [x] := by
 induction m with
 | nil => rfl
 | cons p r ih =>
  unfold upM
  by_cases h : p.1 = x
  ·rw [if_pos h, if_pos (by simp [keysM, h])]; rfl
  ·rw [if_neg h]
   show p.1 :: keysM (upM r x v) = _
   rw [ih]
   by_cases hm : x ∈ keysM r
   ·rw [if_pos hm, if_pos (by simp only [keysM, List.map_cons, List.mem_cons]; exact .inr hm)]; rfl
   ·rw [if_neg hm, if_neg (by simp only [keysM, List.map_cons, List.mem_cons, not_or]; exact ⟨fun e => h e.symm, hm⟩)]; rfl
theorem nodup_up {m : List (Int × α)} (h : (keysM m).Nodup) (x : Int) (v : α) : (keysM (upM m x v)).Nodup := by
 rw [keys_up]
 split
 ·exact h
 ·rename_i hx
  rw [List.nodup_append]
  exact ⟨h, by simp, fun a ha b hb e => by rw [List.mem_singleton] at hb; subst hb; subst e; exact hx ha⟩
theorem mem_up {m : List (Int × α)} {x : Int} {v : α} {p : Int × α} (h : p ∈ upM m x v) : p ∈ m ∨ p = (x, v) := by
 induction m with
 | nil => simp [upM] at h; exact .inr h
 | cons q r ih =>
  unfold upM at h
  split at h
  ·rename_i hq
   rcases List.mem_cons.1 h with h | h
   ·exact .inr (by rw [h, hq])
   ·exact .inl (List.mem_cons_of_mem _ h)
  ·rcases List.mem_cons.1 h with h | h
   ·exact .inl (by rw [h]; exact List.mem_cons_self)
   ·exact (ih h).imp (List.mem_cons_of_mem _) id
theorem mem_del {m : List (Int × α)} {x : Int} {p : Int × α} (h : p ∈ delM m x) : p ∈ m := by
 induction m with
 | nil => cases h
 | cons q r ih =>
  unfold delM at h
  split at h
  ·exact List.mem_cons_of_mem _ h
  ·rcases List.mem_cons.1 h with h | h
   ·rw [h]; exact List.mem_cons_self
   ·exact List.mem_cons_of_mem _ (ih h)
theorem del_sub (m : List (Int × α)) (x : Int) : (delM m x).Sublist m := by
 induction m with
 | nil => exact .slnil
 | cons q r ih =>
  unfold delM
  split
  ·exact .cons _ (List.Sublist.refl _)
  ·exact .cons_cons _ ih
end
structure Tells {α : Type} (k : IntKind) (f : α → Value) (es : Array MapEntry) (clock : Nat) (m : List (Int × α)) : Prop where
 ents : es.toList.map (fun e => (e.key, e.val)) = m.map fun p => (Value.int k p.1, f p.2)
 nodup : (keysM m).Nodup
 wf : ∀ p ∈ m, (Lit.int k p.1).wf = true ∧ vok (f p.2) = true
 born : (es.toList.map (·.born)).Nodup ∧ ∀ e ∈ es.toList, e.born < clock
section
variable {α : Type} {P : Program} {k : IntKind} {f : α → Value} {es : Array MapEntry} {clock : Nat} {m : List (Int × α)}
theorem Tells.empty (k : IntKind) (f : α → Value) : Tells k f #[] 0 [] := ⟨rfl, List.nodup_nil, (fun p hp => by cases hp), List.nodup_nil, (fun e he => by cases he)⟩
theorem findNow_tells {K : Int} : ∀ {l : List MapEntry} {m : List (Int × α)} (i : Nat), l.map (fun e => (e.key, e.val)) = m.map (fun p => (Value.int k p.1, f p.2)) →
  Instr.findNow (.int k) (.int k K) l i = some ((m.zipIdx i).find? (fun p => p.1.1 == K) |>.map fun p => (p.2, f p.1.2)) := by
 intro l
 induction l with
 | nil =>
  intro m i h
  cases m with
  | nil => rfl
  | cons p r => simp at h
 | cons e l ih =>
  intro m i h
  cases m with
  | nil => simp at h
  | cons p r =>
   simp only [List.map_cons, List.cons.injEq, Prod.mk.injEq] at h
   obtain ⟨⟨h1, h2⟩, h3⟩ := h
   unfold Instr.findNow
   rw [h1]
   simp only [Instr.sameNow, if_true]
   rw [List.zipIdx_cons, List.find?_cons]
   by_cases hk : p.1 = K
   ·have e1 : (K == p.1) = true := by simp [hk]
    have e2 : (p.1 == K) = true := by simp [hk]
    simp only [e1, e2]
    rw [h2]; rfl
   ·have e1 : (K == p.1) = false := by simpa using fun e => hk e.symm
    have e2 : (p.1 == K) = false := by simpa using hk
    simp only [e1, e2]
    exact ih (i + 1) h3
theorem find_zip {m : List (Int × α)} {K : Int} : ∀ (i : Nat), ((m.zipIdx i).find? (fun p => p.1.1 == K)).map (fun p => p.1.2) = lkM m K := by
 induction m with
 | nil => intro i; rfl
 | cons p r ih =>
  intro i
  rw [List.zipIdx_cons, List.find?_cons, lkM_cons]
  by_cases hk : p.1 = K
  ·have e2 : (p.1 == K) = true := by simp [hk]
   simp only [e2, if_pos hk]; rfl
  ·have e2 : (p.1 == K) = false := by simpa using hk
   simp only [e2, if_neg hk]
   exact ih (i + 1)
theorem findKey_run {kt : TypeId} (hu : P.underlying kt = some (.int k)) (h : Tells k f es clock m) (K : Int) (w : World) :
  (Instr.findKey kt (.int k K) es.toList).run P w = .ok ((m.zipIdx 0).find? (fun p => p.1.1 == K) |>.map fun p => (p.2, f p.1.2)) w := by
 unfold Instr.findKey
 rw [Sem.run_bind, run_underlying hu, Result.andThen_ok, findNow_tells 0 h.ents]
 rfl
theorem checkKey_run {kt : TypeId} (hu : P.underlying kt = some (.int k)) (b : Bool) (K : Int) (w : World) : (Instr.checkKey b 10000 kt (.int k K)).run P w = .ok () w := by
 show (Instr.checkKey b (9999 + 1) kt (.int k K)).run P w = .ok () w
 unfold Instr.checkKey
 rw [Sem.run_bind, run_underlying hu, Result.andThen_ok]
 rfl
theorem getObj_run {b : Nat} {w : World} (h : w.heap[b]? = some (.map es clock)) : (getObj b).run P w = .ok (.map es clock) w := by
 simp [getObj, Sem.run, h]
def World.putObj (w : World) (b : Nat) (o : Obj) : World := { w with heap := w.heap.setIfInBounds b o }
theorem setObj_run {b : Nat} {w : World} {o : Obj} (h : w.heap[b]? = some (.map es clock)) : (setObj b o).run P w = .ok () (World.putObj w b o) := by
 simp [setObj, Sem.run, h, World.putObj]
theorem putObj_chg (w : World) (b : Nat) (o : Obj) : Chg (fun k => k = b) w (World.putObj w b o) :=
 ⟨rfl, rfl, rfl, by simp [World.putObj], fun k _ hk => by simp only [World.putObj]; rw [Array.getElem?_setIfInBounds_ne (fun e => hk e.symm)]⟩
theorem putObj_at {w : World} {b : Nat} {o p : Obj} (h : w.heap[b]? = some p) : (World.putObj w b o).heap[b]? = some o := by
 have := (Array.getElem?_eq_some_iff.1 h).1
 simp [World.putObj, this]
theorem find_at {K : Int} {p : Int × α} {i : Nat} : ∀ {m : List (Int × α)} {o : Nat}, (m.zipIdx o).find? (fun p => p.1.1 == K) = some (p, i) → o ≤ i ∧ m[i - o]? = some p ∧ p.1 = K ∧ (∀ x, upM m K x = m.set (i - o) (K, x)) ∧ delM m K = m.eraseIdx (i - o) := by
 intro m
 induction m with
 | nil => intro o h; cases h
 | cons q r ih =>
  intro o h
  rw [List.zipIdx_cons, List.find?_cons] at h
  by_cases hk : q.1 = K
  ·have e2 : (q.1 == K) = true := by simp [hk]
   simp only [e2] at h
   injection h with h
   injection h with h1 h2
   subst h1 h2
   refine ⟨Nat.le_refl _, by simp, hk, fun x => ?_, ?_⟩
   ·unfold upM; rw [if_pos hk, hk]; simp
   ·unfold delM; rw [if_pos hk]; simp
  ·have e2 : (q.1 == K) = false := by simpa using hk
   simp only [e2] at h
   obtain ⟨h1, h2, h3, h4, h5⟩ := ih h
   have e3 : i - o = (i - (o + 1)) + 1 := by omega
   refine ⟨by omega, by rw [e3]; simpa using h2, h3, fun x => ?_, ?_⟩
   ·unfold upM; rw [if_neg hk, h4, e3]; rfl
   ·unfold delM; rw [if_neg hk, h5, e3]; rfl
theorem find_no {K : Int} : ∀ {m : List (Int × α)} {o : Nat}, (m.zipIdx o).find? (fun p => p.1.1 == K) = none → (∀ x, upM m K x = m ++ [(K, x)]) ∧ delM m K = m ∧ K ∉ keysM m := by
 intro m
 induction m with
 | nil => intro o _; exact ⟨fun _ => rfl, rfl, by simp [keysM]⟩
 | cons q r ih =>
  intro o h
  rw [List.zipIdx_cons, List.find?_cons] at h
  by_cases hk : q.1 = K
  ·have e2 : (q.1 == K) = true := by simp [hk]
   simp only [e2] at h; cases h
  ·have e2 : (q.1 == K) = false := by simpa using hk
   simp only [e2] at h
   obtain ⟨h1, h2, h3⟩ := ih h
   refine ⟨fun x => ?_, ?_, ?_⟩
   ·unfold upM; rw [if_neg hk, h1]; rfl
   ·unfold delM; rw [if_neg hk, h2]
   ·simp only [keysM, List.map_cons, List.mem_cons, not_or]; exact ⟨fun e => hk e.symm, h3⟩
theorem Tells.len (h : Tells k f es clock m) : es.size = m.length := by
 have := congrArg List.length h.ents
 simpa using this
theorem lookup_run {mt kt et : TypeId} {z : Value} (hu : P.underlying mt = some (.map kt et)) (hk : P.underlying kt = some (.int k)) (hz : ∀ W, (zeroValue et).run P W = .ok z W) (h : Tells k f es clock m) {b : Nat} {w : World} (hb : w.heap[b]? = some (.map es clock)) (K : Int) (ok : Bool) :
  (Instr.lookup mt (.map (some b)) (.int k K) ok).run P w = .ok (if ok then .tuple #[((lkM m K).map f).getD z, .bool (lkM m K).isSome] else ((lkM m K).map f).getD z) w := by
 unfold Instr.lookup
 rw [Sem.run_bind, run_underlying hu, Result.andThen_ok]
 simp only
 rw [Sem.run_bind, getObj_run hb, Result.andThen_ok]
 simp only
 rw [Sem.run_bind, Sem.run_pure, Result.andThen_ok, Sem.run_bind, checkKey_run hk, Result.andThen_ok, Sem.run_bind, findKey_run hk h, Result.andThen_ok]
 have hf := find_zip (m := m) (K := K) 0
 cases hfi : (m.zipIdx 0).find? (fun p => p.1.1 == K) with
 | none =>
  rw [hfi] at hf
  simp only [Option.map_none] at hf ⊢
  rw [← hf, Sem.run_bind, hz, Result.andThen_ok]
  simp
 | some q =>
  rw [hfi] at hf
  simp only [Option.map_some] at hf ⊢
  rw [← hf]
  simp
theorem update_run {mt kt et : TypeId} (hu : P.underlying mt = some (.map kt et)) (hk : P.underlying kt = some (.int k)) (h : Tells k f es clock m) {b : Nat} {w : World} (hb : w.heap[b]? = some (.map es clock)) {K : Int} (hK : (Lit.int k K).wf = true) {x : α} (hx : vok (f x) = true) :
  ∃ es' clock', (Instr.mapUpdate mt (.map (some b)) (.int k K) (f x)).run P w = .ok () (World.putObj w b (.map es' clock')) ∧ Tells k f es' clock' (upM m K x) := by
 have hwf : ∀ p ∈ upM m K x, (Lit.int k p.1).wf = true ∧ vok (f p.2) = true := fun p hp => by
  rcases mem_up hp with hp | hp
  ·exact h.wf p hp
  ·subst hp; exact ⟨hK, hx⟩
 cases hfi : (m.zipIdx 0).find? (fun p => p.1.1 == K) with
 | none =>
  obtain ⟨h1, _, _⟩ := find_no hfi
  refine ⟨es.push { key := .int k K, val := f x, born := clock }, clock + 1, ?_, ?_, nodup_up h.nodup K x, hwf, ?_, ?_⟩
  ·unfold Instr.mapUpdate
   rw [Sem.run_bind, run_underlying hu, Result.andThen_ok]
   simp only
   rw [Sem.run_bind, getObj_run hb, Result.andThen_ok]
   simp only
   rw [Sem.run_bind, checkKey_run hk, Result.andThen_ok, Sem.run_bind, findKey_run hk h, Result.andThen_ok, hfi]
   simp only [Option.map_none]
   exact setObj_run hb
  ·rw [h1, Array.toList_push, List.map_append, List.map_append, h.ents]; rfl
  ·rw [Array.toList_push, List.map_append, List.nodup_append]
   refine ⟨h.born.1, by simp, fun c hc d hd e => ?_⟩
   simp only [List.map_cons, List.map_nil, List.mem_singleton] at hd
   obtain ⟨y, hy, rfl⟩ := List.mem_map.1 hc
   have := h.born.2 y hy
   omega
  ·intro e he
   rw [Array.toList_push, List.mem_append] at he
   rcases he with he | he
   ·have := h.born.2 e he; omega
   ·simp only [List.mem_singleton] at he; subst he; exact Nat.lt_succ_self _
 | some q =>
  obtain ⟨p, i⟩ := q
  obtain ⟨-, h2, h3, h4, -⟩ := find_at hfi
  rw [Nat.sub_zero] at h2 h4
  have hil : i < m.length := (List.getElem?_eq_some_iff.1 h2).1
  have hi : i < es.size := by rw [h.len]; exact hil
  have hkey : (es[i]).key = .int k K := by
   have := congrArg (fun l => l[i]?) h.ents
   simp only [List.getElem?_map, h2, Option.map_some] at this
   rw [Array.getElem?_toList, Array.getElem?_eq_getElem hi] at this
   simp only [Option.map_some, Option.some.injEq, Prod.mk.injEq] at this
   rw [this.1, h3]
  refine ⟨es.modify i fun e => { e with key := .int k K, val := f x }, clock, ?_, ?_, nodup_up h.nodup K x, hwf, ?_, ?_⟩
  ·unfold Instr.mapUpdate
   rw [Sem.run_bind, run_underlying hu, Result.andThen_ok]
   simp only
   rw [Sem.run_bind, getObj_run hb, Result.andThen_ok]
   simp only
   rw [Sem.run_bind, checkKey_run hk, Result.andThen_ok, Sem.run_bind, findKey_run hk h, Result.andThen_ok, hfi]
   simp only [Option.map_some]
   rw [Sem.run_bind]
   have e1 : ((es[i]?.map (·.key)).getD (.int k K)) = .int k K := by rw [Array.getElem?_eq_getElem hi]; exact hkey
   have e2 : (Instr.keyThatStays (.int k K) (.int k K)).run P w = .ok (.int k K) w := by
    unfold Instr.keyThatStays
    have : Instr.sameBits 10000 (.int k K) (.int k K) = true := by
     unfold Instr.sameBits; simp
    rw [if_pos this]; rfl
   rw [e1, e2, Result.andThen_ok]
   exact setObj_run hb
  ·rw [h4]
   apply List.ext_getElem?
   intro j
   rw [List.getElem?_map, Array.getElem?_toList, Array.getElem?_modify, List.getElem?_map, List.getElem?_set]
   by_cases hij : i = j
   ·subst hij
    rw [if_pos rfl, if_pos rfl, if_pos hil, Array.getElem?_eq_getElem hi]; rfl
   ·rw [if_neg hij, if_neg hij]
    have := congrArg (fun l => l[j]?) h.ents
    simpa using this
  ·have e : (es.modify i fun e => { e with key := .int k K, val := f x }).toList.map (·.born) = es.toList.map (·.born) := by
    apply List.ext_getElem?
    intro j
    rw [List.getElem?_map, Array.getElem?_toList, Array.getElem?_modify, List.getElem?_map, Array.getElem?_toList]
    split
    ·cases es[j]? <;> rfl
    ·rfl
   rw [e]; exact h.born.1
  ·intro e he
   have he' := List.mem_iff_getElem?.1 he
   obtain ⟨j, hj⟩ := he'
   rw [Array.getElem?_toList, Array.getElem?_modify] at hj
   split at hj
   ·cases hej : es[j]? with
    | none => rw [hej] at hj; cases hj
    | some y =>
     rw [hej] at hj
     simp only [Option.map_some, Option.some.injEq] at hj
     subst hj
     exact h.born.2 y (by rw [← Array.getElem?_toList] at hej; exact List.mem_of_getElem? hej)
   ·exact h.born.2 e (by rw [← Array.getElem?_toList] at hj; exact List.mem_of_getElem? hj)
theorem map_erase {β γ : Type} (g : β → γ) : ∀ (l : List β) (i : Nat), (l.eraseIdx i).map g = (l.map g).eraseIdx i := by
 intro l
 induction l with
 | nil => intro i; rfl
 | cons x l ih =>
  intro i
  cases i with
  | zero => rfl
  | succ i => simp [ih]
theorem delete_run {mt kt et : TypeId} {ts : Array TypeId} {ty : TypeId} (hu : P.underlying mt = some (.map kt et)) (hk : P.underlying kt = some (.int k)) (ht : ts[0]? = some mt) (h : Tells k f es clock m) {b : Nat} {w : World} (hb : w.heap[b]? = some (.map es clock)) (K : Int) :
  ∃ es', (Builtin.delete_ ts ty #[.map (some b), .int k K]).run P w = .ok (.tuple #[]) (World.putObj w b (.map es' clock)) ∧ Tells k f es' clock (delM m K) := by
 have hwf : ∀ p ∈ delM m K, (Lit.int k p.1).wf = true ∧ vok (f p.2) = true := fun p hp => h.wf p (mem_del hp)
 have hnd : (keysM (delM m K)).Nodup := h.nodup.sublist ((del_sub m K).map _)
 cases hfi : (m.zipIdx 0).find? (fun p => p.1.1 == K) with
 | none =>
  obtain ⟨-, h1, -⟩ := find_no hfi
  refine ⟨es, ?_, by rw [h1]; exact h.ents, hnd, hwf, h.born⟩
  unfold Builtin.delete_
  simp only [ht, List.getElem?_toArray, List.getElem?_cons_zero, List.getElem?_cons_succ]
  rw [Sem.run_bind, run_underlying hu, Result.andThen_ok]
  simp only
  rw [Sem.run_bind, getObj_run hb, Result.andThen_ok]
  simp only
  rw [Sem.run_bind, checkKey_run hk, Result.andThen_ok, Sem.run_bind, findKey_run hk h, Result.andThen_ok, hfi]
  simp only [Option.map_none]
  rw [Sem.run_bind, setObj_run hb]; rfl
 | some q =>
  obtain ⟨p, i⟩ := q
  obtain ⟨-, h2, h3, -, h5⟩ := find_at hfi
  rw [Nat.sub_zero] at h2 h5
  have hil : i < m.length := (List.getElem?_eq_some_iff.1 h2).1
  have hi : i < es.size := by rw [h.len]; exact hil
  have hte : (es.eraseIdxIfInBounds i).toList = es.toList.eraseIdx i := by simp
  refine ⟨es.eraseIdxIfInBounds i, ?_, ?_, hnd, hwf, ?_, ?_⟩
  ·unfold Builtin.delete_
   simp only [ht, List.getElem?_toArray, List.getElem?_cons_zero, List.getElem?_cons_succ]
   rw [Sem.run_bind, run_underlying hu, Result.andThen_ok]
   simp only
   rw [Sem.run_bind, getObj_run hb, Result.andThen_ok]
   simp only
   rw [Sem.run_bind, checkKey_run hk, Result.andThen_ok, Sem.run_bind, findKey_run hk h, Result.andThen_ok, hfi]
   simp only [Option.map_some]
   rw [Sem.run_bind, setObj_run hb]; rfl
  ·rw [hte, h5, map_erase, h.ents, map_erase]
  ·rw [hte, map_erase]
   exact h.born.1.sublist (List.eraseIdx_sublist _ _)
  ·intro e he
   rw [hte] at he
   exact h.born.2 e ((List.eraseIdx_sublist _ _).subset he)
end
def stA (e b : Nat) (cs : List Value) : Asn where
 holds := fun w B F => w.heap[b]? = some (.cells cs.toArray e (0, 0)) ∧ cs.all vok = true ∧ B ≤ b ∧ ∀ g, F g ↔ g = b
 keep := fun ⟨h1, h2, h3, h4⟩ hc hF _ => ⟨by rw [hc.block _ (Array.getElem?_eq_some_iff.1 h1).1 (hF _ ((h4 _).2 rfl))]; exact h1, h2, h3, h4⟩
 dom := fun ⟨h1, _, h3, h4⟩ g hg => by rw [h4 g] at hg; subst hg; exact ⟨h3, (Array.getElem?_eq_some_iff.1 h1).1⟩
def mapA {α : Type} (k : IntKind) (f : α → Value) (b : Nat) (m : List (Int × α)) : Asn where
 holds := fun w B F => (∃ es clock, w.heap[b]? = some (.map es clock) ∧ Tells k f es clock m) ∧ B ≤ b ∧ ∀ g, F g ↔ g = b
 keep := fun ⟨⟨es, cl, h1, h2⟩, h3, h4⟩ hc hF _ => ⟨⟨es, cl, by rw [hc.block _ (Array.getElem?_eq_some_iff.1 h1).1 (hF _ ((h4 _).2 rfl))]; exact h1, h2⟩, h3, h4⟩
 dom := fun ⟨⟨es, cl, h1, h2⟩, h3, h4⟩ g hg => by rw [h4 g] at hg; subst hg; exact ⟨h3, (Array.getElem?_eq_some_iff.1 h1).1⟩
section
variable {w0 w : World} {M : List Asn}
theorem Sat.stAt {e b : Nat} {cs : List Value} (S : Sat w0 w M) (i : Nat) (hi : M[i]? = some (stA e b cs)) {j : Nat} {v : Value} (hj : cs[j]? = some v) : w.cell? ((⟨b, 0, none⟩ : Addr).add j) = some v ∧ vok v = true := by
 obtain ⟨F, h1, h2, _⟩ := (S.frontAt i hi).hd
 have e1 : (⟨b, 0, none⟩ : Addr).add j = ⟨b, j, none⟩ := by unfold Addr.add; split <;> simp_all
 exact ⟨by rw [e1, cell_of_row _ _ _ _ _ _ h1]; simpa using hj, (List.all_eq_true.1 h2) _ (List.mem_of_getElem? hj)⟩
theorem Sat.mapAt {α : Type} {k : IntKind} {f : α → Value} {b : Nat} {m : List (Int × α)} (S : Sat w0 w M) (i : Nat) (hi : M[i]? = some (mapA k f b m)) : ∃ es clock, w.heap[b]? = some (.map es clock) ∧ Tells k f es clock m := by
 obtain ⟨F, h1, _⟩ := (S.frontAt i hi).hd
 exact h1
theorem addr0 (b j : Nat) : (⟨b, 0, none⟩ : Addr).add j = ⟨b, j, none⟩ := by unfold Addr.add; split <;> simp_all
end
section
variable {P : Program} {T : Orc} {ops : Array Oper} {Q : Exit → Act → World → Prop} {S' : World → Prop} {Df : List Deferred} {N : Nat} {a : Act} {w w0 : World} {L : Env} {R : List Asn}
theorem wl_ldf (hT : T.Ok P) {o : Oper} {rest : List Oper} {te : TypeId} {x : Operand} {d : Nat} {A : Addr} {v : Value} {de : TypeDesc} (hr : w.cell? A = some v ∧ vok v = true) (fr : FrD Df N a L) (hw : wantL ops L o = some true) (ho : o.op = .load te x) (hd : o.dst = some d) (hlt : Nat.blt d N = true)
  (hx : ev L x = some (.pointer (some A))) (hte : T.ty.lookup te = some de) (hde : aggD de = false) (h : ∀ a', FrD Df N a' ((d, v) :: L) → wpList P ops Q rest a' w) : wpList P ops Q (o :: rest) a w :=
 wl_val fr hw hd hlt (load_run hT fr ho hx hte hde hr.1) hr.2 h
theorem sl_ldf (hT : T.Ok P) {s : SOp} {rest : List Itm} {te : TypeId} {x : Operand} {d : Nat} {A : Addr} {v : Value} {de : TypeDesc} (hr : ∀ w, S' w → w.cell? A = some v ∧ vok v = true) (fr : FrD Df N a L) (hw : wantS L s = some true) (hq : s.q = true) (ho : s.op = .load te x) (hd : s.dst = some d) (hlt : Nat.blt d N = true)
  (hx : ev L x = some (.pointer (some A))) (hte : T.ty.lookup te = some de) (hde : aggD de = false) (hS : S' w) (h : ∀ a', FrD Df N a' ((d, v) :: L) → SL P Q S' rest a' w) : SL P Q S' (.one s :: rest) a w :=
 sl_q fr hw hq hd hlt (fun w' hS' => load_run hT fr (o := s.oper) ho hx hte hde (hr w' hS').1) (hr w hS).2 h
theorem store1_run (hT : T.Ok P) (fr : FrD Df N a L) {o : Oper} {te : TypeId} {p v : Operand} {b e j : Nat} {cs : List Value} {z : Value} (ho : o.op = .store te p v) (hp : ev L p = some (.pointer (some ((⟨b, 0, none⟩ : Addr).add j)))) (hv : ev L v = some z) (hs : T.sz.lookup te = some 1)
  (hc : z.cells = #[z]) (h1 : z.oneCell' = true) (S : Sat w0 w (stA e b cs :: R)) (hj : Nat.blt j cs.length = true) : ∃ w', (execOp a.eval o).run P w = .ok .skip w' ∧ Sat w0 w' (stA e b (cs.set j z) :: R) := by
 obtain ⟨F, ⟨g1, g2, g4, g5⟩, hF, hk⟩ := S.opened
 have hj := blt_lt hj
 have hcell : w.cell? ⟨b, j, none⟩ = some cs[j] := by
  rw [cell_of_row _ _ _ _ _ _ g1]; simp [List.getElem?_eq_getElem hj]
 have hfz := frozen_of_row w b j _ _ g1
 have hrun : (storeCells (⟨b, j, none⟩ : Addr) [z]).run P w = .ok () (w.setCell ⟨b, j, none⟩ z) := by
  have h2 := run_storeCells_cells (P := P) b j [z] 0 w (fun q hq => by
   have hq : q = 0 := by simpa using hq
   subst hq; simpa using by rw [hcell]; rfl) (fun q hq => by
   have hq : q = 0 := by simpa using hq
   subst hq; simpa using hfz) (fun u hu => by
   have hu : u = z := by simpa using hu
   subst hu; exact h1)
  have h3 : (storeCells (⟨b, j, none⟩ : Addr) [z]).run P w = .ok () (w.setCells b j [z]) := by simpa using h2
  exact h3
 refine ⟨w.setCell ⟨b, j, none⟩ z, ?_, hk (A' := stA e b (cs.set j z)) (F' := F) (G := fun g => g = b) ⟨?_, ?_, g4, g5⟩ (Chg.setCell w ⟨b, j, none⟩ z) (fun g _ hg => (g5 g).2 hg) fun g hg => .inl hg⟩
 ·unfold execOp
  simp only [ho, (fr.ev hp).1, (fr.ev hv).1, Instr.storeAt, Instr.sureAddr, storeVar, hc, addr0]
  simp [size_run hT hs, hrun]
 ·rw [heap_setCell_same w b j _ e z g1]; simp
 ·rw [List.all_eq_true]
  intro u hu
  rcases List.mem_or_eq_of_mem_set hu with hu | hu
  ·exact (List.all_eq_true.1 g2) u hu
  ·subst hu; exact (fr.ev hv).2
theorem wl_stf (hT : T.Ok P) {o : Oper} {rest : List Oper} {te : TypeId} {p v : Operand} {b e j : Nat} {cs : List Value} {z : Value} (fr : FrD Df N a L) (hw : wantL ops L o = some true) (hd : o.dst = none) (ho : o.op = .store te p v) (hp : ev L p = some (.pointer (some ((⟨b, 0, none⟩ : Addr).add j)))) (hv : ev L v = some z) (hs : T.sz.lookup te = some 1)
  (hc : z.cells = #[z]) (h1 : z.oneCell' = true) (S : Sat w0 w (stA e b cs :: R)) (hj : Nat.blt j cs.length = true) (h : ∀ w', Sat w0 w' (stA e b (cs.set j z) :: R) → wpList P ops Q rest a w') : wpList P ops Q (o :: rest) a w := by
 obtain ⟨w', h2, h3⟩ := store1_run hT fr ho hp hv hs hc h1 S hj
 exact wl_skip fr hw hd h2 (h w' h3)
theorem sl_stf (hT : T.Ok P) {s : SOp} {rest : List Itm} {te : TypeId} {p v : Operand} {b e j : Nat} {cs : List Value} {z : Value} (fr : FrD Df N a L) (hw : wantS L s = some true) (hq : s.q = false) (hd : s.dst = none) (ho : s.op = .store te p v) (hp : ev L p = some (.pointer (some ((⟨b, 0, none⟩ : Addr).add j)))) (hv : ev L v = some z) (hs : T.sz.lookup te = some 1)
  (hc : z.cells = #[z]) (h1 : z.oneCell' = true) (S : Sat w0 w (stA e b cs :: R)) (hj : Nat.blt j cs.length = true) (h : ∀ w', Sat w0 w' (stA e b (cs.set j z) :: R) → S' w' ∧ SL P Q S' rest a w') : SL P Q S' (.one s :: rest) a w := by
 obtain ⟨w', h2, h3⟩ := store1_run hT fr (o := s.oper) ho hp hv hs hc h1 S hj
 exact sl_skip fr hw hq hd h2 (h w' h3).1 (h w' h3).2
theorem wl_boxs {o : Oper} {rest : List Oper} {t : TypeId} {x : Operand} {d : Nat} {cs : List Value} (fr : FrD Df N a L) (hw : wantL ops L o = some true) (hd : o.dst = some d) (hlt : Nat.blt d N = true) (ho : o.op = .box t x) (hx : ev L x = some (.agg cs.toArray)) (hv : cs.all vok = true) (S : Sat w0 w R)
  (h : ∀ w' b, Sat w0 w' (stA t b cs :: R) → ∀ a', FrD Df N a' ((d, .pointer (some ⟨b, 0, none⟩)) :: L) → wpList P ops Q rest a' w') : wpList P ops Q (o :: rest) a w := by
 refine wl_val (v := .pointer (some ⟨w.heap.size, 0, none⟩)) (w' := w.alloc (.cells cs.toArray t)) fr hw hd hlt ?_ rfl (h _ _ ?_)
 ·unfold execOp
  simp only [ho, (fr.ev hx).1]
  rfl
 ·exact S.add (F := fun g => g = w.heap.size) ((Below.refl _ _).alloc (Nat.le_refl _) _) ⟨heap_alloc_new _ _, hv, S.below.size, fun g => Iff.rfl⟩ fun g hg => Nat.le_of_eq hg.symm
theorem wl_build {o : Oper} {rest : List Oper} {t : TypeId} {ps : Array (Nat × Operand)} {d : Nat} {L2 : List (Nat × Value)} {cs : List Value} (fr : FrD Df N a L) (hw : wantL ops L o = some true) (hd : o.dst = some d) (hlt : Nat.blt d N = true) (ho : o.op = .build t ps) (hp : (ps.map fun (i, x) => (i, a.eval x)).toList = L2) (hb : P.built t L2 = some cs.toArray) (hv : vok (.agg cs.toArray) = true)
  (h : ∀ a', FrD Df N a' ((d, .agg cs.toArray) :: L) → wpList P ops Q rest a' w) : wpList P ops Q (o :: rest) a w := by
 refine wl_val (v := .agg cs.toArray) fr hw hd hlt ?_ hv h
 unfold execOp
 simp only [ho]
 rw [Sem.run_bind, run_build w t _ cs.toArray (by rw [hp]; exact hb)]; rfl
variable {α : Type} {k : IntKind} {f : α → Value}
theorem wl_mkmap (k : IntKind) (f : α → Value) {o : Oper} {rest : List Oper} {t : TypeId} {d : Nat} (fr : FrD Df N a L) (hw : wantL ops L o = some true) (hd : o.dst = some d) (hlt : Nat.blt d N = true) (ho : o.op = .makeMap t none) (S : Sat w0 w R)
  (h : ∀ w' b, Sat w0 w' (mapA k f b [] :: R) → ∀ a', FrD Df N a' ((d, .map (some b)) :: L) → wpList P ops Q rest a' w') : wpList P ops Q (o :: rest) a w := by
 refine wl_val (v := .map (some w.heap.size)) (w' := w.alloc (.map #[] 0)) fr hw hd hlt ?_ rfl (h _ _ ?_)
 ·unfold execOp
  simp only [ho]
  rfl
 ·exact S.add (F := fun g => g = w.heap.size) ((Below.refl _ _).alloc (Nat.le_refl _) _) ⟨⟨_, _, heap_alloc_new _ _, Tells.empty k f⟩, S.below.size, fun g => Iff.rfl⟩ fun g hg => Nat.le_of_eq hg.symm
theorem getD_map (o : Option α) (d : α) : (o.map f).getD (f d) = f (o.getD d) := by cases o <;> rfl
theorem lk_exec (hT : T.Ok P) (fr : FrD Df N a L) {o : Oper} {mt kt et : TypeId} {x y : Operand} {b : Nat} {K : Int} {m : List (Int × α)} {ok : Bool} (z : α) (ho : o.op = .lookup mt x y ok) (hx : ev L x = some (.map (some b))) (hy : ev L y = some (.int k K)) (hm : T.ty.lookup mt = some (.map kt et)) (hk : T.ty.lookup kt = some (.int k)) (hz : ∀ W, (zeroValue et).run P W = .ok (f z) W) {w : World}
  (hr : ∃ es clock, w.heap[b]? = some (.map es clock) ∧ Tells k f es clock m) : (execOp a.eval o).run P w = .ok (.value (if ok then .tuple #[f ((lkM m K).getD z), .bool (lkM m K).isSome] else f ((lkM m K).getD z))) w := by
 obtain ⟨es, cl, h1, h2⟩ := hr
 have h3 := lookup_run (hT.und hm) (hT.und hk) hz h2 h1 K ok
 unfold execOp
 simp only [ho, (fr.ev hx).1, (fr.ev hy).1]
 rw [Sem.run_bind, h3]
 simp only [getD_map, Result.andThen_ok]
 rfl
theorem lk_vok {m : List (Int × α)} {w : World} {b : Nat} (hr : ∃ es clock, w.heap[b]? = some (.map es clock) ∧ Tells k f es clock m) (z : α) (hz : vok (f z) = true) (K : Int) : vok (f ((lkM m K).getD z)) = true := by
 obtain ⟨es, cl, h1, h2⟩ := hr
 cases h : lkM m K with
 | none => exact hz
 | some v => exact (h2.wf _ (lk_some h)).2
theorem wl_lk (hT : T.Ok P) {o : Oper} {rest : List Oper} {mt kt et : TypeId} {x y : Operand} {d b : Nat} {K : Int} {m : List (Int × α)} (z : α) (hz : ∀ W, (zeroValue et).run P W = .ok (f z) W) (hzv : vok (f z) = true) (hr : ∃ es clock, w.heap[b]? = some (.map es clock) ∧ Tells k f es clock m) (fr : FrD Df N a L) (hw : wantL ops L o = some true) (hd : o.dst = some d) (hlt : Nat.blt d N = true) (ho : o.op = .lookup mt x y false)
  (hx : ev L x = some (.map (some b))) (hy : ev L y = some (.int k K)) (hm : T.ty.lookup mt = some (.map kt et)) (hk : T.ty.lookup kt = some (.int k)) (h : ∀ a', FrD Df N a' ((d, f ((lkM m K).getD z)) :: L) → wpList P ops Q rest a' w) : wpList P ops Q (o :: rest) a w :=
 wl_val fr hw hd hlt (lk_exec hT fr z ho hx hy hm hk hz hr) (lk_vok hr z hzv K) h
theorem sl_lk (hT : T.Ok P) {s : SOp} {rest : List Itm} {mt kt et : TypeId} {x y : Operand} {d b : Nat} {K : Int} {m : List (Int × α)} (z : α) (hz : ∀ W, (zeroValue et).run P W = .ok (f z) W) (hzv : vok (f z) = true) (hr : ∀ w, S' w → ∃ es clock, w.heap[b]? = some (.map es clock) ∧ Tells k f es clock m) (fr : FrD Df N a L) (hw : wantS L s = some true) (hq : s.q = true) (hd : s.dst = some d) (hlt : Nat.blt d N = true) (ho : s.op = .lookup mt x y false)
  (hx : ev L x = some (.map (some b))) (hy : ev L y = some (.int k K)) (hm : T.ty.lookup mt = some (.map kt et)) (hk : T.ty.lookup kt = some (.int k)) (hS : S' w) (h : ∀ a', FrD Df N a' ((d, f ((lkM m K).getD z)) :: L) → SL P Q S' rest a' w) : SL P Q S' (.one s :: rest) a w :=
 sl_q fr hw hq hd hlt (fun w' hS' => lk_exec hT fr (o := s.oper) z ho hx hy hm hk hz (hr w' hS')) (lk_vok (hr w hS) z hzv K) h
theorem wl_lk2 (hT : T.Ok P) {o : Oper} {rest : List Oper} {mt kt et : TypeId} {x y : Operand} {d b : Nat} {K : Int} {m : List (Int × α)} (z : α) (hz : ∀ W, (zeroValue et).run P W = .ok (f z) W) (hzv : vok (f z) = true) (hf : ∀ z, vokC (f z) = vok (f z)) (hr : ∃ es clock, w.heap[b]? = some (.map es clock) ∧ Tells k f es clock m) (fr : FrD Df N a L) (hw : wantL ops L o = some true) (hd : o.dst = some d) (hlt : Nat.blt d N = true) (ho : o.op = .lookup mt x y true)
  (hx : ev L x = some (.map (some b))) (hy : ev L y = some (.int k K)) (hm : T.ty.lookup mt = some (.map kt et)) (hk : T.ty.lookup kt = some (.int k)) (h : ∀ a', FrD Df N a' ((d, .tuple #[f ((lkM m K).getD z), .bool (lkM m K).isSome]) :: L) → wpList P ops Q rest a' w) : wpList P ops Q (o :: rest) a w :=
 wl_val fr hw hd hlt (lk_exec hT fr z ho hx hy hm hk hz hr) (by
  show [f ((lkM m K).getD z), Value.bool (lkM m K).isSome].all vokC = true
  rw [List.all_cons, hf, lk_vok hr z hzv K]; rfl) h
theorem up_exec (hT : T.Ok P) (fr : FrD Df N a L) {o : Oper} {mt kt et : TypeId} {x y v : Operand} {b : Nat} {K : Int} {m : List (Int × α)} {z : α} (ho : o.op = .mapUpdate mt x y v ∨ o.op = .insert mt x y v) (hx : ev L x = some (.map (some b))) (hy : ev L y = some (.int k K)) (hv : ev L v = some (f z)) (hm : T.ty.lookup mt = some (.map kt et)) (hk : T.ty.lookup kt = some (.int k)) (S : Sat w0 w (mapA k f b m :: R)) :
  ∃ w', (execOp a.eval o).run P w = .ok .skip w' ∧ Sat w0 w' (mapA k f b (upM m K z) :: R) := by
 obtain ⟨F, ⟨⟨es, cl, h1, h2⟩, g4, g5⟩, hF, hk'⟩ := S.opened
 obtain ⟨es', cl', h3, h4⟩ := update_run (hT.und hm) (hT.und hk) h2 h1 (fr.ev hy).2 (fr.ev hv).2
 refine ⟨_, ?_, hk' (A' := mapA k f b (upM m K z)) (F' := F) (G := fun g => g = b) ⟨⟨es', cl', putObj_at h1, h4⟩, g4, g5⟩ (putObj_chg w b _) (fun g _ hg => (g5 g).2 hg) fun g hg => .inl hg⟩
 unfold execOp
 rcases ho with ho | ho <;> (simp only [ho, (fr.ev hx).1, (fr.ev hy).1, (fr.ev hv).1]; rw [Sem.run_bind, h3]; rfl)
theorem wl_up (hT : T.Ok P) {o : Oper} {rest : List Oper} {mt kt et : TypeId} {x y v : Operand} {b : Nat} {K : Int} {m : List (Int × α)} (z : α) (fr : FrD Df N a L) (hw : wantL ops L o = some true) (hd : o.dst = none) (ho : o.op = .mapUpdate mt x y v ∨ o.op = .insert mt x y v) (hx : ev L x = some (.map (some b))) (hy : ev L y = some (.int k K)) (hv : ev L v = some (f z)) (hm : T.ty.lookup mt = some (.map kt et)) (hk : T.ty.lookup kt = some (.int k)) (S : Sat w0 w (mapA k f b m :: R))
  (h : ∀ w', Sat w0 w' (mapA k f b (upM m K z) :: R) → wpList P ops Q rest a w') : wpList P ops Q (o :: rest) a w := by
 obtain ⟨w', h1, h2⟩ := up_exec hT fr ho hx hy hv hm hk S
 exact wl_skip fr hw hd h1 (h w' h2)
theorem sl_up (hT : T.Ok P) {s : SOp} {rest : List Itm} {mt kt et : TypeId} {x y v : Operand} {b : Nat} {K : Int} {m : List (Int × α)} (z : α) (fr : FrD Df N a L) (hw : wantS L s = some true) (hq : s.q = false) (hd : s.dst = none) (ho : s.op = .mapUpdate mt x y v ∨ s.op = .insert mt x y v) (hx : ev L x = some (.map (some b))) (hy : ev L y = some (.int k K)) (hv : ev L v = some (f z)) (hm : T.ty.lookup mt = some (.map kt et)) (hk : T.ty.lookup kt = some (.int k)) (S : Sat w0 w (mapA k f b m :: R))
  (h : ∀ w', Sat w0 w' (mapA k f b (upM m K z) :: R) → S' w' ∧ SL P Q S' rest a w') : SL P Q S' (.one s :: rest) a w := by
 obtain ⟨w', h1, h2⟩ := up_exec hT fr (o := s.oper) ho hx hy hv hm hk S
 exact sl_skip fr hw hq hd h1 (h w' h2).1 (h w' h2).2
theorem wl_del (hT : T.Ok P) {o : Oper} {rest : List Oper} {mt kt et : TypeId} {x y : Operand} {ts : Array TypeId} {b : Nat} {K : Int} {m : List (Int × α)} (fr : FrD Df N a L) (hw : wantL ops L o = some true) (hd : o.dst = none) (ho : o.op = .call { callee := .builtin .delete, args := #[x, y], argTypes := ts }) (ht : ts[0]? = some mt) (hx : ev L x = some (.map (some b))) (hy : ev L y = some (.int k K)) (hm : T.ty.lookup mt = some (.map kt et)) (hk : T.ty.lookup kt = some (.int k)) (S : Sat w0 w (mapA k f b m :: R))
  (h : ∀ w', Sat w0 w' (mapA k f b (delM m K) :: R) → wpList P ops Q rest a w') : wpList P ops Q (o :: rest) a w := by
 obtain ⟨F, ⟨⟨es, cl, h1, h2⟩, g4, g5⟩, hF, hk'⟩ := S.opened
 obtain ⟨es', h3, h4⟩ := delete_run (ty := o.type) (hT.und hm) (hT.und hk) ht h2 h1 K
 have h5 := hk' (A' := mapA k f b (delM m K)) (F' := F) (G := fun g => g = b) ⟨⟨es', cl, putObj_at h1, h4⟩, g4, g5⟩ (putObj_chg w b _) (fun g _ hg => (g5 g).2 hg) fun g hg => .inl hg
 refine wl_op fr hw fun K' hK => wp_value (v := .tuple #[]) ?_ (hK _ _ (by rw [hd]; exact h _ h5))
 unfold execOp
 simp only [ho, resolve]
 rw [Sem.run_bind, Sem.run_pure, Result.andThen_ok]
 simp only [invoke, builtin, List.map_toArray, List.map_cons, List.map_nil, (fr.ev hx).1, (fr.ev hy).1]
 rw [Sem.run_bind, h3]; rfl
end
def elP (A : Option Addr) (i : Int) : Value := .pointer (A.map fun ad => ad.add (i.toNat * 1))
section
variable {P : Program} {T : Orc} {ops : Array Oper} {Q : Exit → Act → World → Prop} {S' : World → Prop} {Df : List Deferred} {N : Nat} {a : Act} {w w0 : World} {L : Env} {R : List Asn} {k : IntKind} {A : Option Addr} {l : List Int} {i : Int}
theorem el_run (hT : T.Ok P) (fr : FrD Df N a L) {o : Oper} {t : TypeId} {x ix : Operand} {n c e : Nat} {ki : IntKind} (ho : o.op = .indexAddr t x ix) (hr : Rk k w A l) (hx : ev L x = some (.slice A n c)) (hi : ev L ix = some (.int ki i)) (ht : T.ty.lookup t = some (.slice e)) (hs : T.sz.lookup e = some 1) (hn : n = l.length) (hb : 0 ≤ i ∧ i < (l.length : Int)) (w' : World) :
  (execOp a.eval o).run P w' = .ok (.value (elP A i)) w' := by
 subst hn
 obtain ⟨ad, rfl, -, -⟩ := hr.rd.cell (j := i.toNat) (by omega)
 exact indexAddr_run hT fr ho hx hi ht hs hb.1 hb.2 w'
theorem sl_pe (hT : T.Ok P) {s : SOp} {rest : List Itm} {t : TypeId} {x ix : Operand} {d n c e : Nat} {ki : IntKind} (hr : Rk k w A l) (fr : FrD Df N a L) (hw : wantS L s = some true) (hq : s.q = true) (ho : s.op = .indexAddr t x ix) (hd : s.dst = some d) (hlt : Nat.blt d N = true) (hx : ev L x = some (.slice A n c)) (hi : ev L ix = some (.int ki i))
  (ht : T.ty.lookup t = some (.slice e)) (hs : T.sz.lookup e = some 1) (hn : n = l.length) (hb : 0 ≤ i ∧ i < (l.length : Int)) (h : ∀ a', FrD Df N a' ((d, elP A i) :: L) → SL P Q S' rest a' w) : SL P Q S' (.one s :: rest) a w :=
 sl_q fr hw hq hd hlt (fun w' _ => el_run hT fr (o := s.oper) ho hr hx hi ht hs hn hb w') rfl h
theorem ste_run (hT : T.Ok P) (fr : FrD Df N a L) {o : Oper} {te : TypeId} {p v : Operand} {c e : Nat} {z : Int} (ho : o.op = .store te p v) (hp : ev L p = some (elP A i)) (hv : ev L v = some (.int k z)) (hs : T.sz.lookup te = some 1) (S : Sat w0 w (ownA k e A c l :: R)) (hb : 0 ≤ i ∧ i < (l.length : Int)) :
  ∃ w', (execOp a.eval o).run P w = .ok .skip w' ∧ Sat w0 w' (ownA k e A c (l.set i.toNat z) :: R) := by
 obtain ⟨j, rfl⟩ : ∃ j : Nat, i = j := ⟨i.toNat, by omega⟩
 rw [Int.toNat_natCast]
 have hj : j < l.length := by omega
 obtain ⟨F, ⟨g1, g2, g3⟩, hF, hk⟩ := S.opened
 obtain ⟨g, c', e1⟩ := g1.ptr (by omega)
 injection e1 with e1 _ e2
 subst e1 e2
 obtain ⟨q1, q2, q3, q4, -, -⟩ := g1.cell hj
 have ea : (⟨g, 0, none⟩ : Addr).add (j * 1) = ⟨g, j, none⟩ := by unfold Addr.add; split <;> simp_all
 have hrun : (storeCells (⟨g, j, none⟩ : Addr) [.int k z]).run P w = .ok () (w.setCell ⟨g, j, none⟩ (.int k z)) := by
  have h2 := run_storeCells_cells (P := P) g j [.int k z] 0 w (fun q hq => by
   have hq : q = 0 := by simpa using hq
   subst hq; simpa using by rw [q1]; rfl) (fun q hq => by
   have hq : q = 0 := by simpa using hq
   subst hq; simpa using q2) (fun u hu => by
   have hu : u = .int k z := by simpa using hu
   subst hu; rfl)
  have h3 : (storeCells (⟨g, j, none⟩ : Addr) [.int k z]).run P w = .ok () (w.setCells g j [.int k z]) := by simpa using h2
  exact h3
 refine ⟨w.setCell ⟨g, j, none⟩ (.int k z), ?_, hk (A' := ownA k e (some ⟨g, 0, none⟩) c (l.set j z)) (F' := F) (G := fun q => q = g) ⟨?_, fun u hu => ?_, fun q => ?_⟩ (Chg.setCell w ⟨g, j, none⟩ _) (fun q _ hq => (g3 q).2 (by subst hq; rfl)) fun q hq => .inl hq⟩
 ·have hp' : (elP (some ⟨g, 0, none⟩) (j : Int)) = .pointer (some ⟨g, j, none⟩) := by
   show Value.pointer (some ((⟨g, 0, none⟩ : Addr).add ((j : Int).toNat * 1))) = _
   rw [Int.toNat_natCast, ea]
  rw [hp'] at hp
  unfold execOp
  simp only [ho, (fr.ev hp).1, (fr.ev hv).1, Instr.storeAt, Instr.sureAddr, storeVar, Value.cells]
  simp [size_run hT hs, hrun]
 ·have := g1.set hj (x := z)
  rw [List.length_set]; exact this
 ·rcases List.mem_or_eq_of_mem_set hu with hu | hu
  ·exact g2 u hu
  ·subst hu; exact (fr.ev hv).2
 ·rw [List.length_set]; exact g3 q
theorem wl_callE {o : Oper} {rest : List Oper} {d : Nat} {f : FuncId} {xs ys : List Value} {E : Ending → World → Prop} (fr : FrD Df N a L) (hw : wantL ops L o = some true) (hd : o.dst = some d) (hlt : Nat.blt d N = true) (hc : callL L o = some (f, xs)) (hin : Enters P f) (he : xs = ys) (hcon : Calls P f ys.toArray w E)
  (h : ∀ e w', E e w' → ∃ v, e = .returned v ∧ vok v = true ∧ ∀ a', FrD Df N a' ((d, v) :: L) → wpList P ops Q rest a' w') : wpList P ops Q (o :: rest) a w := wl_call fr hw hd hlt hc hin (he ▸ hcon) h
def strB (s : ByteArray) (i : Nat) : Int := ((s[i]?).map (fun b => (b.toNat : Int))).getD 0
theorem wl_ixs (hT : T.Ok P) {o : Oper} {rest : List Oper} {t : TypeId} {x ix : Operand} {d : Nat} {s : ByteArray} {ki : IntKind} (fr : FrD Df N a L) (hw : wantL ops L o = some true) (hd : o.dst = some d) (hlt : Nat.blt d N = true) (ho : o.op = .index t x ix) (hx : ev L x = some (.string s)) (hi : ev L ix = some (.int ki i)) (ht : T.ty.lookup t = some .string)
  (hb : 0 ≤ i ∧ i < (s.size : Int)) (h : ∀ a', FrD Df N a' ((d, .int .u8 (strB s i.toNat)) :: L) → wpList P ops Q rest a' w) : wpList P ops Q (o :: rest) a w := by
 have hs : i.toNat < s.size := by omega
 have e1 : s[i.toNat]? = some s[i.toNat] := getElem?_pos s i.toNat hs
 have e2 : strB s i.toNat = (s[i.toNat].toNat : Int) := by unfold strB; rw [e1]; rfl
 refine wl_val (v := .int .u8 (strB s i.toNat)) fr hw hd hlt ?_ ?_ h
 ·unfold execOp
  simp only [ho, (fr.ev hx).1, (fr.ev hi).1, Instr.index, asIntOf]
  rw [Sem.run_bind, Sem.run_bind, Sem.run_pure, Result.andThen_ok]
  simp only
  rw [Sem.run_bind, run_underlying (hT.und ht), Result.andThen_ok]
  simp only
  rw [if_pos hb.1, e1, e2]; rfl
 ·rw [e2]
  have := s[i.toNat].toNat_lt
  show (Lit.int .u8 (s[i.toNat].toNat : Int)).wf = true
  rw [wf_int]
  have h1 : IntKind.u8.min = 0 := by decide
  have h2 : IntKind.u8.max = 255 := by decide
  omega
theorem Sat.varAt {b e : Nat} {v : Value} {M : List Asn} (S : Sat w0 w M) (j : Nat) (hj : M[j]? = some (stA e b [v])) : w.cell? (⟨b, 0, none⟩ : Addr) = some v ∧ vok v = true := by
 have := S.stAt j hj (j := 0) rfl
 rwa [addr0] at this
theorem wl_allocv {o : Oper} {rest : List Oper} {t : TypeId} {d : Nat} {v : Value} (fr : FrD Df N a L) (hw : wantL ops L o = some true) (hd : o.dst = some d) (hlt : Nat.blt d N = true) (ho : o.op = .alloc t) (hz : ∀ W, (zeroValue t).run P W = .ok v W) (hc : v.cells = #[v]) (hok : vok v = true) (S : Sat w0 w R)
  (h : ∀ w' b, Sat w0 w' (stA t b [v] :: R) → ∀ a', FrD Df N a' ((d, .pointer (some ⟨b, 0, none⟩)) :: L) → wpList P ops Q rest a' w') : wpList P ops Q (o :: rest) a w := by
 refine wl_val (v := .pointer (some ⟨w.heap.size, 0, none⟩)) (w' := w.alloc (.cells #[v] t)) fr hw hd hlt ?_ rfl (h _ _ ?_)
 ·unfold execOp
  simp only [ho, Instr.alloc]
  rw [Sem.run_bind, Sem.run_bind, hz, Result.andThen_ok, Sem.run_bind]
  unfold newVar
  rw [hc]
  rfl
 ·exact S.add (F := fun g => g = w.heap.size) ((Below.refl _ _).alloc (Nat.le_refl _) _) ⟨heap_alloc_new _ _, by simp [hok], S.below.size, fun g => Iff.rfl⟩ fun g hg => Nat.le_of_eq hg.symm
theorem wl_stv (hT : T.Ok P) {o : Oper} {rest : List Oper} {te : TypeId} {p v : Operand} {b e : Nat} {y z : Value} (fr : FrD Df N a L) (hw : wantL ops L o = some true) (hd : o.dst = none) (ho : o.op = .store te p v) (hp : ev L p = some (.pointer (some ⟨b, 0, none⟩))) (hv : ev L v = some z) (hs : T.sz.lookup te = some 1)
  (hc : z.cells = #[z]) (h1 : z.oneCell' = true) (S : Sat w0 w (stA e b [y] :: R)) (h : ∀ w', Sat w0 w' (stA e b [z] :: R) → wpList P ops Q rest a w') : wpList P ops Q (o :: rest) a w :=
 wl_stf (j := 0) hT fr hw hd ho (by rw [addr0]; exact hp) hv hs hc h1 S rfl h
theorem sl_stv (hT : T.Ok P) {s : SOp} {rest : List Itm} {te : TypeId} {p v : Operand} {b e : Nat} {y z : Value} (fr : FrD Df N a L) (hw : wantS L s = some true) (hq : s.q = false) (hd : s.dst = none) (ho : s.op = .store te p v) (hp : ev L p = some (.pointer (some ⟨b, 0, none⟩))) (hv : ev L v = some z) (hs : T.sz.lookup te = some 1)
  (hc : z.cells = #[z]) (h1 : z.oneCell' = true) (S : Sat w0 w (stA e b [y] :: R)) (h : ∀ w', Sat w0 w' (stA e b [z] :: R) → S' w' ∧ SL P Q S' rest a w') : SL P Q S' (.one s :: rest) a w := by
 obtain ⟨w', h2, h3⟩ := store1_run hT fr (o := s.oper) (j := 0) ho (by rw [addr0]; exact hp) hv hs hc h1 S rfl
 exact sl_skip fr hw hq hd h2 (h w' h3).1 (h w' h3).2
def rowA (k : IntKind) (e : TypeId) (A : Option Addr) (c n : Nat) (l : List Int) : Asn where
 holds := fun w B F => (OwnI k w B e (.slice A n c) l ∧ (∀ z ∈ l, (Lit.int k z).wf = true) ∧ ∀ g, F g ↔ (Value.slice A n c).ownBlock = some g) ∧ l.length = n
 keep := fun ⟨⟨h1, h2, h3⟩, h4⟩ hc hF _ => ⟨⟨h1.kept hc fun g hg => hF g ((h3 g).2 hg), h2, h3⟩, h4⟩
 dom := fun ⟨⟨h1, _, h3⟩, _⟩ g hg => h1.lt g ((h3 g).1 hg)
theorem Sat.toRow {c e : Nat} (S : Sat w0 w (ownA k e A c l :: R)) : Sat w0 w (rowA k e A c l.length l :: R) := by
 obtain ⟨h1, F, h2, h3, h4⟩ := S
 exact ⟨h1, F, ⟨h2, rfl⟩, h3, h4⟩
theorem Sat.ofRow {c e n : Nat} (S : Sat w0 w (rowA k e A c n l :: R)) : l.length = n ∧ Sat w0 w (ownA k e A c l :: R) := by
 obtain ⟨h1, F, ⟨h2, rfl⟩, h3, h4⟩ := S
 exact ⟨rfl, h1, F, h2, h3, h4⟩
theorem Sat.rowAt {c e n : Nat} {M : List Asn} (S : Sat w0 w M) (j : Nat) (hj : M[j]? = some (rowA k e A c n l)) : Rk k w A l := (S.frontAt j hj).ofRow.2.own.1
theorem Sat.rowLen {c e n : Nat} {M : List Asn} (S : Sat w0 w M) (j : Nat) (hj : M[j]? = some (rowA k e A c n l)) : n = l.length := ((S.frontAt j hj).ofRow.1).symm
theorem Sat.rowHb {c e n : Nat} {M : List Asn} (S : Sat w0 w M) (j : Nat) (hj : M[j]? = some (rowA k e A c n l)) {i : Int} (h : 0 ≤ i ∧ i < (n : Int)) : 0 ≤ i ∧ i < (l.length : Int) := by rw [← S.rowLen j hj]; exact h
theorem sl_str (hT : T.Ok P) {s : SOp} {rest : List Itm} {te : TypeId} {p v : Operand} {c e n : Nat} {z : Int} (fr : FrD Df N a L) (hw : wantS L s = some true) (hq : s.q = false) (hd : s.dst = none) (ho : s.op = .store te p v) (hp : ev L p = some (elP A i)) (hv : ev L v = some (.int k z)) (hs : T.sz.lookup te = some 1) (S : Sat w0 w (rowA k e A c n l :: R)) (hb : 0 ≤ i ∧ i < (n : Int))
  (h : ∀ w', Sat w0 w' (rowA k e A c n (l.set i.toNat z) :: R) → S' w' ∧ SL P Q S' rest a w') : SL P Q S' (.one s :: rest) a w := by
 obtain ⟨e1, S1⟩ := S.ofRow
 subst e1
 obtain ⟨w', h1, h2⟩ := ste_run hT fr (o := s.oper) ho hp hv hs S1 hb
 obtain ⟨h3, h4⟩ := h w' (by have := h2.toRow; rwa [List.length_set] at this)
 exact sl_skip fr hw hq hd h1 h3 h4
end
section
variable {w0 w : World} {B : Nat} {U : Nat → Prop} {L L' R : List Asn}
theorem SatF.perm (h : L.Perm L') : ∀ {U : Nat → Prop}, SatF w B U L → SatF w B U L' := by
 induction h with
 | nil => intro U h; exact h
 | cons A _ ih => rintro U ⟨F, h1, h2, h3⟩; exact ⟨F, h1, h2, ih h3⟩
 | swap A A' L => intro U h; exact h.swap
 | trans _ _ ih1 ih2 => intro U h; exact ih2 (ih1 h)
theorem Sat.perm (S : Sat w0 w L) (h : L.Perm L') : Sat w0 w L' := ⟨S.below, S.parts.perm h⟩
theorem SatF.left : ∀ {X Y : List Asn} {U : Nat → Prop}, SatF w B U (X ++ Y) → SatF w B U X := by
 intro X
 induction X with
 | nil => intro Y U _; trivial
 | cons A X ih => rintro Y U ⟨F, h1, h2, h3⟩; exact ⟨F, h1, h2, ih h3⟩
theorem Sat.firsts (X : List Asn) {Y : List Asn} (S : Sat w0 w (X ++ Y)) : Sat w0 w X := ⟨S.below, S.parts.left⟩
end
abbrev Rw := Option Addr × Nat × List Int
def rwV (p : Rw) : Value := .slice p.1 p.2.2.length p.2.1
theorem del_none {α : Type} {m : List (Int × α)} {x : Int} (h : lkM m x = none) : delM m x = m := by
 induction m with
 | nil => rfl
 | cons p r ih =>
  rw [lkM_cons] at h
  unfold delM
  by_cases hp : p.1 = x
  ·rw [if_pos hp] at h; cases h
  ·rw [if_neg hp] at h ⊢; rw [ih h]
section
variable {w0 w : World} {R : List Asn} {k : IntKind} {e : TypeId} {m : List (Int × Rw)}
end
section
variable {P : Program} {T : Orc} {ops : Array Oper} {Q : Exit → Act → World → Prop} {S' : World → Prop} {Df : List Deferred} {N : Nat} {a : Act} {w w0 : World} {L : Env} {R : List Asn} {k : IntKind}
theorem sl_mid (t e : TypeId) (kl kh : IntKind) (ht : P.underlying t = some (.slice e)) (hi : (P.info? e).map (·.size) = some 1) (A : Option Addr) (n c l h : Nat) (xl xh : Int) (el : xl = l) (eh : xh = h) (h1 : l ≤ h) (h2 : h ≤ c) :
  ∀ W : World, (Instr.slice t (.slice A n c) (some (.int kl xl)) (some (.int kh xh)) none).run P W = .ok (.slice (dropA A c l) (h - l) (c - l)) W := by
 intro W
 subst el eh
 cases hq : P.info? e with
 | none => simp [hq] at hi
 | some i =>
  have hs : i.size = 1 := by simpa [hq] using hi
  simp only [Instr.slice, Sem.run_bind, run_underlying ht, Result.andThen_ok, Instr.sliceBounds, Instr.sliceBound, asIntOf, Sem.run_pure, Option.isSome]
  rw [if_pos ⟨by omega, by omega⟩]
  simp [sizeOf, typeInfo, hq, hs, dropA, h1]
theorem slice_run (hT : T.Ok P) (fr : FrD Df N a L) {o : Oper} {t : TypeId} {x : Operand} {lo hi mx : Option Operand} {vlo vhi vmx : Option Value} (ho : o.op = .slice t x lo hi mx) {v : Value} {e : Nat} {A : Option Addr} {n c : Nat} (hx : ev L x = some (.slice A n c))
  (h1 : lo.map a.eval = vlo) (h2 : hi.map a.eval = vhi) (h3 : mx.map a.eval = vmx) (ht : T.ty.lookup t = some (.slice e)) (hr : ∀ w, (Instr.slice t (.slice A n c) vlo vhi vmx).run P w = .ok v w) (w : World) : (execOp a.eval o).run P w = .ok (.value v) w := by
 unfold execOp
 simp only [ho, (fr.ev hx).1, h1, h2, h3, Instr.sliceAt]
 rw [Sem.run_bind, Sem.run_bind, run_underlying (hT.und ht), Result.andThen_ok]
 simp only
 rw [hr]
 rfl
theorem wl_boxv {o : Oper} {rest : List Oper} {t : TypeId} {x : Operand} {d : Nat} {v : Value} (fr : FrD Df N a L) (hw : wantL ops L o = some true) (hd : o.dst = some d) (hlt : Nat.blt d N = true) (ho : o.op = .box t x) (hx : ev L x = some v) (hc : v.cells = #[v]) (S : Sat w0 w R)
  (h : ∀ w' b, Sat w0 w' (stA t b [v] :: R) → ∀ a', FrD Df N a' ((d, .pointer (some ⟨b, 0, none⟩)) :: L) → wpList P ops Q rest a' w') : wpList P ops Q (o :: rest) a w := by
 refine wl_val (v := .pointer (some ⟨w.heap.size, 0, none⟩)) (w' := w.alloc (.cells #[v] t)) fr hw hd hlt ?_ rfl (h _ _ ?_)
 ·have e := (fr.ev hx).1
  unfold execOp
  simp only [ho, e]
  have hr : (Instr.box t v).run P w = .ok (.pointer (some ⟨w.heap.size, 0, none⟩)) (w.alloc (.cells v.cells t)) := rfl
  rw [Sem.run_bind, hr, hc]
  rfl
 ·exact S.add (F := fun g => g = w.heap.size) ((Below.refl _ _).alloc (Nat.le_refl _) _) ⟨heap_alloc_new _ _, by rw [List.all_cons, List.all_nil, Bool.and_true]; exact (fr.ev hx).2, S.below.size, fun g => Iff.rfl⟩ fun g hg => Nat.le_of_eq hg.symm
theorem wl_makef {o : Oper} {rest : List Oper} {d : Nat} {g : FuncId} {cs : Array Operand} {xs : List Value} (fr : FrD Df N a L) (hw : wantL ops L o = some true) (hd : o.dst = some d) (hlt : Nat.blt d N = true) (ho : o.op = .makeFunc (.func g) #[] cs) (hx : evs L cs.toList = some xs)
  (h : ∀ a', FrD Df N a' ((d, .func (.func g) #[] xs.toArray) :: L) → wpList P ops Q rest a' w) : wpList P ops Q (o :: rest) a w := by
 refine wl_val (v := .func (.func g) #[] xs.toArray) fr hw hd hlt ?_ rfl h
 have e : cs.map a.eval = xs.toArray := by
  apply Array.toList_inj.1
  rw [Array.toList_map, (evs_run fr hx).1]
 unfold execOp
 simp only [ho, e]
 rw [Sem.run_bind, Array.map_empty]
 rfl
theorem dropq_run (hT : T.Ok P) {o : Oper} {t : TypeId} {x y : Operand} {A : Option Addr} {l : List Int} {n c e : Nat} {ki : IntKind} {i : Int} (fr : FrD Df N a L) (ho : o.op = .slice t x (some y) none none)
  (hx : ev L x = some (.slice A n c)) (hy : ev L y = some (.int ki i)) (ht : T.ty.lookup t = some (.slice e)) (hi : (P.info? e).map (·.size) = some 1) (hn : n = l.length) (hb : 0 ≤ i ∧ i ≤ (l.length : Int)) :
  (∀ w, (execOp a.eval o).run P w = .ok (.value (.slice (dropA A c i.toNat) (l.drop i.toNat).length (c - i.toNat))) w) ∧ vok (.slice (dropA A c i.toNat) (l.drop i.toNat).length (c - i.toNat)) = true := by
 subst hn
 have hv := (fr.ev hx).2
 have hv2 : l.length ≤ c ∧ c ≤ maxLen := by simpa [vok, vokC, vok1] using hv
 have hl : (l.drop i.toNat).length = l.length - i.toNat := List.length_drop
 rw [hl]
 refine ⟨fun w => slice_run hT fr ho hx (vlo := some (.int ki (i.toNat : Int))) (vhi := none) (vmx := none) (by rw [show ((i.toNat : Nat) : Int) = i by omega]; exact congrArg some (fr.ev hy).1) rfl rfl ht (sl_drop _ e ki (hT.und ht) hi A l.length c i.toNat (by omega)) w, vok_sl ⟨by omega, by omega⟩⟩
theorem wl_drop (hT : T.Ok P) {o : Oper} {rest : List Oper} {t : TypeId} {x y : Operand} {d : Nat} {A : Option Addr} {l : List Int} {n c e : Nat} {ki : IntKind} {i : Int} (fr : FrD Df N a L) (hw : wantL ops L o = some true) (ho : o.op = .slice t x (some y) none none) (hd : o.dst = some d) (hlt : Nat.blt d N = true)
  (hx : ev L x = some (.slice A n c)) (hy : ev L y = some (.int ki i)) (ht : T.ty.lookup t = some (.slice e)) (hi : (P.info? e).map (·.size) = some 1) (hn : n = l.length) (hb : 0 ≤ i ∧ i ≤ (l.length : Int))
  (h : ∀ a', FrD Df N a' ((d, .slice (dropA A c i.toNat) (l.drop i.toNat).length (c - i.toNat)) :: L) → wpList P ops Q rest a' w) : wpList P ops Q (o :: rest) a w :=
 wl_val fr hw hd hlt ((dropq_run hT fr ho hx hy ht hi hn hb).1 w) (dropq_run hT fr ho hx hy ht hi hn hb).2 h
theorem sl_takeq (hT : T.Ok P) {s : SOp} {rest : List Itm} {t : TypeId} {x y : Operand} {d : Nat} {A : Option Addr} {l : List Int} {n c e sz : Nat} {ki : IntKind} {i : Int} (fr : FrD Df N a L) (hw : wantS L s = some true) (hq : s.q = true) (ho : s.op = .slice t x none (some y) none) (hd : s.dst = some d) (hlt : Nat.blt d N = true)
  (hx : ev L x = some (.slice A n c)) (hy : ev L y = some (.int ki i)) (ht : T.ty.lookup t = some (.slice e)) (hs : T.sz.lookup e = some sz) (hn : n = l.length) (hb : 0 ≤ i ∧ i ≤ (l.length : Int))
  (h : ∀ a', FrD Df N a' ((d, .slice A (l.take i.toNat).length c) :: L) → SL P Q S' rest a' w) : SL P Q S' (.one s :: rest) a w := by
 subst hn
 have hv := (fr.ev hx).2
 have hv2 : l.length ≤ c ∧ c ≤ maxLen := by simpa [vok, vokC, vok1] using hv
 have hl : (l.take i.toNat).length = i.toNat := by rw [List.length_take]; omega
 exact sl_q fr hw hq hd hlt (fun w _ => take_run hT fr (o := s.oper) ho hx hy ht hs ⟨hb.1, by omega⟩ w) (vok_sl ⟨by omega, hv2.2⟩) fun a' fr' => h a' (by rw [hl]; exact fr')
end
end Go.Proofs.YticnjkdaccacaaaGreat.Sx
end
section
namespace Go.Proofs.YticnjkdaccacaaaGreat.Sx
open Go Go.RowKit Base Oq Go.ChangeMaps
def iterA {α : Type} (k : IntKind) (f : α → Value) (b r : Nat) (m left : List (Int × α)) (cur : Option (Int × α)) : Asn where
 holds := fun w B F => (∃ es clock seen since c0, w.heap[b]? = some (.map es clock) ∧ Tells k f es clock m ∧ w.heap[r]? = some (.mapIter (some b) since seen c0) ∧ (∀ x ∈ es.toList, x.born < since) ∧ since ≤ c0 ∧ since ≤ clock ∧
   (leftOf es seen).toList.map (fun e => (e.key, e.val)) = left.map (fun p => (Value.int k p.1, f p.2)) ∧
   (∀ p, cur = some p → ∃ e ∈ es.toList, ∃ s0 : Array Nat, seen = s0.push e.born ∧ c0 = clock ∧ e.key = .int k p.1 ∧ e.val = f p.2)) ∧ B ≤ b ∧ B ≤ r ∧ r ≠ b ∧ ∀ g, F g ↔ g = b ∨ g = r
 keep := fun ⟨⟨es, cl, seen, si, c0, h1, h2, h3, h4⟩, g1, g2, g3, g4⟩ hc hF _ => ⟨⟨es, cl, seen, si, c0, by rw [hc.block _ (Array.getElem?_eq_some_iff.1 h1).1 (hF _ ((g4 _).2 (.inl rfl)))]; exact h1, h2, by rw [hc.block _ (Array.getElem?_eq_some_iff.1 h3).1 (hF _ ((g4 _).2 (.inr rfl)))]; exact h3, h4⟩, g1, g2, g3, g4⟩
 dom := fun ⟨⟨es, cl, seen, si, c0, h1, h2, h3, h4⟩, g1, g2, g3, g4⟩ g hg => by
  rcases (g4 g).1 hg with rfl | rfl
  ·exact ⟨g1, (Array.getElem?_eq_some_iff.1 h1).1⟩
  ·exact ⟨g2, (Array.getElem?_eq_some_iff.1 h3).1⟩
section
variable {α : Type} {P : Program} {T : Orc} {ops : Array Oper} {Q : Exit → Act → World → Prop} {Df : List Deferred} {N : Nat} {a : Act} {w w0 : World} {L : Env} {R : List Asn} {k : IntKind} {f : α → Value} {b r : Nat} {m left : List (Int × α)} {cur : Option (Int × α)}
theorem wl_range (hT : T.Ok P) {o : Oper} {rest : List Oper} {t kt et : TypeId} {x : Operand} {d : Nat} (fr : FrD Df N a L) (hw : wantL ops L o = some true) (hd : o.dst = some d) (hlt : Nat.blt d N = true) (ho : o.op = .range t x) (hx : ev L x = some (.map (some b))) (ht : T.ty.lookup t = some (.map kt et)) (S : Sat w0 w (mapA k f b m :: R))
  (h : ∀ w' r, Sat w0 w' (iterA k f b r m m none :: R) → ∀ a', FrD Df N a' ((d, .pointer (some ⟨r, 0, none⟩)) :: L) → wpList P ops Q rest a' w') : wpList P ops Q (o :: rest) a w := by
 obtain ⟨F, ⟨⟨es, cl, h1, h2⟩, h3, h4⟩, hF, hk⟩ := S.opened
 have hlb := (Array.getElem?_eq_some_iff.1 h1).1
 refine wl_val (v := .pointer (some ⟨w.heap.size, 0, none⟩)) (w' := w.alloc (.mapIter (some b) cl #[] cl)) fr hw hd hlt ?_ rfl (h _ _ ?_)
 ·unfold execOp
  simp only [ho, (fr.ev hx).1]
  rw [Sem.run_bind, run_range_map w t kt et b es cl (hT.und ht) h1]
  rfl
 ·refine hk (A' := iterA k f b w.heap.size m m none) (F' := fun g => g = b ∨ g = w.heap.size) (G := fun _ => False) ⟨⟨es, cl, #[], cl, cl, ?_, h2, heap_alloc_new _ _, h2.born.2, Nat.le_refl _, Nat.le_refl _, ?_, fun p hp => by cases hp⟩, h3, ?_, by omega, fun g => Iff.rfl⟩ (Chg.alloc w _) (fun _ _ h => h.elim) fun g hg => ?_
  ·rw [Below.heap_alloc w _ b hlb]; exact h1
  ·have : (leftOf es #[]).toList = es.toList := by simp [leftOf]
   rw [this]; exact h2.ents
  ·have := (hF b ((h4 b).2 rfl)).1; omega
  ·rcases hg with rfl | rfl
   ·exact .inl ((h4 _).2 rfl)
   ·exact .inr (Nat.le_refl _)
theorem filter_ne : ∀ {l : List MapEntry} {e : MapEntry}, (l.map (·.born)).Nodup → e ∈ l → ∃ l1 l2, l = l1 ++ e :: l2 ∧ l.filter (fun x => !(x.born == e.born)) = l1 ++ l2 := by
 intro l
 induction l with
 | nil => intro e _ he; cases he
 | cons y l ih =>
  intro e hn he
  rw [List.map_cons, List.nodup_cons] at hn
  by_cases hy : y.born = e.born
  ·have : e = y := by
    rcases List.mem_cons.1 he with h | h
    ·exact h
    ·exact absurd (List.mem_map.2 ⟨e, h, hy.symm⟩) hn.1
   subst this
   refine ⟨[], l, rfl, ?_⟩
   rw [List.filter_cons]
   simp only [beq_self_eq_true, Bool.not_true, Bool.false_eq_true, if_false, List.nil_append]
   rw [List.filter_eq_self]
   intro z hz
   have : z.born ≠ e.born := fun q => hn.1 (List.mem_map.2 ⟨z, hz, q⟩)
   simp [this]
  ·have hm : e ∈ l := by
    rcases List.mem_cons.1 he with h | h
    ·subst h; exact absurd rfl hy
    ·exact h
   obtain ⟨l1, l2, h1, h2⟩ := ih hn.2 hm
   refine ⟨y :: l1, l2, by rw [h1]; rfl, ?_⟩
   rw [List.filter_cons]
   simp only [show (y.born == e.born) = false from by simpa using hy, Bool.not_false, if_true, h2]
   rfl
theorem wl_next (hf : ∀ z, vokC (f z) = vok (f z)) {o : Oper} {rest : List Oper} {x : Operand} {d : Nat} (fr : FrD Df N a L) (hw : wantL ops L o = some true) (hd : o.dst = some d) (hlt : Nat.blt d N = true) (ho : o.op = .next x false) (hx : ev L x = some (.pointer (some ⟨r, 0, none⟩))) (S : Sat w0 w (iterA k f b r m left cur :: R))
  (h0 : left = [] → ∀ a', FrD Df N a' ((d, .tuple #[.bool false]) :: L) → wpList P ops Q rest a' w)
  (h1 : ∀ w' p l1 l2, left = l1 ++ p :: l2 → Sat w0 w' (iterA k f b r m (l1 ++ l2) (some p) :: R) → ∀ a', FrD Df N a' ((d, .tuple #[.bool true, .int k p.1, f p.2]) :: L) → wpList P ops Q rest a' w') : wpList P ops Q (o :: rest) a w := by
 obtain ⟨F, ⟨⟨es, cl, seen, si, c0, e1, e2, e3, e4, e5, e6, e7, e8⟩, g1, g2, g3, g4⟩, hF, hk⟩ := S.opened
 rcases run_next_at (P := P) w o.type r b si c0 seen es cl e3 e1 e4 e5 with ⟨h2, h3⟩ | ⟨e, he, w1, hal, h3⟩
 ·refine wl_val (v := .tuple #[.bool false]) (w' := w) fr hw hd hlt ?_ rfl (h0 ?_)
  ·unfold execOp
   simp only [ho, (fr.ev hx).1]
   rw [Sem.run_bind, h3]; rfl
  ·have := congrArg List.length e7
   rw [List.length_map, List.length_map, Array.length_toList, h2] at this
   exact List.eq_nil_of_length_eq_zero this.symm
 ·have hem : e ∈ es.toList := by
   have := he
   unfold leftOf at this
   simp at this
   simpa using this.1
  have hn : ((leftOf es seen).toList.map (·.born)).Nodup := by
   unfold leftOf
   rw [Array.toList_filter]
   exact e2.born.1.sublist ((List.filter_sublist).map _)
  obtain ⟨l1, l2, q1, q2⟩ := filter_ne hn he
  rw [q1, List.map_append, List.map_cons] at e7
  obtain ⟨m1, m2, rfl, q3, q4⟩ := List.map_eq_append_iff.1 e7.symm
  obtain ⟨p, m3, rfl, q5, q6⟩ := List.map_eq_cons_iff.1 q4
  injection q5 with q7 q8
  have hv : vok (.tuple #[.bool true, .int k p.1, f p.2]) = true := by
   have : (Value.int k p.1, f p.2) ∈ m.map (fun p => (Value.int k p.1, f p.2)) := by
    rw [← e2.ents, q7, q8]; exact List.mem_map.2 ⟨e, hem, rfl⟩
   obtain ⟨p', hp', q9⟩ := List.mem_map.1 this
   injection q9 with q10 q11
   have hw' := e2.wf p' hp'
   rw [q11] at hw'
   injection q10 with _ q12
   rw [q12] at hw'
   show [Value.bool true, .int k p.1, f p.2].all vokC = true
   simp only [List.all_cons, List.all_nil, hf, hw'.2, Bool.and_true]
   exact hw'.1
  refine wl_val (v := .tuple #[.bool true, .int k p.1, f p.2]) (w' := setBlock w1 r (.mapIter (some b) si (seen.push e.born) cl)) fr hw hd hlt ?_ hv (h1 _ p m1 m3 rfl ?_)
  ·unfold execOp
   simp only [ho, (fr.ev hx).1]
   rw [Sem.run_bind, h3, q7, q8]; rfl
  ·have hr1 : r < w1.heap.size := by rcases hal with rfl | rfl <;> exact (Array.getElem?_eq_some_iff.1 e3).1
   have hb1 : w1.heap[b]? = some (.map es cl) := by rcases hal with rfl | rfl <;> exact e1
   refine hk (A' := iterA k f b r m (m1 ++ m3) (some p)) (F' := F) (G := fun g => g = r) ⟨⟨es, cl, seen.push e.born, si, cl, ?_, e2, ?_, e4, e6, e6, ?_, fun p' hp' => ?_⟩, g1, g2, g3, g4⟩ ?_ (fun g _ hg => (g4 g).2 (.inr hg)) fun g hg => .inl hg
   ·simp only [setBlock]; rw [Array.getElem?_setIfInBounds_ne g3]; exact hb1
   ·simp [setBlock, hr1]
   ·have : (leftOf es (seen.push e.born)).toList = (leftOf es seen).toList.filter (fun x => !(x.born == e.born)) := by
     unfold leftOf
     rw [Array.toList_filter, Array.toList_filter, List.filter_filter]
     congr 1
     funext x
     rw [contains_push]
     cases seen.contains x.born <;> cases (x.born == e.born) <;> rfl
    rw [this, q2, List.map_append, List.map_append, q3, q6]
   ·injection hp' with hp'; subst hp'
    exact ⟨e, hem, seen, rfl, rfl, q7.symm, q8.symm⟩
   ·rcases hal with rfl | rfl
    ·exact ⟨rfl, rfl, rfl, by simp [setBlock], fun g _ hg => by simp only [setBlock]; rw [Array.getElem?_setIfInBounds_ne (fun q => hg q.symm)]⟩
    ·exact ⟨rfl, rfl, rfl, by show _ ≤ (w.heap.setIfInBounds _ _).size; simp, fun g _ hg => by show (w.heap.setIfInBounds _ _)[g]? = _; rw [Array.getElem?_setIfInBounds_ne (fun q => hg q.symm)]⟩
theorem wl_entry (hf : ∀ z, vokC (f z) = vok (f z)) {o : Oper} {rest : List Oper} {x : Operand} {d : Nat} {p : Int × α} (fr : FrD Df N a L) (hw : wantL ops L o = some true) (hd : o.dst = some d) (hlt : Nat.blt d N = true) (ho : o.op = .entry x) (hx : ev L x = some (.pointer (some ⟨r, 0, none⟩))) (S : Sat w0 w (iterA k f b r m left (some p) :: R))
  (h : ∀ a', FrD Df N a' ((d, .tuple #[.int k p.1, f p.2]) :: L) → wpList P ops Q rest a' w) : wpList P ops Q (o :: rest) a w := by
 obtain ⟨F, ⟨⟨es, cl, seen, si, c0, e1, e2, e3, e4, e5, e6, e7, e8⟩, g1, g2, g3, g4⟩, hF, hk⟩ := S.opened
 obtain ⟨e, he, s0, rfl, rfl, q1, q2⟩ := e8 p rfl
 refine wl_val (v := .tuple #[.int k p.1, f p.2]) (w' := w) fr hw hd hlt ?_ ?_ h
 ·unfold execOp
  simp only [ho, (fr.ev hx).1]
  rw [Sem.run_bind, run_entry_at w r b si s0 es c0 e e3 e1 he e2.born.1, q1, q2]; rfl
 ·have : (Value.int k p.1, f p.2) ∈ m.map (fun p => (Value.int k p.1, f p.2)) := by
   rw [← e2.ents]; exact List.mem_map.2 ⟨e, he, by rw [q1, q2]⟩
  obtain ⟨p', hp', q9⟩ := List.mem_map.1 this
  injection q9 with q10 q11
  have hw' := e2.wf p' hp'
  rw [q11] at hw'
  injection q10 with _ q12
  rw [q12] at hw'
  show [.int k p.1, f p.2].all vokC = true
  simp only [List.all_cons, List.all_nil, hf, hw'.2, Bool.and_true]
  exact hw'.1
theorem wl_callv {o : Oper} {rest : List Oper} {d : Nat} {g : FuncId} {x : Operand} {xs : List Value} {c : Call} {E : Ending → World → Prop} (fr : FrD Df N a L) (hw : wantL ops L o = some true) (hd : o.dst = some d) (hlt : Nat.blt d N = true) (ho : o.op = .call c) (hc : c.callee = .value x) (hx : ev L x = some (.func (.func g) #[] #[])) (hxs : evs L c.args.toList = some xs) (hin : Enters P g) (hcon : Calls P g xs.toArray w E)
  (h : ∀ e w', E e w' → ∃ v, e = .returned v ∧ vok v = true ∧ ∀ a', FrD Df N a' ((d, v) :: L) → wpList P ops Q rest a' w') : wpList P ops Q (o :: rest) a w := by
 have e : c.args.map a.eval = xs.toArray := by
  apply Array.toList_inj.1
  rw [Array.toList_map, (evs_run fr hxs).1]
 have hrun : (execOp a.eval o).run P w = .ok (.enter g xs.toArray) w := by
  unfold execOp
  simp only [ho, resolve, hc, (fr.ev hx).1, Deferred.ofValue]
  rw [Sem.run_bind, Sem.run_pure, Result.andThen_ok]
  simp only [invoke]
  have e3 := hin xs.toArray w
  rw [← e] at e3 ⊢
  simpa using e3
 refine wl_op fr hw fun K hK => wp_call hrun (hcon.mono fun e' w' hR => ?_)
 obtain ⟨v, he, hv, hk⟩ := h e' w' hR
 exact ⟨v, he, hK _ _ (by rw [hd]; exact hk _ (fr.put (blt_lt hlt) hv))⟩
theorem Sat.iterEnd (S : Sat w0 w (iterA k f b r m left cur :: R)) : Sat w0 w (mapA k f b m :: R) := by
 obtain ⟨F, ⟨⟨es, cl, seen, si, c0, e1, e2, e3, e4⟩, g1, g2, g3, g4⟩, hF, hk⟩ := S.opened
 exact hk (A' := mapA k f b m) (F' := fun g => g = b) (G := fun _ => False) ⟨⟨es, cl, e1, e2⟩, g1, fun g => Iff.rfl⟩ (Chg.refl _ _) (fun _ _ h => h.elim) fun g hg => .inl ((g4 g).2 (.inl hg))
end
end Go.Proofs.YticnjkdaccacaaaGreat.Sx
end
