/- A range over a map whose keys are whole numbers, which stays as it is meanwhile. -/
import Derived.Test.YticnjkdaccacaaaDoorSv
import Derived.Maps.RangeWalk
namespace Go.Proofs.YticnjkdaccacaaaDoor.Sx
open Go Go.RowKit Base Own Go.ChangeMaps

/-- A map and an iterator over it: `left` are still to come, `cur` was the last one. -/
def iterA {α : Type} (k : IntKind) (f : α → Value) (b r : Nat) (m left : List (Int × α)) (cur : Option (Int × α)) : Asn where
  holds := fun w B F => (∃ es clock seen since c0, w.heap[b]? = some (.map es clock) ∧ Tells k f es clock m ∧ w.heap[r]? = some (.mapIter (some b) since seen c0) ∧ (∀ x ∈ es.toList, x.born < since) ∧ since ≤ c0 ∧ since ≤ clock ∧
      (leftOf es seen).toList.map (fun e => (e.key, e.val)) = left.map (fun p => (Value.int k p.1, f p.2)) ∧
      (∀ p, cur = some p → ∃ e ∈ es.toList, ∃ s0 : Array Nat, seen = s0.push e.born ∧ c0 = clock ∧ e.key = .int k p.1 ∧ e.val = f p.2)) ∧ B ≤ b ∧ B ≤ r ∧ r ≠ b ∧ ∀ g, F g ↔ g = b ∨ g = r
  keep := fun ⟨⟨es, cl, seen, si, c0, h1, h2, h3, h4⟩, g1, g2, g3, g4⟩ hc hF _ => ⟨⟨es, cl, seen, si, c0, by rw [hc.block _ (Array.getElem?_eq_some_iff.1 h1).1 (hF _ ((g4 _).2 (.inl rfl)))]; exact h1, h2, by rw [hc.block _ (Array.getElem?_eq_some_iff.1 h3).1 (hF _ ((g4 _).2 (.inr rfl)))]; exact h3, h4⟩, g1, g2, g3, g4⟩
  dom := fun ⟨⟨es, cl, seen, si, c0, h1, h2, h3, h4⟩, g1, g2, g3, g4⟩ g hg => by
    rcases (g4 g).1 hg with rfl | rfl
    · exact ⟨g1, (Array.getElem?_eq_some_iff.1 h1).1⟩
    · exact ⟨g2, (Array.getElem?_eq_some_iff.1 h3).1⟩
section
variable {α : Type} {P : Program} {T : Orc} {ops : Array Oper} {Q : Exit → Act → World → Prop} {Df : List Deferred} {N : Nat} {a : Act} {w w0 : World} {L : Env} {R : List Asn} {k : IntKind} {f : α → Value} {b r : Nat} {m left : List (Int × α)} {cur : Option (Int × α)}
theorem wl_range (hT : T.Ok P) {o : Oper} {rest : List Oper} {t kt et : TypeId} {x : Operand} {d : Nat} (fr : FrD Df N a L) (hw : wantL ops L o = some true) (hd : o.dst = some d) (hlt : Nat.blt d N = true) (ho : o.op = .range t x) (hx : ev L x = some (.map (some b))) (ht : T.ty.lookup t = some (.map kt et)) (S : Sat w0 w (mapA k f b m :: R))
    (h : ∀ w' r, Sat w0 w' (iterA k f b r m m none :: R) → ∀ a', FrD Df N a' ((d, .pointer (some ⟨r, 0, none⟩)) :: L) → wpList P ops Q rest a' w') : wpList P ops Q (o :: rest) a w := by
  obtain ⟨F, ⟨⟨es, cl, h1, h2⟩, h3, h4⟩, hF, hk⟩ := S.opened
  have hlb := (Array.getElem?_eq_some_iff.1 h1).1
  refine wl_val (v := .pointer (some ⟨w.heap.size, 0, none⟩)) (w' := w.alloc (.mapIter (some b) cl #[] cl)) fr hw hd hlt ?_ rfl (h _ _ ?_)
  · unfold execOp
    simp only [ho, (fr.ev hx).1]
    rw [Sem.run_bind, run_range_map w t kt et b es cl (hT.und ht) h1]
    rfl
  · refine hk (A' := iterA k f b w.heap.size m m none) (F' := fun g => g = b ∨ g = w.heap.size) (G := fun _ => False) ⟨⟨es, cl, #[], cl, cl, ?_, h2, heap_alloc_new _ _, h2.born.2, Nat.le_refl _, Nat.le_refl _, ?_, fun p hp => by cases hp⟩, h3, ?_, by omega, fun g => Iff.rfl⟩ (Chg.alloc w _) (fun _ _ h => h.elim) fun g hg => ?_
    · rw [Below.heap_alloc w _ b hlb]; exact h1
    · have : (leftOf es #[]).toList = es.toList := by simp [leftOf]
      rw [this]; exact h2.ents
    · have := (hF b ((h4 b).2 rfl)).1; omega
    · rcases hg with rfl | rfl
      · exact .inl ((h4 _).2 rfl)
      · exact .inr (Nat.le_refl _)
theorem filter_ne : ∀ {l : List MapEntry} {e : MapEntry}, (l.map (·.born)).Nodup → e ∈ l → ∃ l1 l2, l = l1 ++ e :: l2 ∧ l.filter (fun x => !(x.born == e.born)) = l1 ++ l2 := by
  intro l
  induction l with
  | nil => intro e _ he; cases he
  | cons y l ih =>
    intro e hn he
    rw [List.map_cons, List.nodup_cons] at hn
    by_cases hy : y.born = e.born
    · have : e = y := by
        rcases List.mem_cons.1 he with h | h
        · exact h
        · exact absurd (List.mem_map.2 ⟨e, h, hy.symm⟩) hn.1
      subst this
      refine ⟨[], l, rfl, ?_⟩
      rw [List.filter_cons]
      simp only [beq_self_eq_true, Bool.not_true, Bool.false_eq_true, if_false, List.nil_append]
      rw [List.filter_eq_self]
      intro z hz
      have : z.born ≠ e.born := fun q => hn.1 (List.mem_map.2 ⟨z, hz, q⟩)
      simp [this]
    · have hm : e ∈ l := by
        rcases List.mem_cons.1 he with h | h
        · subst h; exact absurd rfl hy
        · exact h
      obtain ⟨l1, l2, h1, h2⟩ := ih hn.2 hm
      refine ⟨y :: l1, l2, by rw [h1]; rfl, ?_⟩
      rw [List.filter_cons]
      simp only [show (y.born == e.born) = false from by simpa using hy, Bool.not_false, if_true, h2]
      rfl
theorem wl_next (hf : ∀ z, vokC (f z) = vok (f z)) {o : Oper} {rest : List Oper} {x : Operand} {d : Nat} (fr : FrD Df N a L) (hw : wantL ops L o = some true) (hd : o.dst = some d) (hlt : Nat.blt d N = true) (ho : o.op = .next x false) (hx : ev L x = some (.pointer (some ⟨r, 0, none⟩))) (S : Sat w0 w (iterA k f b r m left cur :: R))
    (h0 : left = [] → ∀ a', FrD Df N a' ((d, .tuple #[.bool false]) :: L) → wpList P ops Q rest a' w)
    (h1 : ∀ w' p l1 l2, left = l1 ++ p :: l2 → Sat w0 w' (iterA k f b r m (l1 ++ l2) (some p) :: R) → ∀ a', FrD Df N a' ((d, .tuple #[.bool true, .int k p.1, f p.2]) :: L) → wpList P ops Q rest a' w') : wpList P ops Q (o :: rest) a w := by
  obtain ⟨F, ⟨⟨es, cl, seen, si, c0, e1, e2, e3, e4, e5, e6, e7, e8⟩, g1, g2, g3, g4⟩, hF, hk⟩ := S.opened
  rcases run_next_at (P := P) w o.type r b si c0 seen es cl e3 e1 e4 e5 with ⟨h2, h3⟩ | ⟨e, he, w1, hal, h3⟩
  · refine wl_val (v := .tuple #[.bool false]) (w' := w) fr hw hd hlt ?_ rfl (h0 ?_)
    · unfold execOp
      simp only [ho, (fr.ev hx).1]
      rw [Sem.run_bind, h3]; rfl
    · have := congrArg List.length e7
      rw [List.length_map, List.length_map, Array.length_toList, h2] at this
      exact List.eq_nil_of_length_eq_zero this.symm
  · have hem : e ∈ es.toList := by
      have := he
      unfold leftOf at this
      simp at this
      simpa using this.1
    have hn : ((leftOf es seen).toList.map (·.born)).Nodup := by
      unfold leftOf
      rw [Array.toList_filter]
      exact e2.born.1.sublist ((List.filter_sublist).map _)
    obtain ⟨l1, l2, q1, q2⟩ := filter_ne hn he
    rw [q1, List.map_append, List.map_cons] at e7
    obtain ⟨m1, m2, rfl, q3, q4⟩ := List.map_eq_append_iff.1 e7.symm
    obtain ⟨p, m3, rfl, q5, q6⟩ := List.map_eq_cons_iff.1 q4
    injection q5 with q7 q8
    have hv : vok (.tuple #[.bool true, .int k p.1, f p.2]) = true := by
      have : (Value.int k p.1, f p.2) ∈ m.map (fun p => (Value.int k p.1, f p.2)) := by
        rw [← e2.ents, q7, q8]; exact List.mem_map.2 ⟨e, hem, rfl⟩
      obtain ⟨p', hp', q9⟩ := List.mem_map.1 this
      injection q9 with q10 q11
      have hw' := e2.wf p' hp'
      rw [q11] at hw'
      injection q10 with _ q12
      rw [q12] at hw'
      show [Value.bool true, .int k p.1, f p.2].all vokC = true
      simp only [List.all_cons, List.all_nil, hf, hw'.2, Bool.and_true]
      exact hw'.1
    refine wl_val (v := .tuple #[.bool true, .int k p.1, f p.2]) (w' := setBlock w1 r (.mapIter (some b) si (seen.push e.born) cl)) fr hw hd hlt ?_ hv (h1 _ p m1 m3 rfl ?_)
    · unfold execOp
      simp only [ho, (fr.ev hx).1]
      rw [Sem.run_bind, h3, q7, q8]; rfl
    · have hr1 : r < w1.heap.size := by rcases hal with rfl | rfl <;> exact (Array.getElem?_eq_some_iff.1 e3).1
      have hb1 : w1.heap[b]? = some (.map es cl) := by rcases hal with rfl | rfl <;> exact e1
      refine hk (A' := iterA k f b r m (m1 ++ m3) (some p)) (F' := F) (G := fun g => g = r) ⟨⟨es, cl, seen.push e.born, si, cl, ?_, e2, ?_, e4, e6, e6, ?_, fun p' hp' => ?_⟩, g1, g2, g3, g4⟩ ?_ (fun g _ hg => (g4 g).2 (.inr hg)) fun g hg => .inl hg
      · simp only [setBlock]; rw [Array.getElem?_setIfInBounds_ne g3]; exact hb1
      · simp [setBlock, hr1]
      · have : (leftOf es (seen.push e.born)).toList = (leftOf es seen).toList.filter (fun x => !(x.born == e.born)) := by
          unfold leftOf
          rw [Array.toList_filter, Array.toList_filter, List.filter_filter]
          congr 1
          funext x
          rw [contains_push]
          cases seen.contains x.born <;> cases (x.born == e.born) <;> rfl
        rw [this, q2, List.map_append, List.map_append, q3, q6]
      · injection hp' with hp'; subst hp'
        exact ⟨e, hem, seen, rfl, rfl, q7.symm, q8.symm⟩
      · rcases hal with rfl | rfl
        · exact ⟨rfl, rfl, rfl, by simp [setBlock], fun g _ hg => by simp only [setBlock]; rw [Array.getElem?_setIfInBounds_ne (fun q => hg q.symm)]⟩
        · exact ⟨rfl, rfl, rfl, by show _ ≤ (w.heap.setIfInBounds _ _).size; simp, fun g _ hg => by show (w.heap.setIfInBounds _ _)[g]? = _; rw [Array.getElem?_setIfInBounds_ne (fun q => hg q.symm)]⟩
theorem wl_entry (hf : ∀ z, vokC (f z) = vok (f z)) {o : Oper} {rest : List Oper} {x : Operand} {d : Nat} {p : Int × α} (fr : FrD Df N a L) (hw : wantL ops L o = some true) (hd : o.dst = some d) (hlt : Nat.blt d N = true) (ho : o.op = .entry x) (hx : ev L x = some (.pointer (some ⟨r, 0, none⟩))) (S : Sat w0 w (iterA k f b r m left (some p) :: R))
    (h : ∀ a', FrD Df N a' ((d, .tuple #[.int k p.1, f p.2]) :: L) → wpList P ops Q rest a' w) : wpList P ops Q (o :: rest) a w := by
  obtain ⟨F, ⟨⟨es, cl, seen, si, c0, e1, e2, e3, e4, e5, e6, e7, e8⟩, g1, g2, g3, g4⟩, hF, hk⟩ := S.opened
  obtain ⟨e, he, s0, rfl, rfl, q1, q2⟩ := e8 p rfl
  refine wl_val (v := .tuple #[.int k p.1, f p.2]) (w' := w) fr hw hd hlt ?_ ?_ h
  · unfold execOp
    simp only [ho, (fr.ev hx).1]
    rw [Sem.run_bind, run_entry_at w r b si s0 es c0 e e3 e1 he e2.born.1, q1, q2]; rfl
  · have : (Value.int k p.1, f p.2) ∈ m.map (fun p => (Value.int k p.1, f p.2)) := by
      rw [← e2.ents]; exact List.mem_map.2 ⟨e, he, by rw [q1, q2]⟩
    obtain ⟨p', hp', q9⟩ := List.mem_map.1 this
    injection q9 with q10 q11
    have hw' := e2.wf p' hp'
    rw [q11] at hw'
    injection q10 with _ q12
    rw [q12] at hw'
    show [.int k p.1, f p.2].all vokC = true
    simp only [List.all_cons, List.all_nil, hf, hw'.2, Bool.and_true]
    exact hw'.1
/-- A call through a function value that has caught nothing. -/
theorem wl_callv {o : Oper} {rest : List Oper} {d : Nat} {g : FuncId} {x : Operand} {xs : List Value} {c : Call} {E : Ending → World → Prop} (fr : FrD Df N a L) (hw : wantL ops L o = some true) (hd : o.dst = some d) (hlt : Nat.blt d N = true) (ho : o.op = .call c) (hc : c.callee = .value x) (hx : ev L x = some (.func (.func g) #[] #[])) (hxs : evs L c.args.toList = some xs) (hin : Enters P g) (hcon : Calls P g xs.toArray w E)
    (h : ∀ e w', E e w' → ∃ v, e = .returned v ∧ vok v = true ∧ ∀ a', FrD Df N a' ((d, v) :: L) → wpList P ops Q rest a' w') : wpList P ops Q (o :: rest) a w := by
  have e : c.args.map a.eval = xs.toArray := by
    apply Array.toList_inj.1
    rw [Array.toList_map, (evs_run fr hxs).1]
  have hrun : (execOp a.eval o).run P w = .ok (.enter g xs.toArray) w := by
    unfold execOp
    simp only [ho, resolve, hc, (fr.ev hx).1, Deferred.ofValue]
    rw [Sem.run_bind, Sem.run_pure, Result.andThen_ok]
    simp only [invoke]
    have e3 := hin xs.toArray w
    rw [← e] at e3 ⊢
    simpa using e3
  refine wl_op fr hw fun K hK => wp_call hrun (hcon.mono fun e' w' hR => ?_)
  obtain ⟨v, he, hv, hk⟩ := h e' w' hR
  exact ⟨v, he, hK _ _ (by rw [hd]; exact hk _ (fr.put (blt_lt hlt) hv))⟩
/-- The range is over. -/
theorem Sat.iterEnd (S : Sat w0 w (iterA k f b r m left cur :: R)) : Sat w0 w (mapA k f b m :: R) := by
  obtain ⟨F, ⟨⟨es, cl, seen, si, c0, e1, e2, e3, e4⟩, g1, g2, g3, g4⟩, hF, hk⟩ := S.opened
  exact hk (A' := mapA k f b m) (F' := fun g => g = b) (G := fun _ => False) ⟨⟨es, cl, e1, e2⟩, g1, fun g => Iff.rfl⟩ (Chg.refl _ _) (fun _ _ h => h.elim) fun g hg => .inl ((g4 g).2 (.inl hg))
end
end Go.Proofs.YticnjkdaccacaaaDoor.Sx
