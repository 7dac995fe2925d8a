/- Texts of this work, one behind the other. -/
import Derived.Test.YticnjkdaccacaaaGreatVChiefsGone16
section
namespace Go.Proofs.YticnjkdaccacaaaGreat.Sx
open Go Go.RowKit Base _root_.Go.Proofs.YticnjkdaccacaaaGreat.Own Disk Bytes
theorem short_fsec {r : List Int} (h : r.length ≤ 24) : fsec r = [Frames.put r] ∧ (Frames.put r).length = 64 ∧ (Frames.put r).drop 32 = List.replicate 32 0 := by
  have hn : Frames.nsec r.length = 1 := by unfold Frames.nsec; omega
  have hl : (Frames.put r).length = 64 := by rw [Frames.put_length, hn]
  refine ⟨?_, hl, ?_⟩
  · unfold fsec
    rw [hn, chunks, chunks, List.take_of_length_le (by omega)]
  · obtain ⟨z, h1⟩ : ∃ z, Frames.put r = Frames.head r.length ++ (Frames.head z ++ (r ++ List.replicate (Frames.nsec r.length * 64 - 8 - r.length) 0)) := ⟨_, Frames.put_eq r⟩
    obtain ⟨a, ha⟩ : ∃ a, a = Frames.head r.length := ⟨_, rfl⟩
    obtain ⟨b, hb⟩ : ∃ b, b = Frames.head z := ⟨_, rfl⟩
    have la : a.length = 4 := by rw [ha]; rfl
    have lb : b.length = 4 := by rw [hb]; rfl
    rw [← hb, ← ha] at h1
    rw [h1, List.drop_append, List.drop_append, List.drop_append, List.drop_eq_nil_of_le (by omega), List.drop_eq_nil_of_le (by omega), List.drop_eq_nil_of_le (by omega), List.nil_append, List.nil_append, List.nil_append, List.drop_replicate, hn]
    congr 1
    omega
theorem mixS_short {r : List Int} (h : r.length ≤ 24) (keep torn : Int) (i : Nat) : mixS keep torn i (Frames.put r) (List.replicate 64 0) = if Disk.kept keep i = true then Frames.put r else List.replicate 64 0 := by
  obtain ⟨-, h1, h2⟩ := short_fsec h
  unfold mixS
  split
  · unfold Disk.part
    split
    · rw [show (List.replicate 64 (0 : Int)).drop 32 = List.replicate 32 0 from rfl, ← h2, List.take_append_drop]
    · rw [List.take_of_length_le (by omega), List.drop_eq_nil_of_le (by simp), List.append_nil]
  · rfl
def lead (keep : Int) : Nat → Nat → Nat
  | _, 0 => 0
  | i, k + 1 => if Disk.kept keep i = true then lead keep (i + 1) k + 1 else 0
theorem parse_short {keep torn : Int} : ∀ (B : List (List Int)) (i q k : Nat), (∀ r ∈ B, r.length ≤ 24) → lenS B ≤ q → B.length ≤ k → (parse k (mixes keep torn i (fsecs B) (zs q)).flatten).map (·.1) = B.take (lead keep i B.length) := by
  intro B
  induction B with
  | nil =>
    intro i q k _ _ _
    have : parse k (mixes keep torn i (fsecs []) (zs q)).flatten = [] := by
      show parse k (zs q).flatten = []
      cases k with
      | zero => rfl
      | succ k => rw [zs_flat, parse, get_zeros]
    rw [this]
    rfl
  | cons r B ih =>
    intro i q k hr hq hk
    have hr0 := hr r List.mem_cons_self
    obtain ⟨f1, f2, f3⟩ := short_fsec hr0
    have hn : Frames.nsec r.length = 1 := by unfold Frames.nsec; omega
    have e2 : lenS (r :: B) = Frames.nsec r.length + lenS B := by simp [lenS]
    rw [hn] at e2
    obtain ⟨k, rfl⟩ : ∃ k', k = k' + 1 := ⟨k - 1, by simp only [List.length_cons] at hk; omega⟩
    obtain ⟨q, rfl⟩ : ∃ q', q = q' + 1 := ⟨q - 1, by omega⟩
    have hm : mixes keep torn i (fsecs (r :: B)) (zs (q + 1)) = mixS keep torn i (Frames.put r) (List.replicate 64 0) :: mixes keep torn (i + 1) (fsecs B) (zs q) := by
      rw [show fsecs (r :: B) = fsec r ++ fsecs B by simp [fsecs], f1]
      rfl
    obtain ⟨M, hM⟩ : ∃ M, M = mixes keep torn (i + 1) (fsecs B) (zs q) := ⟨_, rfl⟩
    rw [hm, ← hM, List.flatten_cons, mixS_short hr0, List.length_cons]
    unfold lead
    by_cases hkp : Disk.kept keep i = true
    · rw [if_pos hkp, if_pos hkp, parse, Frames.get_put r _ (by omega)]
      simp only
      rw [hn, show (Frames.put r ++ M.flatten).drop (1 * 64) = M.flatten by rw [show 1 * 64 = (Frames.put r).length by omega, List.drop_left], List.map_cons, hM, ih (i + 1) q k (fun x hx => hr x (List.mem_cons_of_mem _ hx)) (by omega) (by simp only [List.length_cons] at hk; omega), List.take_succ_cons]
    · rw [if_neg hkp, if_neg hkp, parse, get_zero64' (by rw [List.take_append_of_le_length (by simp), List.take_of_length_le (by simp)])]
      rfl
theorem crash_short {D : Dk} {n : Nat} {A B : List (List Int)} (keep torn : Int) (hA : ∀ r ∈ A, r.length ≤ 16384) (hB : ∀ r ∈ B, r.length ≤ 24) (hn : lenS A + lenS B ≤ n) (hs : D.sure = fsecs A ++ zs (n - lenS A)) (hw : D.waits = wl (lenS A) (fsecs B)) :
    (∀ p ∈ (Dk.fail D keep torn).seen, p.length = 64) ∧ (Dk.fail D keep torn).seen.length = n ∧ recsD (Dk.fail D keep torn) = A ++ B.take (lead keep 0 B.length) := by
  obtain ⟨h64, hlen, -, -⟩ := crash keep torn hA (fun r hr => Nat.le_trans (hB r hr) (by decide)) hn hs hw
  refine ⟨h64, hlen, ?_⟩
  have hsl : D.sure.length = n := by rw [hs, List.length_append, fsecs_len, zs, List.length_replicate]; omega
  have hseen : (Dk.fail D keep torn).seen = fsecs A ++ mixes keep torn 0 (fsecs B) (zs (n - lenS A)) := by
    show failK keep torn D.sure D.waits D.waits.length = _
    rw [hw, wl_len, failK_mix D.sure (fsecs B) (lenS A) (by rw [hsl, fsecs_len]; exact hn) _ (Nat.le_refl _), List.take_length, hs, ← fsecs_len, List.take_left, List.drop_left]
  have hfl := flat_len64' _ h64
  have hgeA := lenS_ge A
  have hgeB := lenS_ge B
  obtain ⟨k, hk⟩ : ∃ k, (Dk.fail D keep torn).seen.flatten.length + 1 = A.length + k := ⟨(Dk.fail D keep torn).seen.flatten.length + 1 - A.length, by omega⟩
  have hf : found (Dk.fail D keep torn) = (A.map fun r => (r, Frames.nsec r.length)) ++ parse k (mixes keep torn 0 (fsecs B) (zs (n - lenS A))).flatten := by
    unfold Sx.found
    rw [hk, hseen, List.flatten_append]
    exact parse_pre A _ k hA
  unfold recsD
  rw [hf, List.map_append, List.map_map, parse_short B 0 (n - lenS A) k hB (by omega) (by omega)]
  congr 1
  show A.map (fun r => r) = A
  exact List.map_id' A
end Go.Proofs.YticnjkdaccacaaaGreat.Sx
end
section
namespace Go.Proofs.YticnjkdaccacaaaGreat.Sx
open Go Go.RowKit Base _root_.Go.Proofs.YticnjkdaccacaaaGreat.Own OwnV Disk
section
variable {α : Type} {gs : List (Gl α)}
def Num (gs : List (Gl α)) : Prop := ∀ i (h : i < gs.length), gs[i].g = (i : Int) + 1
theorem Num.idx (h : Num gs) {j : Nat} (hj : j < gs.length) : idxG gs ((j : Int) + 1) = some j := by
  cases hi : idxG gs ((j : Int) + 1) with
  | none => exact absurd (h j hj) (idxG_none hi _ (List.getElem_mem hj))
  | some i =>
    obtain ⟨h1, h2⟩ := idxG_some hi
    have := h i h1
    rw [h2] at this
    have : i = j := by omega
    rw [this]
theorem Num.no (h : Num gs) {g : Int} (hg : g < 1 ∨ (gs.length : Int) < g) : idxG gs g = none := by
  cases hi : idxG gs g with
  | none => rfl
  | some i =>
    obtain ⟨h1, h2⟩ := idxG_some hi
    have := h i h1
    omega
theorem Num.find (h : Num gs) {j : Nat} (hj : j < gs.length) : findG gs ((j : Int) + 1) = some (j, gs[j]) := by
  unfold findG
  rw [h.idx hj, Option.bind_some, List.getElem?_eq_getElem hj]
  rfl
theorem Num.findN (h : Num gs) {g : Int} (hg : g < 1 ∨ (gs.length : Int) < g) : findG gs g = none := by
  unfold findG
  rw [h.no hg]
  rfl
theorem Num.cases (h : Num gs) (g : Int) : ((g < 1 ∨ (gs.length : Int) < g) ∧ findG gs g = none) ∨ ∃ j, ∃ hj : j < gs.length, g = (j : Int) + 1 ∧ findG gs g = some (j, gs[j]) := by
  by_cases hg : g < 1 ∨ (gs.length : Int) < g
  · exact .inl ⟨hg, h.findN hg⟩
  · refine .inr ⟨(g - 1).toNat, by omega, by omega, ?_⟩
    have e : g = (((g - 1).toNat : Nat) : Int) + 1 := by omega
    have h2 := h.find (j := (g - 1).toNat) (by omega)
    rw [← e] at h2
    exact h2
theorem Num.set (h : Num gs) {j : Nat} {G' : Gl α} (hg : ∀ hj : j < gs.length, G'.g = gs[j].g) : Num (gs.set j G') := by
  intro i hi
  rw [List.length_set] at hi
  rw [List.getElem_set]
  split
  · rename_i hij
    subst hij
    rw [hg hi]; exact h j hi
  · exact h i hi
theorem Num.snoc (h : Num gs) {G' : Gl α} (hg : G'.g = (gs.length : Int) + 1) : Num (gs ++ [G']) := by
  intro i hi
  rw [List.length_append, List.length_singleton] at hi
  by_cases hl : i < gs.length
  · rw [List.getElem_append_left hl]; exact h i hl
  · have : i = gs.length := by omega
    subst this
    rw [List.getElem_append_right (Nat.le_refl _)]
    simpa using hg
theorem Num.nil : Num ([] : List (Gl α)) := fun i h => absurd h (Nat.not_lt_zero _)
end
abbrev Rc := Int × Int × List Int
def rcB (r : Rc) : List Int := r.1 :: (fourL r.2.1 ++ r.2.2)
def cmG {α : Type} (G : Gl α) (ss : List Int) : Gl α := { G with ph := 3, com := true, kn := true, v := beginV ss G.v }
def endG {α : Type} (G : Gl α) : Gl α := { G with ph := 4 }
def ov0 (g : Int) : Gl RsT := ⟨g, 4, false, false, false, [hz0, hz0, hz0, hz0]⟩
def lrnG (r : Rc) (G : Gl RsT) : Gl RsT := if r.1 = 99 then cmG G r.2.2 else endG G
def lrn1 (gs : List (Gl RsT)) (r : Rc) : List (Gl RsT) :=
  if r.1 = 98 then gs ++ [ov0 r.2.1] else match findG gs r.2.1 with | none => gs | some p => gs.set p.1 (lrnG r p.2)
def lrn (A : List Rc) : List (Gl RsT) := A.foldl lrn1 []
def lastR (l : Int) (r : Rc) : Int := if r.1 = 98 then max l r.2.1 else l
def lastL (A : List Rc) : Int := A.foldl lastR 0
def Ok1 (gs : List (Gl RsT)) (r : Rc) : Prop :=
  (1 ≤ r.2.1 ∧ r.2.1 ≤ 4294967295) ∧ ((r.1 = 98 ∧ r.2.2 = [] ∧ ∀ G ∈ gs, G.g ≠ r.2.1) ∨ ∃ j G, findG gs r.2.1 = some (j, G) ∧ ((r.1 = 101 ∧ r.2.2 = []) ∨ (r.1 = 99 ∧ r.2.2 ∈ seven ∧ G.v = [hz0, hz0, hz0, hz0])))
def OkL (A : List Rc) : Prop := ∀ i (h : i < A.length), Ok1 (lrn (A.take i)) A[i]
theorem lrn_snoc (A : List Rc) (r : Rc) : lrn (A ++ [r]) = lrn1 (lrn A) r := by
  unfold lrn
  rw [List.foldl_append]
  rfl
theorem lastL_snoc (A : List Rc) (r : Rc) : lastL (A ++ [r]) = lastR (lastL A) r := by
  unfold lastL
  rw [List.foldl_append]
  rfl
theorem OkL.snoc {A : List Rc} (h : OkL A) {r : Rc} (hr : Ok1 (lrn A) r) : OkL (A ++ [r]) := by
  intro i hi
  rw [List.length_append, List.length_singleton] at hi
  by_cases hl : i < A.length
  · rw [List.getElem_append_left hl, List.take_append_of_le_length (Nat.le_of_lt hl)]; exact h i hl
  · have : i = A.length := by omega
    subst this
    rw [List.getElem_append_right (Nat.le_refl _), List.take_append_of_le_length (Nat.le_refl _), List.take_length]
    simpa using hr
theorem OkL.nil : OkL [] := fun i h => absurd h (Nat.not_lt_zero _)
theorem seven_len {L : List Int} (h : L ∈ seven) : 1 ≤ L.length ∧ L.length ≤ 3 := by
  simp only [seven, List.mem_cons, List.not_mem_nil, or_false] at h
  rcases h with rfl | rfl | rfl | rfl | rfl | rfl | rfl <;> decide
structure LrI (G : Gl RsT) : Prop where
  c : G.com = true → G.kn = true ∧ (G.ph = 3 ∨ G.ph = 4) ∧ G.told = false ∧ ∃ ss, ss ∈ seven ∧ G.v = beginV ss [hz0, hz0, hz0, hz0]
  o : G.com = false → G = ov0 G.g
structure RelG (GA G : Gl RsT) : Prop where
  g : GA.g = G.g
  com : GA.com = G.com
  pt : G.com = true → GA.v.map (·.part) = G.v.map (·.part)
structure Good (A : List Rc) (gs : List (Gl RsT)) : Prop where
  ok : OkL A
  len : (lrn A).length = gs.length
  rel : ∀ i (h1 : i < (lrn A).length) (h2 : i < gs.length), RelG (lrn A)[i] gs[i]
  lr : ∀ i (h : i < (lrn A).length), LrI (lrn A)[i]
  num : Num gs
  few : gs.length < 4294967295
  last : lastL A = gs.length
section
variable {A : List Rc} {gs : List (Gl RsT)}
theorem Good.numA (h : Good A gs) : Num (lrn A) := fun i hi => by
  have h2 : i < gs.length := by rw [← h.len]; exact hi
  rw [(h.rel i hi h2).g]
  exact h.num i h2
theorem Good.start : Good [] [] := ⟨OkL.nil, rfl, fun _ h => absurd h (Nat.not_lt_zero _), fun _ h => absurd h (Nat.not_lt_zero _), Num.nil, by decide, rfl⟩
theorem Good.end_ (h : Good A gs) {j : Nat} (hj : j < gs.length) (hc : gs[j].com = true) : Good (A ++ [(101, (j : Int) + 1, [])]) gs := by
  have hjA : j < (lrn A).length := by rw [h.len]; exact hj
  have hf := h.numA.find hjA
  have e : lrn (A ++ [(101, (j : Int) + 1, [])]) = (lrn A).set j (endG (lrn A)[j]) := by
    rw [lrn_snoc]
    unfold lrn1
    rw [if_neg (show ¬ (101 : Int) = 98 by decide)]
    simp only [hf]
    rfl
  have hr := h.rel j hjA hj
  have hl := h.lr j hjA
  have hf2 := h.few
  refine ⟨h.ok.snoc ⟨⟨by show (1 : Int) ≤ (j : Int) + 1; omega, by show (j : Int) + 1 ≤ 4294967295; omega⟩, .inr ⟨j, _, hf, .inl ⟨rfl, rfl⟩⟩⟩, by rw [e, List.length_set]; exact h.len, ?_, ?_, h.num, h.few, by rw [lastL_snoc]; exact h.last⟩
  · intro i h1 h2
    simp only [e, List.getElem_set]
    split
    · rename_i hij
      subst hij
      exact ⟨hr.g, hr.com, hr.pt⟩
    · exact h.rel i (by rw [h.len]; exact h2) h2
  · intro i h1
    simp only [e, List.getElem_set]
    split
    · have hcA : (lrn A)[j].com = true := by rw [hr.com]; exact hc
      obtain ⟨c1, -, c3, c4⟩ := hl.c hcA
      refine ⟨fun _ => ⟨c1, .inr rfl, c3, c4⟩, fun h0 => ?_⟩
      have h0 : (lrn A)[j].com = false := h0
      rw [hcA] at h0
      cases h0
    · exact h.lr i (by rw [e, List.length_set] at h1; exact h1)
def EndsOf (gs : List (Gl RsT)) (B : List Rc) : Prop := ∀ r ∈ B, ∃ j, ∃ h : j < gs.length, r = (101, (j : Int) + 1, []) ∧ gs[j].com = true
theorem Good.ends (h : Good A gs) : ∀ {B : List Rc}, EndsOf gs B → Good (A ++ B) gs := by
  intro B
  induction B generalizing A with
  | nil => intro _; rw [List.append_nil]; exact h
  | cons r B ih =>
    intro hB
    obtain ⟨j, hj, rfl, hc⟩ := hB _ List.mem_cons_self
    have := ih (h.end_ hj hc) fun r hr => hB r (List.mem_cons_of_mem _ hr)
    rw [List.append_assoc] at this
    exact this
theorem Good.begin_ (h : Good A gs) (hf : gs.length < 4294967294) {G' : Gl RsT} (hg : G'.g = (gs.length : Int) + 1) (hc : G'.com = false) : Good (A ++ [(98, (gs.length : Int) + 1, [])]) (gs ++ [G']) := by
  have e : lrn (A ++ [(98, (gs.length : Int) + 1, [])]) = lrn A ++ [ov0 ((gs.length : Int) + 1)] := by
    rw [lrn_snoc]
    rfl
  have hla := h.len
  refine ⟨h.ok.snoc ⟨⟨by show (1 : Int) ≤ (gs.length : Int) + 1; omega, by show (gs.length : Int) + 1 ≤ 4294967295; omega⟩, .inl ⟨rfl, rfl, fun G hG => ?_⟩⟩, by rw [e, List.length_append, List.length_append, hla]; rfl, ?_, ?_, h.num.snoc hg, by rw [List.length_append, List.length_singleton]; omega, by rw [lastL_snoc, h.last, List.length_append, List.length_singleton]; show max (gs.length : Int) ((gs.length : Int) + 1) = _; omega⟩
  · obtain ⟨i, hi, rfl⟩ := List.mem_iff_getElem.1 hG
    have := h.numA i hi
    show (lrn A)[i].g ≠ (gs.length : Int) + 1
    omega
  · intro i h1 h2
    rw [List.length_append, List.length_singleton] at h2
    simp only [e]
    by_cases hl : i < gs.length
    · rw [List.getElem_append_left (by omega), List.getElem_append_left hl]; exact h.rel i (by omega) hl
    · have : i = gs.length := by omega
      subst this
      rw [List.getElem_append_right (by omega), List.getElem_append_right (Nat.le_refl _)]
      refine ⟨?_, ?_, fun h0 => ?_⟩
      · simp only [List.getElem_singleton]; rw [hg]; rfl
      · simp only [List.getElem_singleton]; rw [hc]; rfl
      · simp only [List.getElem_singleton] at h0; rw [hc] at h0; cases h0
  · intro i h1
    simp only [e]
    by_cases hl : i < (lrn A).length
    · rw [List.getElem_append_left hl]; exact h.lr i hl
    · rw [List.getElem_append_right (by omega)]
      simp only [List.getElem_singleton]
      exact ⟨fun h0 => (by cases h0), fun _ => rfl⟩
theorem Good.set (h : Good A gs) {j : Nat} {G' : Gl RsT} (hg : ∀ hj : j < gs.length, G'.g = gs[j].g ∧ G'.com = gs[j].com ∧ (G'.com = true → G'.v.map (·.part) = gs[j].v.map (·.part))) : Good A (gs.set j G') := by
  refine ⟨h.ok, by rw [List.length_set]; exact h.len, ?_, h.lr, h.num.set fun hj => (hg hj).1, by rw [List.length_set]; exact h.few, by rw [List.length_set]; exact h.last⟩
  intro i h1 h2
  rw [List.length_set] at h2
  have hr := h.rel i h1 h2
  rw [List.getElem_set]
  split
  · rename_i hij
    subst hij
    obtain ⟨e1, e2, e3⟩ := hg h2
    exact ⟨hr.g.trans e1.symm, hr.com.trans e2.symm, fun h0 => (hr.pt (e2.symm.trans h0)).trans (e3 h0).symm⟩
  · exact hr
theorem Good.commit (h : Good A gs) {j : Nat} (hj : j < gs.length) (hc : gs[j].com = false) {ss : List Int} (hs : ss ∈ seven) {G' : Gl RsT} (e1 : G'.g = gs[j].g) (e2 : G'.com = true) (e3 : G'.v.map (·.part) = parts4 ss) : Good (A ++ [(99, (j : Int) + 1, ss)]) (gs.set j G') := by
  have hjA : j < (lrn A).length := by rw [h.len]; exact hj
  have hf := h.numA.find hjA
  have e : lrn (A ++ [(99, (j : Int) + 1, ss)]) = (lrn A).set j (cmG (lrn A)[j] ss) := by
    rw [lrn_snoc]
    unfold lrn1
    rw [if_neg (show ¬ (99 : Int) = 98 by decide)]
    simp only [hf]
    rfl
  have hr := h.rel j hjA hj
  have hl := h.lr j hjA
  have hov := hl.o (hr.com.trans hc)
  have hv : (lrn A)[j].v = [hz0, hz0, hz0, hz0] := by rw [hov]; rfl
  have ht : (lrn A)[j].told = false := by rw [hov]; rfl
  have hf2 := h.few
  refine ⟨h.ok.snoc ⟨⟨by show (1 : Int) ≤ (j : Int) + 1; omega, by show (j : Int) + 1 ≤ 4294967295; omega⟩, .inr ⟨j, _, hf, .inr ⟨rfl, hs, hv⟩⟩⟩, by rw [e, List.length_set, List.length_set]; exact h.len, ?_, ?_, h.num.set fun _ => e1, by rw [List.length_set]; exact h.few, by rw [lastL_snoc, List.length_set]; exact h.last⟩
  · intro i h1 h2
    rw [List.length_set] at h2
    simp only [e, List.getElem_set]
    split
    · refine ⟨hr.g.trans e1.symm, e2.symm, fun _ => ?_⟩
      rw [e3]
      show (beginV ss (lrn A)[j].v).map (·.part) = _
      rw [hv]; rfl
    · exact h.rel i (by rw [h.len]; exact h2) h2
  · intro i h1
    simp only [e, List.getElem_set]
    split
    · exact ⟨fun _ => ⟨rfl, .inl rfl, ht, ss, hs, by show beginV ss (lrn A)[j].v = _; rw [hv]⟩, fun h0 => (by cases h0)⟩
    · exact h.lr i (by rw [e, List.length_set] at h1; exact h1)
theorem Good.self (h : Good A gs) : Good A (lrn A) := ⟨h.ok, rfl, fun i h1 h2 => ⟨rfl, rfl, fun _ => rfl⟩, h.lr, h.numA, by rw [h.len]; exact h.few, by rw [h.len]; exact h.last⟩
end
structure LgS (A B : List Rc) (D : Dk) (x : Int) : Prop where
  lg : Lg D 4096 ((A ++ B).map rcB)
  x : x = ((A ++ B).length : Nat)
  sure : D.sure = fsecs (A.map rcB) ++ zs (4096 - A.length)
  waits : D.waits = wl A.length (fsecs (B.map rcB))
  sz : ∀ r ∈ A ++ B, (rcB r).length ≤ 24
theorem lenS_rc {A : List Rc} (h : ∀ r ∈ A, (rcB r).length ≤ 24) : lenS (A.map rcB) = A.length := by
  induction A with
  | nil => rfl
  | cons r A ih =>
    have h1 := ih fun r hr => h r (List.mem_cons_of_mem _ hr)
    have h2 := h r List.mem_cons_self
    have hn : Frames.nsec (rcB r).length = 1 := by unfold Frames.nsec; omega
    show Frames.nsec (rcB r).length + lenS (A.map rcB) = A.length + 1
    omega
theorem LgS.start : LgS [] [] D0 0 := by
  have h := Lg.start 4096
  obtain ⟨h1, h2, h3⟩ := h.open_
  refine ⟨h1, rfl, ?_, h2, fun r hr => by cases hr⟩
  show (openD (Disk.blank 4096)).sure = _
  rw [h3]
  exact h1.seen
theorem LgS.add {A B : List Rc} {D : Dk} {x : Int} (h : LgS A B D x) {r : Rc} (hr : (rcB r).length ≤ 24) (hk : A.length + B.length < 4096) : addEI D x (rcB r) = 0 ∧ LgS A (B ++ [r]) (addDI D x (rcB r)) (addXI D x (rcB r)) := by
  have hn : Frames.nsec (rcB r).length = 1 := by unfold Frames.nsec; omega
  have hl := lenS_rc h.sz
  have hx : x = (lenS ((A ++ B).map rcB) : Nat) := by rw [hl]; exact h.x
  subst hx
  obtain ⟨a1, a2, a3, a4, a5⟩ := h.lg.addI (l := rcB r) (by omega) (by rw [hn, hl, List.length_append]; omega)
  have e : (A ++ (B ++ [r])).map rcB = (A ++ B).map rcB ++ [rcB r] := by simp
  have hsz : ∀ q ∈ A ++ (B ++ [r]), (rcB q).length ≤ 24 := by
    intro q hq
    rw [← List.append_assoc] at hq
    rcases List.mem_append.1 hq with hq | hq
    · exact h.sz q hq
    · rw [List.mem_singleton] at hq; rw [hq]; exact hr
  refine ⟨a1, by rw [e]; exact a3, ?_, by rw [a4]; exact h.sure, ?_, hsz⟩
  · rw [a2, ← e, lenS_rc hsz]
  · have hlB : (fsecs (B.map rcB)).length = B.length := by rw [fsecs_len]; exact lenS_rc fun q hq => h.sz q (List.mem_append_right _ hq)
    rw [a5, h.waits, show (B ++ [r]).map rcB = B.map rcB ++ [rcB r] by simp, fsecs_snoc, wlq_app, hlB, hl, List.length_append]
theorem LgS.sync {A B : List Rc} {D : Dk} {x : Int} (h : LgS A B D x) : LgS (A ++ B) [] D.sync x := by
  have hl := lenS_rc h.sz
  refine ⟨by rw [List.append_nil]; exact h.lg.sync, by rw [List.append_nil]; exact h.x, ?_, rfl, by rw [List.append_nil]; exact h.sz⟩
  show D.seen = _
  rw [← hl]
  exact h.lg.seen
theorem LgS.fail {A B : List Rc} {D : Dk} {x : Int} (h : LgS A B D x) (hk : A.length + B.length ≤ 4096) (keep torn : Int) :
    recsD (Dk.fail D keep torn) = (A ++ B.take (lead keep 0 B.length)).map rcB ∧ LgS (A ++ B.take (lead keep 0 B.length)) [] (openD (Dk.fail D keep torn)) (atD (Dk.fail D keep torn)) := by
  have hA : lenS (A.map rcB) = A.length := lenS_rc fun q hq => h.sz q (List.mem_append_left _ hq)
  have hB : lenS (B.map rcB) = B.length := lenS_rc fun q hq => h.sz q (List.mem_append_right _ hq)
  obtain ⟨c1, c2, c3⟩ := crash_short (D := D) (n := 4096) (A := A.map rcB) (B := B.map rcB) keep torn (fun r hr => by
    obtain ⟨q, hq, rfl⟩ := List.mem_map.1 hr
    have := h.sz q (List.mem_append_left _ hq)
    omega) (fun r hr => by
    obtain ⟨q, hq, rfl⟩ := List.mem_map.1 hr
    exact h.sz q (List.mem_append_right _ hq)) (by rw [hA, hB]; exact hk) (by rw [hA]; exact h.sure) (by rw [hA]; exact h.waits)
  rw [List.length_map, ← List.map_take, ← List.map_append] at c3
  obtain ⟨o1, o2, o3, o4, o5, o6⟩ := opened_lg c1
  rw [c2, c3] at o3
  have hsz : ∀ r ∈ A ++ B.take (lead keep 0 B.length), (rcB r).length ≤ 24 := fun r hr => by
    rcases List.mem_append.1 hr with hr | hr
    · exact h.sz r (List.mem_append_left _ hr)
    · exact h.sz r (List.mem_append_right _ (List.mem_of_mem_take hr))
  have hl := lenS_rc hsz
  refine ⟨c3, by rw [List.append_nil]; exact o3, ?_, ?_, o4, by rw [List.append_nil]; exact hsz⟩
  · rw [List.append_nil, ← o1, c3, hl]
  · rw [o5, ← hl]
    exact o3.seen
end Go.Proofs.YticnjkdaccacaaaGreat.Sx
end
section
namespace Go.Proofs.YticnjkdaccacaaaGreat.Sx
open Go Go.RowKit Base _root_.Go.Proofs.YticnjkdaccacaaaGreat.Own OwnV Disk
def cmR (g : Int) (ss : List Int) : List Int := 99 :: (fourL g ++ ss)
section
variable {w w0 : World} {R : List Asn} {b bl bm bk bw bd : Nat} {last now x : Int} {m : List (Int × Int)} {gs : Gs} {D : Dk}
set_option maxRecDepth 100000 in
set_option maxHeartbeats 8000000 in
theorem learns_commit {A : Option Addr} {c : Nat} {g : Int} {ss : List Int} (hss : 1 ≤ ss.length ∧ ss.length ≤ 3) (hs3 : ∀ z ∈ ss, 1 ≤ z ∧ z ≤ 3) (hg : 1 ≤ g ∧ g ≤ 4294967295) (hR : ∀ w', Sat w0 w' R → Rk .u8 w' A (cmR g ss)) (hm : (cmR g ss).length ≤ c ∧ c ≤ maxLen) {j : Nat} (hi : idxG (gs.map (·.2)) g = some j) (hj : j < gs.length) (hI : GlI gs[j].2) (hpart : ∀ i (h : i < ss.length), partAt (cmG gs[j].2 (ss.take i)) ss[i].toNat = false) (S : Sat w0 w (chW b bl bm last bk bw now bd gs m x D R)) :
    Calls Tryz.prog 52 #[.pointer (some ⟨b, 0, none⟩), .slice A (cmR g ss).length c] w fun e w' => e = .returned (.bool true) ∧ Sat w0 w' (chW b bl bm last bk bw now bd (gs.set j (gs[j].1, cmG gs[j].2 ss)) m x D R) := by
  refine calls_start (N := 149) [.pointer (some ⟨b, 0, none⟩), .slice A (cmR g ss).length c] Tryz.func52 rfl rfl rfl (vok_c rfl (vok_c (vok_sl hm) rfl)) fun a fr => ?_
  have hrk : ∀ {w'}, Sat w0 w' (chW b bl bm last bk bw now bd gs m x D R) → Rk .u8 w' A (cmR g ss) := fun S' => hR _ (Sat.past S')
  have hback := four_back2 (g := g) (by omega)
  have hn : (cmR g ss).length = 5 + ss.length := by simp [cmR, fourL]; omega
  skip; (repeat (with_reducible refine wp_seq ?_)); refine wp_region_lit ?_
  (repeat (refine wl_run orcCh_ok 1 rfl fr fun a fr => ?_))
  refine wpList_nil ?_; (repeat (with_reducible refine then_n ?_))
  skip; (repeat (with_reducible refine wp_seq ?_)); refine wp_region_lit ?_
  (repeat (refine wl_run orcCh_ok 1 rfl fr fun a fr => ?_))
  have fr := fr.bool (d := 12) rfl (decide_eq_false (show ¬ ((cmR g ss).length : Int) < 5 by omega))
  (repeat (refine wl_run orcCh_ok 1 rfl fr fun a fr => ?_))
  refine wl_ld orcCh_ok (hrk S) fr rfl rfl rfl rfl rfl rfl rfl rfl rfl rfl rfl rfl rfl rfl rfl rfl ⟨by decide, by rw [hn]; omega⟩ fun a fr => ?_
  have fr := fr.spell (d := 15) rfl (show Value.int .u8 ((cmR g ss).getD (0 : Int).toNat 0) = .int .u8 99 from rfl)
  (repeat (refine wl_run orcCh_ok 1 rfl fr fun a fr => ?_))
  have fr := fr.bool (d := 22) rfl (show (((99 : Int) == 99) != decide (((cmR g ss).length : Int) > 5)) = false by rw [decide_eq_true (show ((cmR g ss).length : Int) > 5 by omega)]; rfl)
  (repeat (refine wl_run orcCh_ok 1 rfl fr fun a fr => ?_))
  have fr := fr.bool (d := 26) rfl (decide_eq_false (show ¬ ((cmR g ss).length : Int) > 8 by omega))
  (repeat (refine wl_run orcCh_ok 1 rfl fr fun a fr => ?_))
  refine wpList_nil ?_; (repeat (with_reducible refine then_n ?_))
  skip; (repeat (with_reducible refine wp_seq ?_))
  refine cw_f fr rfl ?_
  refine wp_skip ?_
  (with_reducible refine then_n ?_)
  skip; (repeat (with_reducible refine wp_seq ?_))
  refine wp_region_sl [.one (0, true, some 27), .one (1, true, some 28), .one (2, true, some 29), .one (3, true, some 30), .one (4, true, some 31), .one (5, true, some 32), .one (6, true, some 33), .one (7, true, some 34), .one (8, true, some 35), .one (9, true, some 36), .one (10, true, some 37), .one (11, true, some 38), .one (12, true, some 39), .one (13, true, some 40), .one (14, true, some 41), .one (15, true, some 42), .one (16, true, some 43), .one (17, true, some 44), .one (18, true, some 45), .one (19, true, some 46), .one (20, true, some 47), .one (21, true, some 48), .one (22, true, some 5)]
                [.one ⟨true, some 27, (Go.Op.move (Go.Operand.tmp 1)), 92, none⟩,
                .one ⟨true, some 28, (Go.Op.indexAddr 92 (Go.Operand.tmp 27) (Go.Operand.const (Go.Value.int Go.IntKind.i64 1))), 0, none⟩,
                .one ⟨true, some 29, (Go.Op.load 5 (Go.Operand.tmp 28)), 5, none⟩,
                .one ⟨true, some 30, (Go.Op.convert 5 31 (Go.Operand.tmp 29)), 31, none⟩,
                .one ⟨true, some 31, (Go.Op.binOp Go.BinOp.shl 31 (Go.Operand.tmp 30) (Go.Operand.const (Go.Value.int Go.IntKind.u64 24)) 152), 31, none⟩,
                .one ⟨true, some 32, (Go.Op.move (Go.Operand.tmp 1)), 92, none⟩,
                .one ⟨true, some 33, (Go.Op.indexAddr 92 (Go.Operand.tmp 32) (Go.Operand.const (Go.Value.int Go.IntKind.i64 2))), 0, none⟩,
                .one ⟨true, some 34, (Go.Op.load 5 (Go.Operand.tmp 33)), 5, none⟩,
                .one ⟨true, some 35, (Go.Op.convert 5 31 (Go.Operand.tmp 34)), 31, none⟩,
                .one ⟨true, some 36, (Go.Op.binOp Go.BinOp.shl 31 (Go.Operand.tmp 35) (Go.Operand.const (Go.Value.int Go.IntKind.u64 16)) 152), 31, none⟩,
                .one ⟨true, some 37, (Go.Op.binOp Go.BinOp.or 31 (Go.Operand.tmp 31) (Go.Operand.tmp 36) 31), 31, none⟩,
                .one ⟨true, some 38, (Go.Op.move (Go.Operand.tmp 1)), 92, none⟩,
                .one ⟨true, some 39, (Go.Op.indexAddr 92 (Go.Operand.tmp 38) (Go.Operand.const (Go.Value.int Go.IntKind.i64 3))), 0, none⟩,
                .one ⟨true, some 40, (Go.Op.load 5 (Go.Operand.tmp 39)), 5, none⟩,
                .one ⟨true, some 41, (Go.Op.convert 5 31 (Go.Operand.tmp 40)), 31, none⟩,
                .one ⟨true, some 42, (Go.Op.binOp Go.BinOp.shl 31 (Go.Operand.tmp 41) (Go.Operand.const (Go.Value.int Go.IntKind.u64 8)) 152), 31, none⟩,
                .one ⟨true, some 43, (Go.Op.binOp Go.BinOp.or 31 (Go.Operand.tmp 37) (Go.Operand.tmp 42) 31), 31, none⟩,
                .one ⟨true, some 44, (Go.Op.move (Go.Operand.tmp 1)), 92, none⟩,
                .one ⟨true, some 45, (Go.Op.indexAddr 92 (Go.Operand.tmp 44) (Go.Operand.const (Go.Value.int Go.IntKind.i64 4))), 0, none⟩,
                .one ⟨true, some 46, (Go.Op.load 5 (Go.Operand.tmp 45)), 5, none⟩,
                .one ⟨true, some 47, (Go.Op.convert 5 31 (Go.Operand.tmp 46)), 31, none⟩,
                .one ⟨true, some 48, (Go.Op.binOp Go.BinOp.or 31 (Go.Operand.tmp 43) (Go.Operand.tmp 47) 31), 31, none⟩,
                .one ⟨true, some 5, (Go.Op.assign (Go.Operand.tmp 48)), 31, none⟩]
                (fun v => Sat w0 v R) rfl (by kernel_rfl) (by kernel_rfl) ?_ ?_
  · exact Sat.past S.drew
  have S := S.drew
  have hS : Sat w0 _ R := Sat.past S
  (repeat (refine sl_run orcCh_ok 1 rfl fr fun a fr => ?_))
  refine sl_ld orcCh_ok (fun w' S' => hR w' S') fr rfl rfl rfl rfl rfl rfl rfl rfl rfl rfl rfl rfl rfl rfl rfl rfl rfl rfl ⟨by decide, by rw [hn]; omega⟩ hS fun a fr => ?_
  (repeat (refine sl_run orcCh_ok 1 rfl fr fun a fr => ?_))
  refine sl_ld orcCh_ok (fun w' S' => hR w' S') fr rfl rfl rfl rfl rfl rfl rfl rfl rfl rfl rfl rfl rfl rfl rfl rfl rfl rfl ⟨by decide, by rw [hn]; omega⟩ hS fun a fr => ?_
  (repeat (refine sl_run orcCh_ok 1 rfl fr fun a fr => ?_))
  refine sl_ld orcCh_ok (fun w' S' => hR w' S') fr rfl rfl rfl rfl rfl rfl rfl rfl rfl rfl rfl rfl rfl rfl rfl rfl rfl rfl ⟨by decide, by rw [hn]; omega⟩ hS fun a fr => ?_
  (repeat (refine sl_run orcCh_ok 1 rfl fr fun a fr => ?_))
  refine sl_ld orcCh_ok (fun w' S' => hR w' S') fr rfl rfl rfl rfl rfl rfl rfl rfl rfl rfl rfl rfl rfl rfl rfl rfl rfl rfl ⟨by decide, by rw [hn]; omega⟩ hS fun a fr => ?_
  (repeat (refine sl_run orcCh_ok 1 rfl fr fun a fr => ?_))
  refine sl_end ?_
  (repeat (with_reducible refine then_n ?_))
  have fr := fr.spell (d := 5) rfl (show _ = Value.int .u32 g from congrArg (Value.int .u32) hback)
  have S : Sat w0 _ (chS b bl bm last bk :: logA bl bd x :: diskA bd D :: ckS bk bw now :: ckM bw m :: glM bm gs :: (gsT gs ++ R)) := S
  clear hS
  skip; (repeat (with_reducible refine wp_seq ?_)); refine wp_region_lit ?_
  (repeat (first | refine wl_run orcCh_ok 1 rfl fr fun a fr => ?_ | refine wl_ldf orcCh_ok (Sat.stAt S 0 rfl rfl) fr rfl rfl rfl rfl rfl rfl rfl fun a fr => ?_))
  refine wl_lk (f := ptO) orcCh_ok (none : Option Nat) (fun _ => by kernel_rfl) rfl (Sat.mapAt S 5 rfl) fr rfl rfl rfl rfl rfl rfl rfl rfl fun a fr => ?_
  obtain ⟨_, h1, h2⟩ := lkG_at hi
  rw [h1] at fr
  have fr := fr.spell (d := 54) rfl (show ptO ((some (some gs[j].1) : Option (Option Nat)).getD none) = .pointer (some ⟨gs[j].1, 0, none⟩) from rfl)
  (repeat (refine wl_run orcCh_ok 1 rfl fr fun a fr => ?_))
  refine wpList_nil ?_; (repeat (with_reducible refine then_n ?_))
  skip; (repeat (with_reducible refine wp_seq ?_)); refine wp_region_lit ?_
  (repeat (refine wl_run orcCh_ok 1 rfl fr fun a fr => ?_))
  have fr := fr.bool (d := 57) rfl (show (g == 0) = false by simp; omega)
  (repeat (refine wl_run orcCh_ok 1 rfl fr fun a fr => ?_))
  refine wl_ld orcCh_ok (hrk S) fr rfl rfl rfl rfl rfl rfl rfl rfl rfl rfl rfl rfl rfl rfl rfl rfl ⟨by decide, by rw [hn]; omega⟩ fun a fr => ?_
  have fr := fr.spell (d := 62) rfl (show Value.int .u8 ((cmR g ss).getD (0 : Int).toNat 0) = .int .u8 99 from rfl)
  (repeat (refine wl_run orcCh_ok 1 rfl fr fun a fr => ?_))
  refine wpList_nil ?_; (repeat (with_reducible refine then_n ?_))
  skip; (repeat (with_reducible refine wp_seq ?_))
  refine cw_f fr rfl ?_
  refine wp_skip ?_
  (with_reducible refine then_n ?_)
  skip; (repeat (with_reducible refine wp_seq ?_)); refine wp_region_lit ?_
  (repeat (refine wl_run orcCh_ok 1 rfl fr fun a fr => ?_))
  refine wl_ld orcCh_ok (hrk S) fr rfl rfl rfl rfl rfl rfl rfl rfl rfl rfl rfl rfl rfl rfl rfl rfl ⟨by decide, by rw [hn]; omega⟩ fun a fr => ?_
  have fr := fr.spell (d := 68) rfl (show Value.int .u8 ((cmR g ss).getD (0 : Int).toNat 0) = .int .u8 99 from rfl)
  refine wpList_nil ?_; (repeat (with_reducible refine then_n ?_))
  skip; (repeat (with_reducible refine wp_seq ?_))
  refine wp_block ?_
  skip; (repeat (with_reducible refine wp_seq ?_)); refine wp_region_lit ?_
  (repeat (refine wl_run orcCh_ok 1 rfl fr fun a fr => ?_))
  refine wpList_nil ?_; (repeat (with_reducible refine then_n ?_))
  skip; (repeat (with_reducible refine wp_seq ?_))
  refine cw_f fr rfl ?_
  skip; (repeat (with_reducible refine wp_seq ?_)); refine wp_region_lit ?_
  (repeat (refine wl_run orcCh_ok 1 rfl fr fun a fr => ?_))
  refine wpList_nil ?_; (repeat (with_reducible refine then_n ?_))
  skip; (repeat (with_reducible refine wp_seq ?_))
  refine cw_t fr rfl ?_
  have S : Sat w0 _ (chW b bl bm last bk bw now bd gs m x D R) := S
  have S := Sat.focus hj S
  obtain ⟨G, hG⟩ : ∃ G, G = gs[j].2 := ⟨_, rfl⟩
  obtain ⟨bx, hbx⟩ : ∃ bx, bx = gs[j].1 := ⟨_, rfl⟩
  rw [← hG] at hI S
  rw [← hbx] at S
  have hpart : ∀ i (h : i < ss.length), partAt (cmG G (ss.take i)) ss[i].toNat = false := by rw [hG]; exact hpart
  obtain ⟨R1, hR1⟩ : ∃ R1, R1 = glM bm gs :: (gsT (gs.eraseIdx j) ++ R) := ⟨_, rfl⟩
  rw [← hR1] at S
  have hrk2 : ∀ {w'}, Sat w0 w' R1 → Rk .u8 w' (dropA A c 5) ss := fun S' => by
    rw [hR1] at S'
    exact (hR _ (Sat.lastsT (glM bm gs :: gsT (gs.eraseIdx j)) S')).drop hm.1
  have S : Sat w0 _ (chS b bl bm last bk :: logA bl bd x :: diskA bd D :: ckS bk bw now :: ckM bw m :: glA (bx, G) :: (glR (bx, G) ++ R1)) := S
  have S := S.frontAt 5 rfl
  have fr := fr.sub (L' := [(0, .pointer (some ⟨b, 0, none⟩)), (1, .slice A (cmR g ss).length c), (6, .pointer (some ⟨gs[j].1, 0, none⟩))]) ⟨rfl, rfl, rfl, trivial⟩
  rw [← hbx] at fr
  skip; (repeat (with_reducible refine wp_seq ?_)); refine wp_region_lit ?_
  (repeat (refine wl_run orcCh_ok 1 rfl fr fun a fr => ?_))
  refine wl_stfA orcCh_ok 1 fr rfl rfl rfl rfl rfl rfl rfl rfl rfl S (by simp [glV]) ?_
  intro w12 S
  (repeat (refine wl_run orcCh_ok 1 rfl fr fun a fr => ?_))
  refine wl_stfA orcCh_ok 2 fr rfl rfl rfl rfl rfl rfl rfl rfl rfl S (by simp [glV]) ?_
  intro w13 S
  (repeat (refine wl_run orcCh_ok 1 rfl fr fun a fr => ?_))
  refine wl_stfA orcCh_ok 3 fr rfl rfl rfl rfl rfl rfl rfl rfl rfl S (by simp [glV]) ?_
  intro w14 S
  have S : Sat w0 w14 (glA (bx, cmG G (ss.take 0)) :: chS b bl bm last bk :: logA bl bd x :: diskA bd D :: ckS bk bw now :: ckM bw m :: (glR (bx, G) ++ R1)) := S
  refine wpList_nil ?_; (repeat (with_reducible refine then_n ?_))
  skip; (repeat (with_reducible refine wp_seq ?_)); refine wp_region_lit ?_
  (repeat (refine wl_run orcCh_ok 1 rfl fr fun a fr => ?_))
  refine wl_drop orcCh_ok (l := cmR g ss) (i := 5) fr rfl rfl rfl rfl rfl rfl rfl (by kernel_rfl) rfl ⟨by decide, by rw [hn]; omega⟩ fun a fr => ?_
  have fr := fr.spell (d := 100) rfl (show Value.slice (dropA A c (5 : Int).toNat) ((cmR g ss).drop (5 : Int).toNat).length (c - (5 : Int).toNat) = .slice (dropA A c 5) ss.length (c - 5) from rfl)
  (repeat (refine wl_run orcCh_ok 1 rfl fr fun a fr => ?_))
  refine wpList_nil ?_; (repeat (with_reducible refine then_n ?_))
  have hss0 : ((cmR g ss).drop (5 : Int).toNat).length = ss.length := rfl
  obtain ⟨T1, hT1⟩ : ∃ T1, T1 = chS b bl bm last bk :: logA bl bd x :: diskA bd D :: ckS bk bw now :: ckM bw m :: (glR (bx, G) ++ R1) := ⟨_, rfl⟩
  rw [← hT1] at S
  have hrk3 : ∀ {w'} {X : Asn}, Sat w0 w' (X :: T1) → Rk .u8 w' (dropA A c 5) ss := fun {w'} {X} S' => by
    rw [hT1] at S'
    exact hrk2 (Sat.lastsT (X :: chS b bl bm last bk :: logA bl bd x :: diskA bd D :: ckS bk bw now :: ckM bw m :: glR (bx, G)) S')
  have hrk1 : ∀ {w'} {X : Asn}, Sat w0 w' (X :: T1) → Rk .u8 w' A (cmR g ss) := fun {w'} {X} S' => by
    rw [hT1, hR1] at S'
    exact hR _ (Sat.lastsT (X :: chS b bl bm last bk :: logA bl bd x :: diskA bd D :: ckS bk bw now :: ckM bw m :: (glR (bx, G) ++ glM bm gs :: gsT (gs.eraseIdx j))) (by simpa only [List.cons_append, List.append_assoc] using S'))
  skip; (repeat (with_reducible refine wp_seq ?_))
  refine wp_block ?_
  refine cw_loop (fun q a w2 => ∃ i : Nat, i + q = ss.length + 1 ∧ i ≤ ss.length ∧ Fr 149 a [(0, .pointer (some ⟨b, 0, none⟩)), (1, .slice A (cmR g ss).length c), (6, .pointer (some ⟨bx, 0, none⟩)), (100, .slice (dropA A c 5) ss.length (c - 5)), (101, .int .i64 (ss.length : Int)), (102, .int .i64 (i : Int))] ∧ Sat w0 w2 (glA (bx, cmG G (ss.take i)) :: T1)) (ss.length + 1)
    ⟨0, by omega, by omega, fr.sub ⟨rfl, rfl, rfl, rfl, rfl, rfl, trivial⟩, S⟩ ?_ ?_
  · rintro a w2 ⟨i, h, h', -⟩
    omega
  clear fr S
  rintro q a w20 ⟨i, hiq, hil, fr, S⟩
  skip; (repeat (with_reducible refine wp_seq ?_)); refine wp_region_lit ?_
  (repeat (refine wl_run orcCh_ok 1 rfl fr fun a fr => ?_))
  refine wpList_nil ?_; (repeat (with_reducible refine then_n ?_))
  by_cases hlt : i < ss.length
  · have fr := fr.bool (d := 103) rfl (decide_eq_true (show (i : Int) < (ss.length : Int) by omega))
    skip; (repeat (with_reducible refine wp_seq ?_))
    refine cw_t fr rfl ?_
    refine wp_skip ?_
    (with_reducible refine then_n ?_)
    have hk3 := hs3 _ (List.getElem_mem hlt)
    have hpk := hpart i hlt
    obtain ⟨k, hk⟩ : ∃ k : Nat, ss[i] = k := ⟨ss[i].toNat, by omega⟩
    rw [hk, Int.toNat_natCast] at hpk
    rw [hk] at hk3
    have hgd : ss.getD (i : Int).toNat 0 = (k : Int) := by rw [Int.toNat_natCast, List.getD_eq_getElem?_getD, List.getElem?_eq_getElem hlt]; exact hk
    obtain ⟨G1, hG1⟩ : ∃ G1, G1 = cmG G (ss.take i) := ⟨_, rfl⟩
    have hnext : cmG G (ss.take (i + 1)) = { G1 with v := updV vPart k G1.v } := by
      rw [hG1, List.take_succ_eq_append_getElem hlt, hk]
      unfold cmG beginV
      rw [List.foldl_append]
      rfl
    rw [← hG1] at hpk S
    have hl4 : G1.v.length = 4 := by
      rw [hG1]
      show (beginV (ss.take i) G.v).length = 4
      have : ∀ (l : List Int) (v : List (Vt RawV)), (beginV l v).length = v.length := by
        intro l
        induction l with
        | nil => intro v; rfl
        | cons n l ih => intro v; show (beginV l (updV vPart n.toNat v)).length = _; rw [ih, updV_len]
      rw [this]; exact hI.len
    have hkv : k < G1.v.length := by omega
    have hpv : G1.v[k].part = false := by
      unfold partAt at hpk
      rw [List.getElem?_eq_getElem hkv] at hpk
      exact hpk
    skip; (repeat (with_reducible refine wp_seq ?_))
    refine wp_block ?_
    skip; (repeat (with_reducible refine wp_seq ?_)); refine wp_region_lit ?_
    refine wl_ld orcCh_ok (hrk3 S) fr rfl rfl rfl rfl rfl rfl rfl rfl rfl rfl rfl rfl rfl rfl rfl rfl ⟨by omega, by omega⟩ fun a fr => ?_
    have fr := fr.spell (d := 105) rfl (congrArg (Value.int .u8) hgd)
    (repeat (refine wl_run orcCh_ok 1 rfl fr fun a fr => ?_))
    refine wpList_nil ?_; (repeat (with_reducible refine then_n ?_))
    skip; (repeat (with_reducible refine wp_seq ?_)); refine wp_region_lit ?_
    (repeat (refine wl_run orcCh_ok 1 rfl fr fun a fr => ?_))
    have fr := fr.bool (d := 108) rfl (decide_eq_false (show ¬ (k : Int) < 1 by omega))
    (repeat (refine wl_run orcCh_ok 1 rfl fr fun a fr => ?_))
    have fr := fr.bool (d := 112) rfl (decide_eq_false (show ¬ (k : Int) > 3 by omega))
    (repeat (refine wl_run orcCh_ok 1 rfl fr fun a fr => ?_))
    refine wl_ixa orcCh_ok fr rfl rfl rfl rfl rfl rfl rfl rfl ⟨by omega, by omega⟩ fun a fr => ?_
    (repeat (refine wl_run orcCh_ok 1 rfl fr fun a fr => ?_))
    refine wl_ldf orcCh_ok (v := .bool G1.v[k].part) ⟨(show World.cell? _ ((((⟨bx, 0, none⟩ : Addr).add 5).add (k * 4)).add 0) = some (.bool G1.v[k].part) by rw [vt_addr]; exact (Sat.stAt S 0 rfl (gl_at (j := 0) hkv rfl)).1), rfl⟩ fr rfl rfl rfl rfl rfl rfl rfl fun a fr => ?_
    have fr := fr.bool (d := 119) rfl hpv
    (repeat (refine wl_run orcCh_ok 1 rfl fr fun a fr => ?_))
    refine wpList_nil ?_; (repeat (with_reducible refine then_n ?_))
    skip; (repeat (with_reducible refine wp_seq ?_))
    refine cw_f fr rfl ?_
    refine wp_skip ?_
    (with_reducible refine then_n ?_)
    skip; (repeat (with_reducible refine wp_seq ?_)); refine wp_region_lit ?_
    (repeat (refine wl_run orcCh_ok 1 rfl fr fun a fr => ?_))
    refine wl_ixa orcCh_ok fr rfl rfl rfl rfl rfl rfl rfl rfl ⟨by omega, by omega⟩ fun a fr => ?_
    (repeat (refine wl_run orcCh_ok 1 rfl fr fun a fr => ?_))
    refine wl_stfA orcCh_ok (5 + (k * 4 + 0)) fr rfl rfl rfl rfl (vt_addr k 0) rfl rfl rfl rfl S (by
      show 5 + (k * 4 + 0) < (G1.v.flatMap vtV).length + 1 + 1 + 1 + 1 + 1
      rw [el_len vtV_len, hl4]; omega) ?_
    intro w21 S
    rw [gl_set (f := vPart) (by decide) (fun _ => rfl), ← hnext] at S
    have S : Sat w0 w21 (glA (bx, cmG G (ss.take (i + 1))) :: T1) := S
    refine wpList_nil ?_; (repeat (with_reducible refine then_n ?_))
    (repeat (first | (with_reducible refine then_n ?_) | (with_reducible refine blk_n ?_)))
    skip; (repeat (with_reducible refine wp_seq ?_)); refine wp_region_lit ?_
    (repeat (refine wl_run orcCh_ok 1 rfl fr fun a fr => ?_))
    refine wpList_nil ?_; (repeat (with_reducible refine then_n ?_))
    have fr := fr.spell (d := 102) rfl (congrArg (Value.int .i64) (i64_next hlt (by omega)))
    exact ⟨i + 1, by omega, by omega, fr.sub ⟨rfl, rfl, rfl, rfl, rfl, rfl, trivial⟩, S⟩
  have fr := fr.bool (d := 103) rfl (decide_eq_false (show ¬ (i : Int) < (ss.length : Int) by omega))
  obtain rfl : i = ss.length := by omega
  rw [List.take_length] at S
  skip; (repeat (with_reducible refine wp_seq ?_))
  refine cw_f fr rfl ?_
  refine wp_exit ?_
  skip; (repeat (first | (with_reducible refine then_e ?_) | (with_reducible refine ng_e ?_) | (with_reducible refine blk_e (by decide) ?_))); (with_reducible refine blk_y ?_); (repeat (with_reducible refine then_n ?_))
  (repeat (first | (with_reducible refine then_n ?_) | (with_reducible refine blk_n ?_)))
  skip; (repeat (with_reducible refine wp_seq ?_)); refine wp_region_lit ?_
  (repeat (refine wl_run orcCh_ok 1 rfl fr fun a fr => ?_))
  refine wl_ld orcCh_ok (hrk1 S) fr rfl rfl rfl rfl rfl rfl rfl rfl rfl rfl rfl rfl rfl rfl rfl rfl ⟨by decide, by rw [hn]; omega⟩ fun a fr => ?_
  have fr := fr.spell (d := 135) rfl (show Value.int .u8 ((cmR g ss).getD (0 : Int).toNat 0) = .int .u8 99 from rfl)
  (repeat (refine wl_run orcCh_ok 1 rfl fr fun a fr => ?_))
  refine wl_ld orcCh_ok (hrk1 S) fr rfl rfl rfl rfl rfl rfl rfl rfl rfl rfl rfl rfl rfl rfl rfl rfl ⟨by decide, by rw [hn]; omega⟩ fun a fr => ?_
  have fr := fr.spell (d := 140) rfl (show Value.int .u8 ((cmR g ss).getD (0 : Int).toNat 0) = .int .u8 99 from rfl)
  (repeat (refine wl_run orcCh_ok 1 rfl fr fun a fr => ?_))
  refine wpList_nil ?_; (repeat (with_reducible refine then_n ?_))
  refine wp_ret ?_
  refine ret1 fr rfl rfl ⟨rfl, ?_⟩
  have hglR : glR (bx, G) = glR (bx, cmG G ss) := by
    have : ∀ (l : List Int) (v : List (Vt RawV)), (beginV l v).map (fun v => resA v.l.1 v.l.2.1 v.l.2.2) = v.map fun v => resA v.l.1 v.l.2.1 v.l.2.2 := by
      intro l
      induction l with
      | nil => intro v; rfl
      | cons n l ih =>
        intro v
        show (beginV l (updV vPart n.toNat v)).map _ = _
        rw [ih]
        exact upd_map (f := fun v : RawV => resA v.1 v.2.1 v.2.2) (u := vPart) (F := fun v : Vt RawV => resA v.l.1 v.l.2.1 v.l.2.2) (fun _ => rfl) _ _
    exact (this ss G.v).symm
  rw [hT1, hR1, hglR] at S
  have S := (((((S.frontAt 5 rfl).frontAt 5 rfl).frontAt 5 rfl).frontAt 5 rfl).frontAt 5 rfl)
  rw [hbx, hG] at S
  have S : Sat w0 _ (chL b bl bm last bk bw now bd gs[j].1 ⟨cmG gs[j].2 ss, m, x, D⟩ (glM bm gs :: (gsT (gs.eraseIdx j) ++ R))) := S
  exact Sat.unfocus hj (C := ⟨cmG gs[j].2 ss, m, x, D⟩) rfl S
end
end Go.Proofs.YticnjkdaccacaaaGreat.Sx
end
section
namespace Go.Proofs.YticnjkdaccacaaaGreat.Sx
open Go Go.RowKit Base _root_.Go.Proofs.YticnjkdaccacaaaGreat.Own OwnV Disk
theorem updV_get {α : Type} {f : Vt α → Vt α} : ∀ (l : List (Vt α)) (n i : Nat), (updV f n l)[i]? = if i = n then (l[i]?).map f else l[i]? := by
  intro l
  induction l with
  | nil => intro n i; cases n <;> simp [updV]
  | cons v r ih =>
    intro n i
    cases n with
    | zero => cases i with
      | zero => rfl
      | succ i => simp [updV]
    | succ n => cases i with
      | zero => simp [updV]
      | succ i => simp [updV, ih n i]
def statG (G : Gl RsT) : Int := if G.ph = 1 then 0 else if G.com = true then 1 else 2
def stat (gs : List (Gl RsT)) (g : Int) : Int := match findG gs g with | none => 0 | some p => statG p.2
structure CuI (G : Gl RsT) : Prop where
  ph : G.ph = 1 ∨ G.ph = 3 ∨ G.ph = 4
  doing : G.ph = 1 → G.com = false ∧ G.kn = true ∧ G.told = true
  three : G.ph = 3 → G.com = true
  kn : G.com = true → G.kn = true
  parts : G.kn = true → ∃ ss, ss ∈ seven ∧ G.v.map (·.part) = parts4 ss
  len : G.v.length = 4
structure Tr (v : Nat → Prop) (G G' : Gl RsT) : Prop where
  keep : statG G ≠ 0 → statG G' = statG G
  doing : G'.ph = 1 → G.ph = 1 ∧ G'.v.map (·.part) = G.v.map (·.part) ∧ ∀ f, yesAt G' f = true → yesAt G f = true ∨ v f
  com : statG G' = 1 → statG G = 1 ∨ (G.ph = 1 ∧ ∀ f, partAt G f = true → yesAt G f = true ∨ v f)
structure Trs (v : Nat → Nat → Prop) (gs gs' : List (Gl RsT)) : Prop where
  len : gs'.length = gs.length
  tr : ∀ i (h : i < gs.length) (h' : i < gs'.length), Tr (v i) gs[i] gs'[i]
def noV (_ : Nat) (_ : Nat) : Prop := False
structure St (A B : List Rc) (C : Ss RsT) (k : Nat) : Prop where
  good : Good A C.gs
  endB : EndsOf C.gs B
  cu : ∀ i (h : i < C.gs.length), CuI C.gs[i]
  log : LgS A B C.D C.x
  few : A.length + B.length ≤ k
  few2 : C.gs.length ≤ k
theorem partAt_map (G : Gl RsT) (k : Nat) : partAt G k = ((G.v.map (·.part))[k]?).getD false := by
  unfold partAt
  rw [List.getElem?_map]
  cases G.v[k]? <;> rfl
theorem sites_of {L : List Int} (hL : L ∈ seven) {G : Gl RsT} (h : G.v.map (·.part) = parts4 L) : sites allV G = L := by
  unfold Sx.sites
  rw [sites_map, h]
  simp only [seven, List.mem_cons, List.not_mem_nil, or_false] at hL
  rcases hL with rfl | rfl | rfl | rfl | rfl | rfl | rfl <;> rfl
theorem part_of_ {L : List Int} (hL : L ∈ seven) {G : Gl RsT} (h : G.v.map (·.part) = parts4 L) {f : Nat} (hf : (f : Int) ∈ L) : partAt G f = true := by
  rw [partAt_map, h]
  have hf3 : f = 0 ∨ f = 1 ∨ f = 2 ∨ f = 3 := by
    simp only [seven, List.mem_cons, List.not_mem_nil, or_false] at hL
    rcases hL with rfl | rfl | rfl | rfl | rfl | rfl | rfl <;> simp at hf <;> omega
  simp only [seven, List.mem_cons, List.not_mem_nil, or_false] at hL
  rcases hL with rfl | rfl | rfl | rfl | rfl | rfl | rfl <;> rcases hf3 with rfl | rfl | rfl | rfl <;> first | rfl | (exfalso; revert hf; decide)
theorem Tr.same (v : Nat → Prop) (G : Gl RsT) : Tr v G G := ⟨fun _ => rfl, fun h => ⟨h, rfl, fun _ h => .inl h⟩, fun h => .inl h⟩
theorem Trs.same (v : Nat → Nat → Prop) (gs : List (Gl RsT)) : Trs v gs gs := ⟨rfl, fun i _ _ => Tr.same _ _⟩
theorem Trs.set {v : Nat → Nat → Prop} {gs : List (Gl RsT)} {j : Nat} {G' : Gl RsT} (h : ∀ hj : j < gs.length, Tr (v j) gs[j] G') : Trs v gs (gs.set j G') := by
  refine ⟨List.length_set, fun i h1 h2 => ?_⟩
  rw [List.getElem_set]
  split
  · rename_i hij
    subst hij
    exact h h1
  · exact Tr.same _ _
theorem Tr.trans {v : Nat → Prop} {G G' G'' : Gl RsT} (h : Tr v G G') (h2 : Tr (fun _ => False) G' G'') : Tr v G G'' := by
  refine ⟨fun h0 => ?_, fun h0 => ?_, fun h0 => ?_⟩
  · have := h.keep h0
    rw [h2.keep (by rw [this]; exact h0), this]
  · obtain ⟨a1, a2, a3⟩ := h2.doing h0
    obtain ⟨b1, b2, b3⟩ := h.doing a1
    refine ⟨b1, a2.trans b2, fun f hf => ?_⟩
    rcases a3 f hf with a3 | a3
    · exact b3 f a3
    · exact a3.elim
  · rcases h2.com h0 with a | ⟨a1, a2⟩
    · exact h.com a
    · obtain ⟨b1, b2, b3⟩ := h.doing a1
      refine .inr ⟨b1, fun f hf => ?_⟩
      rw [partAt_map, ← b2, ← partAt_map] at hf
      rcases a2 f hf with a2 | a2
      · exact b3 f a2
      · exact a2.elim
theorem Trs.trans {v : Nat → Nat → Prop} {a b c : List (Gl RsT)} (h : Trs v a b) (h2 : Trs noV b c) : Trs v a c :=
  ⟨h2.len.trans h.len, fun i q1 q2 => (h.tr i q1 (by rw [h.len]; exact q1)).trans (h2.tr i (by rw [h.len]; exact q1) q2)⟩
theorem stat_at {gs : List (Gl RsT)} (hn : Num gs) {j : Nat} (hj : j < gs.length) : stat gs ((j : Int) + 1) = statG gs[j] := by
  unfold stat
  rw [hn.find hj]
theorem Trs.keep {v : Nat → Nat → Prop} {gs gs' : List (Gl RsT)} (h : Trs v gs gs') (hn : Num gs) (hn' : Num gs') (g : Int) (hg : stat gs g ≠ 0) : stat gs' g = stat gs g := by
  rcases hn.cases g with ⟨-, h2⟩ | ⟨j, hj, rfl, -⟩
  · unfold stat at hg
    rw [h2] at hg
    exact absurd rfl hg
  · have hj' : j < gs'.length := by rw [h.len]; exact hj
    rw [stat_at hn hj] at hg ⊢
    rw [stat_at hn' hj']
    exact (h.tr j hj hj').keep hg
theorem CuI.com_stat {G : Gl RsT} (h : CuI G) (hc : G.com = true) : statG G = 1 := by
  unfold statG
  rw [if_neg (fun e => by have := (h.doing e).1; rw [hc] at this; cases this), if_pos hc]
theorem CuI.no_stat {G : Gl RsT} (hp : G.ph ≠ 1) (hc : G.com = false) : statG G = 2 := by
  unfold statG
  rw [if_neg hp, if_neg (by rw [hc]; decide)]
def OutOk (gs gs' : List (Gl RsT)) (os : List PM) : Prop := ∀ o ∈ os, (o.1 = 5 ∧ (findG gs o.2.2 = none ∨ stat gs' o.2.2 = 2)) ∨ (o.1 = 4 ∧ stat gs' o.2.2 = 1)
theorem outTo {gs gs' : List (Gl RsT)} {s g : Int} {l : List Int} (h : (s = 5 ∧ stat gs' g = 2) ∨ (s = 4 ∧ stat gs' g = 1)) : OutOk gs gs' (toM s g l) := by
  intro o ho
  obtain ⟨n, -, rfl⟩ := List.mem_map.1 ho
  rcases h with ⟨h1, h2⟩ | ⟨h1, h2⟩
  · exact .inl ⟨h1, .inr h2⟩
  · exact .inr ⟨h1, h2⟩
theorem OutOk.nil {gs gs' : List (Gl RsT)} : OutOk gs gs' [] := fun o ho => by cases ho
theorem EndsOf.set {gs : List (Gl RsT)} {B : List Rc} (h : EndsOf gs B) {j : Nat} {G' : Gl RsT} (hc : ∀ hj : j < gs.length, gs[j].com = true → G'.com = true) : EndsOf (gs.set j G') B := by
  intro r hr
  obtain ⟨i, hi, h1, h2⟩ := h r hr
  refine ⟨i, by rw [List.length_set]; exact hi, h1, ?_⟩
  rw [List.getElem_set]
  split
  · rename_i hij
    subst hij
    exact hc hi h2
  · exact h2
theorem EndsOf.nil {gs : List (Gl RsT)} : EndsOf gs [] := fun r hr => by cases hr
theorem cu_set {gs : List (Gl RsT)} (h : ∀ i (h : i < gs.length), CuI gs[i]) {j : Nat} {G' : Gl RsT} (h2 : CuI G') : ∀ i (h : i < (gs.set j G').length), CuI (gs.set j G')[i] := by
  intro i hi
  rw [List.getElem_set]
  split
  · exact h2
  · exact h i (by rwa [List.length_set] at hi)
theorem part_vote (l : RsT) (k : Nat) (G : Gl RsT) : (voteG G k l).v.map (·.part) = G.v.map (·.part) := part_upd (f := vVote l) (fun _ => rfl) k G.v
theorem part_done (k : Nat) (G : Gl RsT) : (doneG G k).v.map (·.part) = G.v.map (·.part) := part_upd (f := vDone) (fun _ => rfl) k G.v
theorem yes_vote {l : RsT} {k f : Nat} {G : Gl RsT} (h : yesAt (voteG G k l) f = true) : yesAt G f = true ∨ f = k := by
  unfold yesAt voteG at h
  rw [updV_get] at h
  by_cases hf : f = k
  · exact .inr hf
  · rw [if_neg hf] at h
    exact .inl h
theorem all_yes : ∀ (l : List (Vt RsT)) (i : Nat), (sitesFrom notYes i l).length = 0 → ∀ v ∈ l, v.part = true → v.yes = true := by
  intro l
  induction l with
  | nil => intro i _ v hv; cases hv
  | cons u r ih =>
    intro i h v hv hp
    unfold sitesFrom at h
    split at h
    · simp at h
    · rename_i hno
      rcases List.mem_cons.1 hv with rfl | hv
      · unfold notYes at hno
        rw [hp] at hno
        simpa using hno
      · exact ih (i + 1) h v hv hp
theorem all_yesAt {G : Gl RsT} (h : (sites notYes G).length = 0) {f : Nat} (hp : partAt G f = true) : yesAt G f = true := by
  unfold partAt at hp
  unfold yesAt
  cases hf : G.v[f]? with
  | none => rw [hf] at hp; cases hp
  | some v =>
    rw [hf] at hp
    exact all_yes G.v 0 h v (List.mem_of_getElem? hf) hp
theorem CuI.vote {G : Gl RsT} (h : CuI G) (k : Nat) (l : RsT) : CuI (voteG G k l) :=
  ⟨h.ph, h.doing, h.three, h.kn, fun hk => by obtain ⟨ss, h1, h2⟩ := h.parts hk; exact ⟨ss, h1, (part_vote l k G).trans h2⟩, (updV_len _ _ _).trans h.len⟩
theorem CuI.abort {G : Gl RsT} (h : CuI G) : CuI (abortG G) :=
  ⟨.inr (.inr rfl), fun h0 => by have h0 : (4 : Int) = 1 := h0; omega, fun h0 => by have h0 : (4 : Int) = 3 := h0; omega, fun h0 => (by cases h0), h.parts, h.len⟩
theorem CuI.done {G : Gl RsT} (h : CuI G) (hc : G.com = true) (k : Nat) : CuI (doneM G k) := by
  have h3 := h.kn hc
  have hl : (doneG G k).v.length = 4 := (updV_len _ _ _).trans h.len
  have hp : ∃ ss, ss ∈ seven ∧ (doneG G k).v.map (·.part) = parts4 ss := by obtain ⟨ss, h1, h2⟩ := h.parts h3; exact ⟨ss, h1, (part_done k G).trans h2⟩
  unfold doneM
  split
  · split
    · exact ⟨.inr (.inr rfl), fun h0 => by have h0 : (4 : Int) = 1 := h0; omega, fun _ => hc, fun _ => h3, fun _ => hp, hl⟩
    · exact ⟨h.ph, h.doing, h.three, h.kn, fun _ => hp, hl⟩
  · exact h
theorem St.b {A B : List Rc} {C : Ss RsT} {k : Nat} (h : St A B C k) (hk : k ≤ 4096) : (0 ≤ C.x ∧ C.x ≤ 4096) ∧ C.D.waits.length ≤ 4096 := by
  have h8 := h.few
  have h9 := h.log.x
  rw [List.length_append] at h9
  rw [h.log.waits, wl_len, fsecs_len, lenS_rc fun q hq => h.log.sz q (List.mem_append_right _ hq)]
  omega
theorem St.doing {A B : List Rc} {C : Ss RsT} {k : Nat} (h : St A B C k) (hk : k < 4096) {j : Nat} (hj : j < C.gs.length) (hd : C.gs[j].ph = 1) (s : Int) (f : Nat) (l : RsT) {v : Nat → Nat → Prop} (hv : s = 2 → v j f) :
    ∃ A' B', St A' B' (putC C j (doingC (ofC C C.gs[j]) s f l)) (k + 1) ∧ Trs v C.gs (putC C j (doingC (ofC C C.gs[j]) s f l)).gs ∧ OutOk C.gs (putC C j (doingC (ofC C C.gs[j]) s f l)).gs (doingO (ofC C C.gs[j]) s f l) := by
  have hcu := h.cu j hj
  obtain ⟨hcom, hkn, htold⟩ := hcu.doing hd
  have hst0 : statG C.gs[j] = 0 := by unfold statG; rw [if_pos hd]
  have hg := h.good.num j hj
  have hf1 := h.few
  have hf2 := h.few2
  have keepNum : ∀ G' : Gl RsT, G'.g = C.gs[j].g → Num (C.gs.set j G') := fun G' e => h.good.num.set fun _ => e
  have statSet : ∀ G' : Gl RsT, G'.g = C.gs[j].g → stat (C.gs.set j G') ((j : Int) + 1) = statG G' := fun G' e => by
    rw [stat_at (keepNum G' e) (by rw [List.length_set]; exact hj), List.getElem_set, if_pos rfl]
  obtain ⟨G, hG⟩ : ∃ G, G = C.gs[j] := ⟨_, rfl⟩
  rw [← hG] at hcu hcom hkn htold hst0 hg hd
  unfold doingC doingO
  by_cases h3 : (s == 3) = true
  · rw [if_pos h3, if_pos h3]
    refine ⟨A, B, ⟨h.good.set fun _ => ⟨by rw [← hG]; rfl, by rw [← hG]; show false = G.com; rw [hcom], fun h0 => (by cases h0)⟩, h.endB.set fun _ h0 => (by rw [← hG, hcom] at h0; cases h0), cu_set h.cu (by rw [← hG]; exact hcu.abort), h.log, by omega, by show (C.gs.set j _).length ≤ _; rw [List.length_set]; omega⟩, Trs.set fun _ => ?_, ?_⟩
    · rw [← hG]
      exact ⟨fun h0 => absurd hst0 h0, fun h0 => by have h0 : (4 : Int) = 1 := h0; omega, fun h0 => by have h0 : (2 : Int) = 1 := h0; omega⟩
    · refine outTo (.inl ⟨rfl, ?_⟩)
      rw [← hG]
      show stat (C.gs.set j (abortG G)) G.g = 2
      rw [hg, statSet _ (by rw [← hG]; rfl)]
      rfl
  rw [if_neg h3, if_neg h3]
  rw [← hG]
  by_cases hy : (s != 2 || yesAt G f) = true
  · rw [if_pos (show (s != 2 || yesAt (ofC C G).G f) = true from hy), if_pos (show (s != 2 || yesAt (ofC C G).G f) = true from hy)]
    have e : putC C j (ofC C G) = C := by
      unfold putC ofC
      rw [hG]
      simp only [List.set_getElem_self]
    rw [e]
    exact ⟨A, B, ⟨h.good, h.endB, h.cu, h.log, by omega, by omega⟩, Trs.same _ _, OutOk.nil⟩
  rw [if_neg (show ¬ (s != 2 || yesAt (ofC C G).G f) = true from hy), if_neg (show ¬ (s != 2 || yesAt (ofC C G).G f) = true from hy)]
  have hs2 : s = 2 := by
    have hy : (s != 2 || yesAt G f) = false := by simpa using hy
    rw [Bool.or_eq_false_iff] at hy
    simpa using hy.1
  by_cases hz : (sites notYes (voteG G f l)).length = 0
  · rw [if_neg (show ¬ decide (((sites notYes (voteG (ofC C G).G f l)).length : Int) > 0) = true by show ¬ decide (((sites notYes (voteG G f l)).length : Int) > 0) = true; rw [hz]; decide), if_neg (show ¬ decide (((sites notYes (voteG (ofC C G).G f l)).length : Int) > 0) = true by show ¬ decide (((sites notYes (voteG G f l)).length : Int) > 0) = true; rw [hz]; decide)]
    obtain ⟨ss, hss, hpt⟩ := hcu.parts hkn
    have hsa : sites allV (voteG G f l) = ss := sites_of hss ((part_vote l f G).trans hpt)
    have hR : commitR (voteG G f l) = rcB (99, (j : Int) + 1, ss) := by
      unfold commitR rcB
      rw [hsa]
      show 99 :: (fourL G.g ++ ss) = _
      rw [hg]
    have hlen : (rcB (99, (j : Int) + 1, ss)).length ≤ 24 := by
      have := seven_len hss
      unfold rcB
      simp only [List.length_cons, List.length_append, fourL_len]
      omega
    obtain ⟨hadd, hlog⟩ := h.log.add hlen (by omega)
    have hok : commitOk (voteG G f l) C.D C.x = true := by unfold commitOk; rw [hR, hadd]; rfl
    have eC : putC C j { G := commitM (voteG (ofC C G).G f l) (ofC C G).D (ofC C G).x, m := delM (ofC C G).m (ofC C G).G.g, x := addXI (ofC C G).D (ofC C G).x (commitR (voteG (ofC C G).G f l)), D := commitD (voteG (ofC C G).G f l) (ofC C G).D (ofC C G).x } = ⟨C.gs.set j (commitG (voteG G f l)), delM C.m G.g, addXI C.D C.x (rcB (99, (j : Int) + 1, ss)), (addDI C.D C.x (rcB (99, (j : Int) + 1, ss))).sync⟩ := by
      show Ss.mk (C.gs.set j (commitM (voteG G f l) C.D C.x)) (delM C.m G.g) (addXI C.D C.x (commitR (voteG G f l))) (commitD (voteG G f l) C.D C.x) = _
      unfold commitM commitD
      rw [hok, hR]
      rfl
    have eS : commitS (voteG (ofC C G).G f l) (ofC C G).D (ofC C G).x = 4 := by
      show commitS (voteG G f l) C.D C.x = 4
      unfold commitS
      rw [hok]
      rfl
    rw [eC, eS]
    have hlog2 := hlog.sync
    have hstC : statG (commitG (voteG G f l)) = 1 := rfl
    refine ⟨A ++ (B ++ [(99, (j : Int) + 1, ss)]), [], ⟨?_, EndsOf.nil, cu_set h.cu ⟨.inr (.inl rfl), fun h0 => by have h0 : (3 : Int) = 1 := h0; omega, fun _ => rfl, fun _ => hkn, fun _ => ⟨ss, hss, (part_vote l f G).trans hpt⟩, (updV_len _ _ _).trans hcu.len⟩, hlog2, ?_, by show (C.gs.set j _).length ≤ _; rw [List.length_set]; omega⟩, Trs.set fun _ => ?_, ?_⟩
    · rw [← List.append_assoc]
      exact (h.good.ends h.endB).commit hj (by rw [← hG]; exact hcom) hss (by rw [← hG]; rfl) rfl ((part_vote l f G).trans hpt)
    · simp only [List.length_append, List.length_singleton, List.length_nil]
      omega
    · rw [← hG]
      refine ⟨fun h0 => absurd hst0 h0, fun h0 => by have h0 : (3 : Int) = 1 := h0; omega, fun _ => .inr ⟨hd, fun f' hf' => ?_⟩⟩
      have hp' : partAt (voteG G f l) f' = true := by rw [partAt_map, part_vote, ← partAt_map]; exact hf'
      rcases yes_vote (all_yesAt hz hp') with h1 | rfl
      · exact .inl h1
      · exact .inr (hv hs2)
    · refine outTo (.inr ⟨rfl, ?_⟩)
      show stat (C.gs.set j (commitG (voteG G f l))) G.g = 1
      rw [hg, statSet _ (by rw [← hG]; rfl)]
      rfl
  · rw [if_pos (show decide (((sites notYes (voteG (ofC C G).G f l)).length : Int) > 0) = true by show decide (((sites notYes (voteG G f l)).length : Int) > 0) = true; exact decide_eq_true (by omega)), if_pos (show decide (((sites notYes (voteG (ofC C G).G f l)).length : Int) > 0) = true by show decide (((sites notYes (voteG G f l)).length : Int) > 0) = true; exact decide_eq_true (by omega))]
    refine ⟨A, B, ⟨h.good.set fun _ => ⟨by rw [← hG]; rfl, by rw [← hG]; rfl, fun _ => by rw [← hG]; exact part_vote l f G⟩, h.endB.set fun _ h0 => (by rw [← hG, hcom] at h0; cases h0), cu_set h.cu (hcu.vote f l), h.log, by omega, by show (C.gs.set j _).length ≤ _; rw [List.length_set]; omega⟩, Trs.set fun _ => ?_, OutOk.nil⟩
    rw [← hG]
    refine ⟨fun h0 => absurd hst0 h0, fun _ => ⟨hd, part_vote l f G, fun f' hf' => ?_⟩, fun h0 => ?_⟩
    · rcases yes_vote hf' with h1 | rfl
      · exact .inl h1
      · exact .inr (hv hs2)
    · have h0 : statG G = 1 := h0
      rw [hst0] at h0
      omega
theorem St.done {A B : List Rc} {C : Ss RsT} {k : Nat} (h : St A B C k) (hk : k < 4096) {j : Nat} (hj : j < C.gs.length) (hd : C.gs[j].ph ≠ 1) (f : Nat) (v : Nat → Nat → Prop) :
    ∃ A' B', St A' B' (putC C j (doneC (ofC C C.gs[j]) f)) (k + 1) ∧ Trs v C.gs (putC C j (doneC (ofC C C.gs[j]) f)).gs := by
  have hcu := h.cu j hj
  have hg := h.good.num j hj
  have hf1 := h.few
  have hf2 := h.few2
  obtain ⟨G, hG⟩ : ∃ G, G = C.gs[j] := ⟨_, rfl⟩
  rw [← hG] at hcu hg hd ⊢
  by_cases h3 : G.ph = 3
  rotate_left
  · have e : putC C j (doneC (ofC C G) f) = C := by
      have e1 : doneM G f = G := by unfold doneM; rw [if_neg (by simpa using h3)]
      have e2 : ends G f = false := by unfold ends; rw [show (G.ph == 3) = false by simpa using h3]; rfl
      unfold putC doneC
      show Ss.mk (C.gs.set j (doneM G f)) C.m (doneX G f C.D C.x) (doneD G f C.D C.x) = C
      unfold doneX doneD
      rw [e1, e2, hG]
      simp only [List.set_getElem_self, Bool.false_eq_true, if_false]
    rw [e]
    exact ⟨A, B, ⟨h.good, h.endB, h.cu, h.log, by omega, by omega⟩, Trs.same _ _⟩
  have hcom := hcu.three h3
  have hM : (doneM G f).g = G.g ∧ (doneM G f).com = G.com ∧ (doneM G f).v.map (·.part) = G.v.map (·.part) ∧ (doneM G f).ph ≠ 1 := by
    unfold doneM
    split
    · split
      · exact ⟨rfl, rfl, part_done f G, by show (4 : Int) ≠ 1; decide⟩
      · exact ⟨rfl, rfl, part_done f G, hd⟩
    · exact ⟨rfl, rfl, rfl, hd⟩
  have hgood : Good A (C.gs.set j (doneM G f)) := h.good.set fun _ => by rw [← hG]; exact ⟨hM.1, hM.2.1, fun _ => hM.2.2.1⟩
  have hends : EndsOf (C.gs.set j (doneM G f)) B := h.endB.set fun _ _ => by rw [hM.2.1]; exact hcom
  have hcu2 : ∀ i (h : i < (C.gs.set j (doneM G f)).length), CuI (C.gs.set j (doneM G f))[i] := cu_set h.cu (hcu.done hcom f)
  have htr : Trs v C.gs (C.gs.set j (doneM G f)) := by
    refine Trs.set fun _ => ?_
    rw [← hG]
    have e1 : statG G = 1 := hcu.com_stat hcom
    have e2 : statG (doneM G f) = 1 := by unfold statG; rw [if_neg hM.2.2.2, if_pos (by rw [hM.2.1]; exact hcom)]
    exact ⟨fun _ => e2.trans e1.symm, fun h0 => absurd h0 hM.2.2.2, fun _ => .inl e1⟩
  by_cases he : ends G f = true
  · have eC : putC C j (doneC (ofC C G) f) = ⟨C.gs.set j (doneM G f), C.m, addXI C.D C.x (rcB (101, (j : Int) + 1, [])), addDI C.D C.x (rcB (101, (j : Int) + 1, []))⟩ := by
      show Ss.mk (C.gs.set j (doneM G f)) C.m (doneX G f C.D C.x) (doneD G f C.D C.x) = _
      unfold doneX doneD
      rw [he, show endR G.g = rcB (101, (j : Int) + 1, []) by rw [hg]; rfl]
      rfl
    rw [eC]
    obtain ⟨-, hlog⟩ := h.log.add (r := (101, (j : Int) + 1, [])) (show 5 ≤ 24 by decide) (by omega)
    refine ⟨A, B ++ [(101, (j : Int) + 1, [])], ⟨hgood, fun r hr => ?_, hcu2, hlog, ?_, by show (C.gs.set j _).length ≤ _; rw [List.length_set]; omega⟩, htr⟩
    · rcases List.mem_append.1 hr with hr | hr
      · exact hends r hr
      · rw [List.mem_singleton] at hr
        refine ⟨j, by show j < (C.gs.set j _).length; rw [List.length_set]; exact hj, hr, ?_⟩
        show ((C.gs.set j (doneM G f))[j]'(by rw [List.length_set]; exact hj)).com = true
        rw [List.getElem_set, if_pos rfl, hM.2.1]
        exact hcom
    · rw [List.length_append, List.length_singleton]
      omega
  · have eC : putC C j (doneC (ofC C G) f) = ⟨C.gs.set j (doneM G f), C.m, C.x, C.D⟩ := by
      show Ss.mk (C.gs.set j (doneM G f)) C.m (doneX G f C.D C.x) (doneD G f C.D C.x) = _
      unfold doneX doneD
      rw [if_neg he, if_neg he]
    rw [eC]
    exact ⟨A, B, ⟨hgood, hends, hcu2, h.log, by omega, by show (C.gs.set j _).length ≤ _; rw [List.length_set]; omega⟩, htr⟩
def votes (s f t g : Int) (i k : Nat) : Prop := s = 2 ∧ t = 0 ∧ g = (i : Int) + 1 ∧ f = (k : Int) ∧ 1 ≤ f ∧ f ≤ 3
theorem St.came {A B : List Rc} {C : Ss RsT} {k : Nat} (h : St A B C k) (hk : k < 4096) (s f t g : Int) (l : RsT) :
    ∃ A' B', St A' B' (cameS C s f t g l) (k + 1) ∧ Trs (votes s f t g) C.gs (cameS C s f t g l).gs ∧ OutOk C.gs (cameS C s f t g l).gs (cameO C s f t g l).1 := by
  have hf1 := h.few
  have hf2 := h.few2
  have same : ∀ {os : List PM}, OutOk C.gs C.gs os → ∃ A' B', St A' B' C (k + 1) ∧ Trs (votes s f t g) C.gs C.gs ∧ OutOk C.gs C.gs os := fun ho => ⟨A, B, ⟨h.good, h.endB, h.cu, h.log, by omega, by omega⟩, Trs.same _ _, ho⟩
  unfold cameS cameO
  by_cases hbad : badMsg f t g = true
  · rw [if_pos hbad, if_pos hbad]
    exact same OutOk.nil
  rw [if_neg hbad, if_neg hbad]
  by_cases hsay : (!sayOk s) = true
  · rw [if_pos hsay, if_pos hsay]
    exact same OutOk.nil
  rw [if_neg hsay, if_neg hsay]
  have hb : t = 0 ∧ 1 ≤ f ∧ f ≤ 3 := by
    unfold badMsg at hbad
    simp only [Bool.or_eq_true, bne_iff_ne, ne_eq, decide_eq_true_eq, beq_iff_eq, not_or] at hbad
    omega
  rcases h.good.num.cases g with ⟨-, hno⟩ | ⟨j, hj, rfl, hfd⟩
  · simp only [hno]
    refine same fun o ho => ?_
    split at ho
    · rw [List.mem_singleton] at ho
      subst ho
      exact .inl ⟨rfl, .inl hno⟩
    · cases ho
  simp only [hfd]
  have hcu := h.cu j hj
  have hstat := stat_at h.good.num hj
  unfold cameG cameGO
  by_cases hkp : (C.gs[j].kn && !partAt C.gs[j] f.toNat) = true
  · rw [if_pos hkp, if_pos hkp]
    exact same OutOk.nil
  rw [if_neg hkp, if_neg hkp]
  by_cases hph : C.gs[j].ph = 1
  · rw [if_pos (show (C.gs[j].ph == 1) = true by rw [hph]; rfl), if_pos (show (C.gs[j].ph == 1) = true by rw [hph]; rfl)]
    exact h.doing hk hj hph s f.toNat l fun h2 => ⟨h2, hb.1, rfl, by omega, hb.2⟩
  rw [if_neg (show ¬ (C.gs[j].ph == 1) = true by simpa using hph), if_neg (show ¬ (C.gs[j].ph == 1) = true by simpa using hph)]
  by_cases has : asks s = true
  · rw [if_pos has, if_pos has]
    refine same fun o ho => ?_
    rw [List.mem_singleton] at ho
    subst ho
    have hgj := h.good.num j hj
    cases hc : C.gs[j].com with
    | true =>
      refine .inr ⟨rfl, ?_⟩
      show stat C.gs C.gs[j].g = 1
      rw [hgj, hstat]
      exact hcu.com_stat hc
    | false =>
      refine .inl ⟨rfl, .inr ?_⟩
      show stat C.gs C.gs[j].g = 2
      rw [hgj, hstat]
      exact CuI.no_stat hph hc
  rw [if_neg has, if_neg has]
  by_cases h6 : (s == 6) = true
  · rw [if_pos h6]
    obtain ⟨A', B', h1, h2⟩ := h.done hk hj hph f.toNat (votes s f t ((j : Int) + 1))
    exact ⟨A', B', h1, h2, OutOk.nil⟩
  · rw [if_neg h6]
    exact same OutOk.nil
theorem LrI.cu {G : Gl RsT} (h : LrI G) : CuI G := by
  cases hc : G.com with
  | true =>
    obtain ⟨h1, h2, h3, ss, h4, h5⟩ := h.c hc
    refine ⟨.inr h2, fun h0 => by rcases h2 with h2 | h2 <;> omega, fun _ => hc, fun _ => h1, fun _ => ⟨ss, h4, by rw [h5]; rfl⟩, ?_⟩
    rw [h5]
    simp only [seven, List.mem_cons, List.not_mem_nil, or_false] at h4
    rcases h4 with rfl | rfl | rfl | rfl | rfl | rfl | rfl <;> rfl
  | false =>
    have e := h.o hc
    rw [e]
    exact ⟨.inr (.inr rfl), fun h0 => by have h0 : (4 : Int) = 1 := h0; omega, fun h0 => by have h0 : (4 : Int) = 3 := h0; omega, fun h0 => (by cases h0), fun h0 => (by cases h0), rfl⟩
theorem St.fail {A B : List Rc} {C : Ss RsT} {k : Nat} (h : St A B C k) (hk : k ≤ 4096) (keep torn : Int) (m : List (Int × Int)) :
    recsD (Dk.fail C.D keep torn) = (A ++ B.take (lead keep 0 B.length)).map rcB ∧ St (A ++ B.take (lead keep 0 B.length)) [] ⟨lrn (A ++ B.take (lead keep 0 B.length)), m, atD (Dk.fail C.D keep torn), openD (Dk.fail C.D keep torn)⟩ k ∧ Trs noV C.gs (lrn (A ++ B.take (lead keep 0 B.length))) ∧ ∀ i (h1 : i < (lrn (A ++ B.take (lead keep 0 B.length))).length) (h2 : i < C.gs.length), LrI (lrn (A ++ B.take (lead keep 0 B.length)))[i] ∧ RelG (lrn (A ++ B.take (lead keep 0 B.length)))[i] C.gs[i] := by
  have hf1 := h.few
  have hf2 := h.few2
  obtain ⟨l1, l2⟩ := h.log.fail (by omega) keep torn
  have hB : EndsOf C.gs (B.take (lead keep 0 B.length)) := fun r hr => h.endB r (List.mem_of_mem_take hr)
  have hg := h.good.ends hB
  have hl := hg.len
  refine ⟨l1, ⟨hg.self, EndsOf.nil, fun i hi => (hg.lr i hi).cu, l2, ?_, by show (lrn _).length ≤ _; omega⟩, ⟨hl, fun i h1 h2 => ?_⟩, fun i h1 h2 => ⟨hg.lr i h1, hg.rel i h1 h2⟩⟩
  · rw [List.length_append, List.length_take, List.length_nil]
    omega
  · have hL := hg.lr i h2
    have hR := hg.rel i h2 h1
    have hcu := h.cu i h1
    have hcL := hL.cu
    have hph : (lrn (A ++ B.take (lead keep 0 B.length)))[i].ph ≠ 1 := by
      cases hc : (lrn (A ++ B.take (lead keep 0 B.length)))[i].com with
      | true => rcases (hL.c hc).2.1 with h0 | h0 <;> omega
      | false => rw [hL.o hc]; show (4 : Int) ≠ 1; decide
    refine ⟨fun h0 => ?_, fun h0 => absurd h0 hph, fun h0 => ?_⟩
    · cases hc : C.gs[i].com with
      | true => rw [hcu.com_stat hc, hcL.com_stat (hR.com.trans hc)]
      | false =>
        have hp : C.gs[i].ph ≠ 1 := fun e => h0 (by unfold statG; rw [if_pos e])
        rw [CuI.no_stat hp hc, CuI.no_stat hph (hR.com.trans hc)]
    · cases hc : C.gs[i].com with
      | true => exact .inl (hcu.com_stat hc)
      | false =>
        rw [CuI.no_stat hph (hR.com.trans hc)] at h0
        omega
def gB (n : Int) (L : List Int) : Gl RsT := gl0 (newG zV n L)
theorem gB_is {L : List Int} (hL : L ∈ seven) (n : Int) : (gB n L).g = n ∧ (gB n L).ph = 1 ∧ (gB n L).com = false ∧ (gB n L).kn = true ∧ (gB n L).told = true ∧ (gB n L).v.map (·.part) = parts4 L ∧ (gB n L).v.length = 4 ∧ ∀ f, yesAt (gB n L) f = false := by
  refine ⟨rfl, rfl, rfl, rfl, rfl, ?_, ?_, fun f => ?_⟩
  all_goals
    simp only [seven, List.mem_cons, List.not_mem_nil, or_false] at hL
    rcases hL with rfl | rfl | rfl | rfl | rfl | rfl | rfl
  all_goals first
    | rfl
    | (match f with
       | 0 => rfl
       | 1 => rfl
       | 2 => rfl
       | 3 => rfl
       | f + 4 => rfl)
theorem St.begin_ {A B : List Rc} {C : Ss RsT} {k : Nat} (h : St A B C k) (hk : k < 4096) {L : List Int} (hL : L ∈ seven) (m : List (Int × Int)) :
    addEI C.D C.x (beginR ((C.gs.length : Int) + 1)) = 0 ∧ St (A ++ (B ++ [(98, (C.gs.length : Int) + 1, [])])) [] ⟨C.gs ++ [gB ((C.gs.length : Int) + 1) L], m, addXI C.D C.x (beginR ((C.gs.length : Int) + 1)), (addDI C.D C.x (beginR ((C.gs.length : Int) + 1))).sync⟩ (k + 1) := by
  have hf1 := h.few
  have hf2 := h.few2
  obtain ⟨q1, q2, q3, q4, q5, q6, q7, -⟩ := gB_is hL ((C.gs.length : Int) + 1)
  have e : beginR ((C.gs.length : Int) + 1) = rcB (98, (C.gs.length : Int) + 1, []) := rfl
  obtain ⟨a1, a2⟩ := h.log.add (r := (98, (C.gs.length : Int) + 1, [])) (show 5 ≤ 24 by decide) (by omega)
  rw [e]
  refine ⟨a1, ?_, EndsOf.nil, fun i hi => ?_, a2.sync, ?_, ?_⟩
  · rw [← List.append_assoc]
    exact (h.good.ends h.endB).begin_ (by omega) q1 q3
  · rw [List.length_append, List.length_singleton] at hi
    by_cases hl : i < C.gs.length
    · simp only [List.getElem_append_left hl]; exact h.cu i hl
    · have : i = C.gs.length := by omega
      subst this
      rw [List.getElem_append_right (Nat.le_refl _)]
      simp only [Nat.sub_self, List.getElem_cons_zero]
      exact ⟨.inl q2, fun _ => ⟨q3, q4, q5⟩, fun h0 => by rw [q2] at h0; omega, fun h0 => (by rw [q3] at h0; cases h0), fun _ => ⟨L, hL, q6⟩, q7⟩
  · simp only [List.length_append, List.length_singleton, List.length_nil]
    omega
  · simp only [List.length_append, List.length_singleton]
    omega
theorem St.start : St [] [] ⟨[], [], 0, D0⟩ 0 := ⟨Good.start, EndsOf.nil, fun i h => absurd h (Nat.not_lt_zero _), LgS.start, Nat.le_refl _, Nat.le_refl _⟩
end Go.Proofs.YticnjkdaccacaaaGreat.Sx
end
section
namespace Go.Proofs.YticnjkdaccacaaaGreat.Sx
open Go Go.RowKit Base _root_.Go.Proofs.YticnjkdaccacaaaGreat.Own OwnV Disk
section
variable {α : Type}
theorem beginV_len : ∀ (ss : List Int) (l : List (Vt α)), (beginV ss l).length = l.length := by
  intro ss
  induction ss with
  | nil => intro l; rfl
  | cons n ss ih =>
    intro l
    show (beginV ss (updV vPart n.toNat l)).length = _
    rw [ih, updV_len]
theorem beginV_in : ∀ {ss : List Int} {l : List (Vt α)} {v : Vt α}, v ∈ beginV ss l → ∃ u ∈ l, v.l = u.l := by
  intro ss
  induction ss with
  | nil => intro l v hv; exact ⟨v, hv, rfl⟩
  | cons n ss ih =>
    intro l v hv
    have hv : v ∈ beginV ss (updV vPart n.toNat l) := hv
    obtain ⟨u, hu, h1⟩ := ih hv
    rcases updV_mem hu with h2 | ⟨u2, h2, rfl⟩
    · exact ⟨u, h2, h1⟩
    · exact ⟨u2, h2, h1⟩
end
theorem beginV_0 : ∀ (ss : List Int) (l : List (Vt RawV)), (beginV ss l).map vt0 = beginV ss (l.map vt0) := by
  intro ss
  induction ss with
  | nil => intro l; rfl
  | cons n ss ih =>
    intro l
    show (beginV ss (updV vPart n.toNat l)).map vt0 = beginV ss (updV vPart n.toNat (l.map vt0))
    rw [ih, upd0 (f := vPart) (f' := vPart) (fun _ => rfl)]
theorem cmG_0 (G : Gl RawV) (ss : List Int) : gl0 (cmG G ss) = cmG (gl0 G) ss := by
  unfold gl0 cmG
  simp only [beginV_0]
theorem GlI.cm {G : Gl RawV} (h : GlI G) (ss : List Int) : GlI (cmG G ss) :=
  ⟨(beginV_len ss G.v).trans h.len, fun v hv => by
    obtain ⟨u, hu, e⟩ := beginV_in (show v ∈ beginV ss G.v from hv)
    rw [e]; exact h.few u hu⟩
theorem GlI.ov (g : Int) : GlI (ovG g) := ⟨rfl, fun v hv => by
  have : v = zV := by simpa [ovG] using hv
  rw [this]
  exact ⟨by decide, fun r hr => by cases hr⟩⟩
theorem find_gs {gs : Gs} {g : Int} {j : Nat} {G : Gl RsT} (h : findG (gs.map fun p => gl0 p.2) g = some (j, G)) : idxG (gs.map (·.2)) g = some j ∧ ∃ hj : j < gs.length, G = gl0 gs[j].2 := by
  unfold findG at h
  rw [idx0] at h
  cases hi : idxG (gs.map (·.2)) g with
  | none => rw [hi] at h; cases h
  | some i =>
    rw [hi, Option.bind_some, List.getElem?_map] at h
    obtain ⟨hj, -, -⟩ := lkG_at hi
    rw [List.getElem?_eq_getElem hj] at h
    simp only [Option.map_some, Option.some.injEq, Prod.mk.injEq] at h
    obtain ⟨rfl, rfl⟩ := h
    exact ⟨rfl, hj, rfl⟩
theorem part_cm {G : Gl RawV} (hv : (gl0 G).v = [hz0, hz0, hz0, hz0]) {ss : List Int} (hss : ss ∈ seven) : ∀ i (h : i < ss.length), partAt (cmG G (ss.take i)) ss[i].toNat = false := by
  intro i hi
  rw [← part0, cmG_0]
  unfold partAt cmG
  simp only [hv]
  have h3 : i = 0 ∨ i = 1 ∨ i = 2 := by have := (seven_len hss).2; omega
  simp only [seven, List.mem_cons, List.not_mem_nil, or_false] at hss
  rcases hss with rfl | rfl | rfl | rfl | rfl | rfl | rfl <;> rcases h3 with rfl | rfl | rfl <;> first | rfl | (exfalso; revert hi; decide)
section
variable {w w0 : World} {R : List Asn} {b bl bm bk bw bd : Nat} {last now x : Int} {m : List (Int × Int)} {gs : Gs} {D : Dk}
theorem learns_call {A : Option Addr} {c : Nat} {r : Rc} (hok : Ok1 (gs.map fun p => gl0 p.2) r) (hI : ∀ p ∈ gs, GlI p.2) (hR : ∀ w', Sat w0 w' R → Rk .u8 w' A (rcB r)) (hm : (rcB r).length ≤ c ∧ c ≤ maxLen) (S : Sat w0 w (chW b bl bm last bk bw now bd gs m x D R)) :
    Calls Tryz.prog 52 #[.pointer (some ⟨b, 0, none⟩), .slice A (rcB r).length c] w fun e w' => ∃ gs' : Gs, e = .returned (.bool true) ∧ (gs'.map fun p => gl0 p.2) = lrn1 (gs.map fun p => gl0 p.2) r ∧ (∀ p ∈ gs', GlI p.2) ∧ Sat w0 w' (chW b bl bm (lastR last r) bk bw now bd gs' m x D R) := by
  have hIs : ∀ (j : Nat) (p : Nat × Gl RawV), GlI p.2 → ∀ q ∈ gs.set j p, GlI q.2 := fun j p hp q hq => by
    rcases List.mem_or_eq_of_mem_set hq with hq | rfl
    · exact hI q hq
    · exact hp
  obtain ⟨wh, g, ss⟩ := r
  obtain ⟨hg, hcs⟩ := hok
  have hg : 1 ≤ g ∧ g ≤ 4294967295 := hg
  rcases hcs with ⟨h1, h2, hnew⟩ | ⟨j, G, hf, ⟨h1, h2⟩ | ⟨h1, hss, hv⟩⟩
  · have h1 : wh = 98 := h1
    have h2 : ss = [] := h2
    subst h1 h2
    refine (learns_begin (A := A) (c := c) (g := g) hg hR hm (fun p hp => hnew (gl0 p.2) (List.mem_map.2 ⟨p, hp, rfl⟩)) S).mono ?_
    rintro e w' ⟨bn, rfl, S⟩
    refine ⟨_, rfl, ?_, fun p hp => ?_, S⟩
    · rw [List.map_append]; rfl
    · rcases List.mem_append.1 hp with hp | hp
      · exact hI p hp
      · rw [List.mem_singleton] at hp; rw [hp]; exact GlI.ov g
  · have h1 : wh = 101 := h1
    have h2 : ss = [] := h2
    subst h1 h2
    have hf : findG (gs.map fun p => gl0 p.2) g = some (j, G) := hf
    obtain ⟨hi, hj, rfl⟩ := find_gs hf
    refine (learns_end (A := A) (c := c) (g := g) hg hR hm hi hj S).mono ?_
    rintro e w' ⟨rfl, S⟩
    refine ⟨gs.set j (gs[j].1, endG gs[j].2), rfl, ?_, hIs _ _ ((hI _ (List.getElem_mem hj)).same (G' := endG gs[j].2) rfl), S⟩
    unfold lrn1
    rw [if_neg (show ¬ (101 : Int) = 98 by decide)]
    simp only [hf]
    rw [List.map_set]
    rfl
  · have h1 : wh = 99 := h1
    have hss : ss ∈ seven := hss
    subst h1
    have hf : findG (gs.map fun p => gl0 p.2) g = some (j, G) := hf
    obtain ⟨hi, hj, rfl⟩ := find_gs hf
    have hs3 : ∀ z ∈ ss, 1 ≤ z ∧ z ≤ 3 := by
      intro z hz
      simp only [seven, List.mem_cons, List.not_mem_nil, or_false] at hss
      rcases hss with rfl | rfl | rfl | rfl | rfl | rfl | rfl <;> simp at hz <;> omega
    refine (learns_commit (A := A) (c := c) (g := g) (ss := ss) (seven_len hss) hs3 hg hR hm hi hj (hI _ (List.getElem_mem hj)) (part_cm hv hss) S).mono ?_
    rintro e w' ⟨rfl, S⟩
    refine ⟨gs.set j (gs[j].1, cmG gs[j].2 ss), rfl, ?_, hIs _ _ ((hI _ (List.getElem_mem hj)).cm ss), S⟩
    unfold lrn1
    rw [if_neg (show ¬ (99 : Int) = 98 by decide)]
    simp only [hf]
    rw [List.map_set]
    show List.set _ j (gl0 (cmG gs[j].2 ss)) = _
    rw [cmG_0]
    rfl
def rwX (A : Option Addr) (c : Nat) (rs : List Rw) : List Asn := rwsA 92 A c rs :: (rs.reverse.map fun r => ownA .u8 5 r.1 r.2.1 r.2.2)
theorem recs_open {A : Option Addr} {c : Nat} {ls : List (List Int)} (S : Sat w0 w (recsA .u8 92 5 A c ls :: R)) : ∃ rs : List Rw, rs.map (·.2.2) = ls ∧ Sat w0 w (rwX A c rs ++ R) := by
  obtain ⟨⟨rs, hrs⟩, S⟩ := S.ofEx
  have S := Sat.ofSep S
  have S := S.frontAt 1 rfl
  have S : Sat w0 w (allA (rs.reverse.map fun r => ownA .u8 5 r.1 r.2.1 r.2.2) :: rwsA 92 A c rs :: R) := S
  have S := Sat.ofAllT S
  exact ⟨rs, hrs, S.perm List.perm_middle⟩
theorem rw_read {A : Option Addr} {c : Nat} {rs : List Rw} (S : Sat w0 w (rwX A c rs ++ R)) {i : Nat} (hi : i < rs.length) : (∃ ad, A = some ad ∧ w.cell? (ad.add (i * 1)) = some (rwV rs[i])) ∧ Rk .u8 w rs[i].1 rs[i].2.2 ∧ rs[i].2.2.length ≤ rs[i].2.1 ∧ rs[i].2.1 ≤ maxLen := by
  have S : Sat w0 w (rwsA 92 A c rs :: ((rs.reverse.map fun r => ownA .u8 5 r.1 r.2.1 r.2.2) ++ R)) := S
  constructor
  · obtain ⟨F, h1, h2, h3⟩ := S.hd
    obtain ⟨A', c', e, h5, h6, h7, h8⟩ := h1.slice
    injection e with e1 e2 e3
    subst e1
    cases A with
    | none =>
      have h0 : rs.length = 0 := h7 rfl
      omega
    | some ad =>
      obtain ⟨g, rfl, h9, h10, h11, _⟩ := h8 ad rfl
      refine ⟨_, rfl, ?_⟩
      have := h11 i (rwV rs[i]) (by rw [List.getElem?_map, List.getElem?_eq_getElem hi]; rfl)
      rw [Nat.zero_add] at this
      rw [addr0, Nat.mul_one]
      exact this
  · have hm : ownA .u8 5 rs[i].1 rs[i].2.1 rs[i].2.2 ∈ (rwsA 92 A c rs :: ((rs.reverse.map fun r => ownA .u8 5 r.1 r.2.1 r.2.2) ++ R)) :=
      List.mem_cons_of_mem _ (List.mem_append_left _ (List.mem_map.2 ⟨rs[i], List.mem_reverse.2 (List.getElem_mem hi), rfl⟩))
    obtain ⟨k, hk⟩ := List.getElem?_of_mem hm
    exact (S.frontAt k hk).own
set_option maxRecDepth 100000 in
set_option maxHeartbeats 4000000 in
theorem chnew_call {d : Nat} {L : List Rc} (hr : recsD D = L.map rcB) (hok : OkL L) (hwt : D.waits.length ≤ 100000000) (hfew : L.length ≤ 100000) (S : Sat w0 w (diskA d D :: R)) :
    Calls Tryz.prog 18 #[.pointer (some ⟨d, 0, none⟩)] w fun e w' => ∃ (b bl bm bk bw : Nat) (gs : Gs), e = .returned (.tuple #[.pointer (some ⟨b, 0, none⟩), .int .i64 0]) ∧ (gs.map fun p => gl0 p.2) = lrn L ∧ (∀ p ∈ gs, GlI p.2) ∧ Sat w0 w' (chW b bl bm (lastL L) bk bw 0 d gs [] (atD D) (openD D) R) := by
  refine calls_start (N := 36) [.pointer (some ⟨d, 0, none⟩)] Tryz.func18 rfl rfl rfl rfl fun a fr => ?_
  skip; (repeat (with_reducible refine wp_seq ?_)); refine wp_region_lit ?_
  (repeat (refine wl_run orcHn_ok 1 rfl fr fun a fr => ?_))
  refine wpList_nil ?_; (repeat (with_reducible refine then_n ?_))
  skip; (repeat (with_reducible refine wp_seq ?_)); refine wp_region_lit ?_
  (repeat (refine wl_run orcHn_ok 1 rfl fr fun a fr => ?_))
  refine wl_call fr rfl rfl rfl rfl enOpen (open_call S hwt) ?_
  rintro _ w1 ⟨bl, A, c, rfl, hv, S⟩
  have hln : (recsD D).length = L.length := by rw [hr, List.length_map]
  refine ⟨_, rfl, hv, fun a fr => ?_⟩
  rw [hln] at fr
  (repeat (refine wl_run orcHn_ok 1 rfl fr fun a fr => ?_))
  refine wpList_nil ?_; (repeat (with_reducible refine then_n ?_))
  skip; (repeat (with_reducible refine wp_seq ?_)); refine wp_region_lit ?_
  (repeat (refine wl_run orcHn_ok 1 rfl fr fun a fr => ?_))
  refine wpList_nil ?_; (repeat (with_reducible refine then_n ?_))
  skip; (repeat (with_reducible refine wp_seq ?_))
  refine cw_f fr rfl ?_
  refine wp_skip ?_
  (with_reducible refine then_n ?_)
  skip; (repeat (with_reducible refine wp_seq ?_)); refine wp_region_lit ?_
  (repeat (refine wl_run orcHn_ok 1 rfl fr fun a fr => ?_))
  refine wl_mkmap .u32 ptO fr rfl rfl rfl rfl S ?_
  intro w2 bm S a fr
  refine wl_call fr rfl rfl rfl rfl enCkNew (clk_new S) ?_
  rintro _ w3 ⟨bk, bw, rfl, S⟩
  refine ⟨_, rfl, rfl, fun a fr => ?_⟩
  refine wl_build (cs := [.pointer (some ⟨bl, 0, none⟩), .map (some bm), .int .u32 0, .pointer (some ⟨bk, 0, none⟩)]) (L2 := [(0, .pointer (some ⟨bl, 0, none⟩)), (1, .map (some bm)), (3, .pointer (some ⟨bk, 0, none⟩))]) fr rfl rfl rfl rfl (by simp; exact ⟨(fr.ev (o := .tmp 19) rfl).1, (fr.ev (o := .tmp 20) rfl).1, (fr.ev (o := .tmp 21) rfl).1⟩) (by kernel_rfl) rfl fun a fr => ?_
  refine wl_boxs fr rfl rfl rfl rfl rfl rfl S ?_
  intro w4 b S a fr
  (repeat (refine wl_run orcHn_ok 1 rfl fr fun a fr => ?_))
  refine wpList_nil ?_; (repeat (with_reducible refine then_n ?_))
  have S := (((((((S.frontAt 3 rfl).frontAt 3 rfl).frontAt 3 rfl).frontAt 6 rfl).frontAt 5 rfl).frontAt 5 rfl).frontAt 6 rfl)
  obtain ⟨rs, hrs, S⟩ := recs_open S
  have hrl : rs.length = L.length := by have := congrArg List.length hrs; rw [hr] at this; simpa using this
  have hS0 : Sat w0 w4 (chW b bl bm 0 bk bw 0 d [] [] (atD D) (openD D) (rwX A c rs ++ R)) := by
    refine S.perm ?_
    show (rwX A c rs ++ ([_, _, _, _, _, _] ++ R)).Perm ([_, _, _, _, _, _] ++ (rwX A c rs ++ R))
    rw [← List.append_assoc, ← List.append_assoc]
    exact List.Perm.append_right R List.perm_append_comm
  clear S
  skip; (repeat (with_reducible refine wp_seq ?_)); refine wp_region_lit ?_
  (repeat (refine wl_run orcHn_ok 1 rfl fr fun a fr => ?_))
  refine wpList_nil ?_; (repeat (with_reducible refine then_n ?_))
  skip; (repeat (with_reducible refine wp_seq ?_))
  refine wp_block ?_
  refine cw_loop (fun q a w2 => ∃ (i : Nat) (gs : Gs), i + q = L.length + 1 ∧ i ≤ L.length ∧ (gs.map fun p => gl0 p.2) = lrn (L.take i) ∧ (∀ p ∈ gs, GlI p.2) ∧ Fr 36 a [(7, .pointer (some ⟨b, 0, none⟩)), (24, .slice A L.length c), (25, .int .i64 (L.length : Int)), (26, .int .i64 (i : Int))] ∧ Sat w0 w2 (chW b bl bm (lastL (L.take i)) bk bw 0 d gs [] (atD D) (openD D) (rwX A c rs ++ R))) (L.length + 1)
    ⟨0, [], by omega, by omega, rfl, fun p hp => (by cases hp), fr.sub ⟨rfl, rfl, rfl, rfl, trivial⟩, hS0⟩ ?_ ?_
  · rintro a w2 ⟨i, gs, h, h', -⟩
    omega
  clear fr hS0
  rintro q a w5 ⟨i, gs, hi, hi', hgs, hI, fr, S⟩
  skip; (repeat (with_reducible refine wp_seq ?_)); refine wp_region_lit ?_
  (repeat (refine wl_run orcHn_ok 1 rfl fr fun a fr => ?_))
  refine wpList_nil ?_; (repeat (with_reducible refine then_n ?_))
  by_cases hlt : i < L.length
  · have fr := fr.bool (d := 27) rfl (decide_eq_true (show (i : Int) < (L.length : Int) by omega))
    skip; (repeat (with_reducible refine wp_seq ?_))
    refine cw_t fr rfl ?_
    refine wp_skip ?_
    (with_reducible refine then_n ?_)
    have hir : i < rs.length := by omega
    have hrec : rs[i].2.2 = rcB L[i] := by
      have h9 : (rs.map (·.2.2))[i]? = (L.map rcB)[i]? := by rw [hrs, hr]
      rw [List.getElem?_map, List.getElem?_map, List.getElem?_eq_getElem hir, List.getElem?_eq_getElem hlt] at h9
      simpa using h9
    obtain ⟨hcell, -, hm⟩ := rw_read (Sat.past S) hir
    have hRk : ∀ w', Sat w0 w' (rwX A c rs ++ R) → Rk .u8 w' rs[i].1 (rcB L[i]) := fun w' S' => by rw [← hrec]; exact (rw_read S' hir).2.1
    rw [hrec] at hm
    have hval : rwV rs[i] = .slice rs[i].1 (rcB L[i]).length rs[i].2.1 := by rw [← hrec]; rfl
    rw [hval] at hcell
    generalize rs[i].1 = A' at hcell hRk
    generalize rs[i].2.1 = c' at hcell hm
    skip; (repeat (with_reducible refine wp_seq ?_))
    refine wp_block ?_
    skip; (repeat (with_reducible refine wp_seq ?_)); refine wp_region_lit ?_
    refine wl_ldc orcHn_ok (i := (i : Int)) hcell (vok_sl hm) fr rfl rfl rfl rfl rfl rfl rfl rfl rfl rfl rfl rfl rfl rfl rfl ⟨by omega, by omega⟩ fun a fr => ?_
    (repeat (refine wl_run orcHn_ok 1 rfl fr fun a fr => ?_))
    refine wpList_nil ?_; (repeat (with_reducible refine then_n ?_))
    have hk1 := hok i hlt
    rw [← hgs] at hk1
    skip; (repeat (with_reducible refine wp_seq ?_)); refine wp_region_lit ?_
    (repeat (refine wl_run orcHn_ok 1 rfl fr fun a fr => ?_))
    refine wl_call fr rfl rfl rfl rfl enLearns (learns_call (A := A') (c := c') hk1 hI hRk hm S) ?_
    rintro _ w6 ⟨gs', rfl, hgs', hI', S⟩
    refine ⟨_, rfl, rfl, fun a fr => ?_⟩
    (repeat (refine wl_run orcHn_ok 1 rfl fr fun a fr => ?_))
    refine wpList_nil ?_; (repeat (with_reducible refine then_n ?_))
    skip; (repeat (with_reducible refine wp_seq ?_))
    refine cw_f fr rfl ?_
    refine wp_skip ?_
    (repeat (first | (with_reducible refine then_n ?_) | (with_reducible refine blk_n ?_)))
    skip; (repeat (with_reducible refine wp_seq ?_)); refine wp_region_lit ?_
    (repeat (refine wl_run orcHn_ok 1 rfl fr fun a fr => ?_))
    refine wpList_nil ?_; (repeat (with_reducible refine then_n ?_))
    have fr := fr.spell (d := 26) rfl (congrArg (Value.int .i64) (i64_next hlt (by omega)))
    have htk : L.take (i + 1) = L.take i ++ [L[i]] := List.take_succ_eq_append_getElem hlt
    refine ⟨i + 1, gs', by omega, by omega, ?_, hI', fr.sub ⟨rfl, rfl, rfl, rfl, trivial⟩, ?_⟩
    · rw [htk, lrn_snoc, hgs', hgs]
    · rw [htk, lastL_snoc]; exact S
  have fr := fr.bool (d := 27) rfl (decide_eq_false (show ¬ (i : Int) < (L.length : Int) by omega))
  obtain rfl : i = L.length := by omega
  rw [List.take_length] at hgs S
  skip; (repeat (with_reducible refine wp_seq ?_))
  refine cw_f fr rfl ?_
  refine wp_exit ?_
  skip; (repeat (first | (with_reducible refine then_e ?_) | (with_reducible refine ng_e ?_) | (with_reducible refine blk_e (by decide) ?_))); (with_reducible refine blk_y ?_); (repeat (with_reducible refine then_n ?_))
  skip; (repeat (with_reducible refine wp_seq ?_)); refine wp_region_lit ?_
  (repeat (refine wl_run orcHn_ok 1 rfl fr fun a fr => ?_))
  refine wpList_nil ?_; (repeat (with_reducible refine then_n ?_))
  refine wp_ret ?_
  refine ret2 fr rfl rfl rfl ⟨b, bl, bm, bk, bw, gs, rfl, hgs, hI, ?_⟩
  have hp : (chW b bl bm (lastL L) bk bw 0 d gs [] (atD D) (openD D) (rwX A c rs ++ R)).Perm (rwX A c rs ++ chW b bl bm (lastL L) bk bw 0 d gs [] (atD D) (openD D) R) := by
    show ((chS b bl bm (lastL L) bk :: logA bl d (atD D) :: diskA d (openD D) :: ckS bk bw 0 :: ckM bw [] :: glM bm gs :: gsT gs) ++ (rwX A c rs ++ R)).Perm (rwX A c rs ++ ((chS b bl bm (lastL L) bk :: logA bl d (atD D) :: diskA d (openD D) :: ckS bk bw 0 :: ckM bw [] :: glM bm gs :: gsT gs) ++ R))
    rw [← List.append_assoc, ← List.append_assoc]
    exact List.Perm.append_right R List.perm_append_comm
  exact Sat.lastsT _ (S.perm hp)
end
end Go.Proofs.YticnjkdaccacaaaGreat.Sx
end
