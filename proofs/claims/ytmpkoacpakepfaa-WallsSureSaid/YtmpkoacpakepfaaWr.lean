/- What is left of a log's disk that fails: its records up to some one, and no more than there were. -/
import Derived.Test.YtmpkoacpakepfaaWq
namespace Go.Proofs.Ytmpkoacpakepfaa.Sx
open Go Go.RowKit Base Own Disk Bytes

/-- A sector of a write that is kept, or not, or torn. -/
def mixS (keep torn : Int) (i : Nat) (c o : List Int) : List Int := if Disk.kept keep i = true then c.take (Disk.part torn i) ++ o.drop (Disk.part torn i) else o
def mixes (keep torn : Int) : Nat → List (List Int) → List (List Int) → List (List Int)
  | _, [], old => old
  | _, _ :: _, [] => []
  | i, c :: cs, o :: old => mixS keep torn i c o :: mixes keep torn (i + 1) cs old
section
variable {keep torn : Int}
theorem mixes_len : ∀ (cs old : List (List Int)) (i : Nat), cs.length ≤ old.length → (mixes keep torn i cs old).length = old.length := by
  intro cs
  induction cs with
  | nil => intro old i _; rfl
  | cons c cs ih =>
    intro old i h
    cases old with
    | nil => simp at h
    | cons o old =>
      rw [mixes, List.length_cons, List.length_cons, ih old (i + 1) (by simpa using h)]
theorem mixes_snoc : ∀ (cs old : List (List Int)) (i : Nat) (c : List Int), cs.length < old.length → mixes keep torn i (cs ++ [c]) old = (mixes keep torn i cs old).set cs.length (mixS keep torn (i + cs.length) c (old.getD cs.length [])) ∧ (mixes keep torn i cs old).getD cs.length [] = old.getD cs.length [] := by
  intro cs
  induction cs with
  | nil =>
    intro old i c h
    cases old with
    | nil => simp at h
    | cons o old => exact ⟨rfl, rfl⟩
  | cons d cs ih =>
    intro old i c h
    cases old with
    | nil => simp at h
    | cons o old =>
      obtain ⟨h1, h2⟩ := ih old (i + 1) c (by simpa using h)
      rw [List.cons_append, mixes, mixes, h1, List.length_cons, List.set_cons_succ, show i + 1 + cs.length = i + (cs.length + 1) by omega, List.getD_cons_succ, List.getD_cons_succ]
      exact ⟨rfl, h2⟩
theorem mixes_app : ∀ (a o1 : List (List Int)) (i : Nat) (b o2 : List (List Int)), a.length = o1.length → mixes keep torn i (a ++ b) (o1 ++ o2) = mixes keep torn i a o1 ++ mixes keep torn (i + a.length) b o2 := by
  intro a
  induction a with
  | nil =>
    intro o1 i b o2 h
    have : o1 = [] := List.eq_nil_of_length_eq_zero (by simpa using h.symm)
    subst this
    rfl
  | cons c a ih =>
    intro o1 i b o2 h
    cases o1 with
    | nil => simp at h
    | cons o o1 =>
      rw [List.cons_append, List.cons_append, mixes, mixes, ih o1 (i + 1) b o2 (by simpa using h), List.cons_append, List.length_cons, show i + 1 + a.length = i + (a.length + 1) by omega]
theorem failK_mix (s cs : List (List Int)) (x : Nat) (hx : x + cs.length ≤ s.length) : ∀ m, m ≤ cs.length → failK keep torn s (wl x cs) m = s.take x ++ mixes keep torn 0 (cs.take m) (s.drop x) := by
  intro m
  induction m with
  | zero => intro _; rw [failK, List.take_zero, mixes, List.take_append_drop]
  | succ m ih =>
    intro hm
    have hlt : m < cs.length := by omega
    have l1 : (s.take x).length = x := by rw [List.length_take]; omega
    have l2 : (cs.take m).length = m := by rw [List.length_take]; omega
    have ld : (s.drop x).length = s.length - x := List.length_drop
    obtain ⟨q1, q2⟩ := mixes_snoc (keep := keep) (torn := torn) (cs.take m) (s.drop x) 0 cs[m] (by omega)
    have hml := mixes_len (keep := keep) (torn := torn) (cs.take m) (s.drop x) 0 (by omega)
    rw [l2, Nat.zero_add] at q1
    rw [l2] at q2
    rw [failK, wl_at, List.getElem?_eq_getElem hlt]
    simp only [Option.map_some]
    rw [ih (by omega), List.take_succ_eq_append_getElem hlt, q1]
    have hget : (s.take x ++ mixes keep torn 0 (cs.take m) (s.drop x)).getD (x + m) [] = (s.drop x).getD m [] := by
      rw [← q2, List.getD_eq_getElem?_getD, List.getD_eq_getElem?_getD, List.getElem?_append_right (by omega), l1, show x + m - x = m by omega]
    unfold Disk.step mixS
    rw [Int.toNat_natCast, hget]
    split
    · rw [List.set_append_right _ _ (by omega), l1, show x + m - x = m by omega]
    · congr 1
      have hi : m < (mixes keep torn 0 (cs.take m) (s.drop x)).length := by omega
      have : (mixes keep torn 0 (cs.take m) (s.drop x))[m] = (s.drop x).getD m [] := by
        rw [← q2, List.getD_eq_getElem?_getD, List.getElem?_eq_getElem hi]; rfl
      rw [← this, List.set_getElem_self]
theorem mixes_64 : ∀ (cs old : List (List Int)) (i : Nat), (∀ p ∈ cs, p.length = 64) → (∀ p ∈ old, p.length = 64) → ∀ p ∈ mixes keep torn i cs old, p.length = 64 := by
  intro cs
  induction cs with
  | nil => intro old i _ ho; exact ho
  | cons c cs ih =>
    intro old i hc ho
    cases old with
    | nil => intro p hp; cases hp
    | cons o old =>
      intro p hp
      rw [mixes] at hp
      rcases List.mem_cons.1 hp with rfl | hp
      · have h1 := hc c List.mem_cons_self
        have h2 := ho o List.mem_cons_self
        unfold mixS
        split
        · rw [List.length_append, List.length_take, List.length_drop]
          have : Disk.part torn i ≤ 64 := by unfold Disk.part; split <;> decide
          omega
        · exact h2
      · exact ih old (i + 1) (fun q hq => hc q (List.mem_cons_of_mem _ hq)) (fun q hq => ho q (List.mem_cons_of_mem _ hq)) p hp
end
theorem flat_len64' : ∀ l : List (List Int), (∀ p ∈ l, p.length = 64) → l.flatten.length = l.length * 64 := by
  intro l
  induction l with
  | nil => intro _; rfl
  | cons p l ih => intro hp; rw [List.flatten_cons, List.length_append, ih (fun q hq => hp q (List.mem_cons_of_mem _ hq)), hp p List.mem_cons_self, List.length_cons]; omega
theorem get_zero64' {b : List Int} (hb : b.take 64 = List.replicate 64 0) : Frames.get b = none := by
  have hv : ∀ k, k ≤ 64 → Frames.val b k = 0 := by
    intro k
    induction k with
    | zero => intro _; rfl
    | succ k ih =>
      intro hk
      rw [Frames.val, ih (by omega)]
      have : b.getD k 0 = (b.take 64).getD k 0 := by
        rw [List.getD_eq_getElem?_getD, List.getD_eq_getElem?_getD, List.getElem?_take, if_pos (by omega)]
      rw [this, hb, List.getD_eq_getElem?_getD, List.getElem?_replicate, if_pos (by omega)]
      rfl
  unfold Frames.get
  rw [hv 4 (by decide)]
  split
  · rfl
  · rw [if_neg (by decide)]
    have h0 : Frames.nsec (Int.toNat 0) * 64 = 64 := rfl
    rw [h0]
    split
    · rfl
    · have e : Int.toNat 0 = 0 := rfl
      rw [if_neg]
      rw [e, List.take_zero, hb]
      exact put_nil
theorem val_take {a b : List Int} (h : a.take 8 = b.take 8) : ∀ k, k ≤ 8 → Frames.val a k = Frames.val b k := by
  intro k
  induction k with
  | zero => intro _; rfl
  | succ k ih =>
    intro hk
    have g : ∀ l : List Int, l.getD k 0 = (l.take 8).getD k 0 := fun l => by
      rw [List.getD_eq_getElem?_getD, List.getD_eq_getElem?_getD, List.getElem?_take, if_pos (by omega)]
    rw [Frames.val, Frames.val, ih (by omega), g a, g b, h]
/-- The head tells how many sectors a record takes, whatever stands behind it. -/
theorem get_head {b r : List Int} (hr : r.length ≤ 16384) (h : b.take 8 = (Frames.put r).take 8) {q : List Int} {m : Nat} (hg : Frames.get b = some (q, m)) : m = Frames.nsec r.length := by
  have hv : Frames.val b 4 = r.length := by
    rw [val_take h 4 (by decide)]
    have := Frames.put_val r [] hr
    rwa [List.append_nil] at this
  unfold Frames.get at hg
  rw [hv, Int.toNat_natCast] at hg
  split at hg
  · cases hg
  split at hg
  · cases hg
  split at hg
  · cases hg
  split at hg
  · injection hg with hg; injection hg with _ hg; exact hg.symm
  · cases hg
theorem parse_mixed {keep torn : Int} : ∀ (B : List (List Int)) (i q k : Nat), (∀ r ∈ B, r.length ≤ 16384) → lenS B ≤ q → (parse k (mixes keep torn i (fsecs B) (zs q)).flatten).length ≤ B.length ∧ secs (parse k (mixes keep torn i (fsecs B) (zs q)).flatten) ≤ lenS B := by
  intro B
  induction B with
  | nil =>
    intro i q k _ _
    have : parse k (mixes keep torn i (fsecs []) (zs q)).flatten = [] := by
      show parse k (zs q).flatten = []
      cases k with
      | zero => rfl
      | succ k => rw [zs_flat, parse, get_zeros]
    rw [this]
    exact ⟨Nat.le_refl _, Nat.le_refl _⟩
  | cons r B ih =>
    intro i q k hr hq
    have e2 : lenS (r :: B) = Frames.nsec r.length + lenS B := by simp [lenS]
    have hnp := nsec_pos r.length
    cases k with
    | zero => exact ⟨Nat.zero_le _, Nat.zero_le _⟩
    | succ k =>
      have hz : zs q = zs (Frames.nsec r.length) ++ zs (q - Frames.nsec r.length) := by rw [zs_add]; congr 1; omega
      have hzl : (zs (Frames.nsec r.length)).length = Frames.nsec r.length := List.length_replicate
      have hm : mixes keep torn i (fsecs (r :: B)) (zs q) = mixes keep torn i (fsec r) (zs (Frames.nsec r.length)) ++ mixes keep torn (i + (fsec r).length) (fsecs B) (zs (q - Frames.nsec r.length)) := by
        rw [hz, show fsecs (r :: B) = fsec r ++ fsecs B by simp [fsecs], mixes_app _ _ _ _ _ (by rw [fsec_len, hzl])]
      obtain ⟨F, hF⟩ : ∃ F, F = mixes keep torn i (fsec r) (zs (Frames.nsec r.length)) := ⟨_, rfl⟩
      have hFl : F.length = Frames.nsec r.length := by rw [hF, mixes_len _ _ _ (by rw [fsec_len, hzl]; exact Nat.le_refl _), hzl]
      have hF64 : ∀ p ∈ F, p.length = 64 := by
        rw [hF]
        exact mixes_64 _ _ _ (chunks_64 _ _ (Frames.put_length r)) (fun p hp => by rw [List.eq_of_mem_replicate hp]; exact List.length_replicate)
      have hFf := flat_len64' F hF64
      obtain ⟨G, hG⟩ : ∃ G, G = mixes keep torn (i + (fsec r).length) (fsecs B) (zs (q - Frames.nsec r.length)) := ⟨_, rfl⟩
      rw [hm, ← hF, ← hG, List.flatten_append]
      have hfirst : ∃ t, F = mixS keep torn i ((Frames.put r).take 64) (List.replicate 64 0) :: t := by
        obtain ⟨n, hn⟩ : ∃ n, Frames.nsec r.length = n + 1 := ⟨Frames.nsec r.length - 1, by omega⟩
        rw [hF]
        unfold fsec zs
        rw [hn, chunks, List.replicate_succ, mixes]
        exact ⟨_, rfl⟩
      obtain ⟨t, ht⟩ := hfirst
      rw [parse]
      cases hg : Frames.get (F.flatten ++ G.flatten) with
      | none => exact ⟨Nat.zero_le _, Nat.zero_le _⟩
      | some p =>
        obtain ⟨w, m⟩ := p
        have hpl : 64 ≤ (Frames.put r).length := by rw [Frames.put_length]; omega
        by_cases hk : Disk.kept keep i = true
        · have hhead : (F.flatten ++ G.flatten).take 8 = (Frames.put r).take 8 := by
            rw [ht, List.flatten_cons, List.append_assoc]
            unfold mixS
            rw [if_pos hk]
            have hp8 : 8 ≤ Disk.part torn i ∧ Disk.part torn i ≤ 64 := by unfold Disk.part; split <;> exact ⟨by decide, by decide⟩
            rw [List.append_assoc, List.take_append_of_le_length (by rw [List.length_take, List.length_take]; omega), List.take_take, List.take_take]
            congr 1
            omega
          have hmm := get_head (hr r List.mem_cons_self) hhead hg
          subst hmm
          have hd : (F.flatten ++ G.flatten).drop (Frames.nsec r.length * 64) = G.flatten := by rw [← hFl, ← hFf, List.drop_left]
          obtain ⟨i1, i2⟩ := ih (i + (fsec r).length) (q - Frames.nsec r.length) k (fun x hx => hr x (List.mem_cons_of_mem _ hx)) (by omega)
          rw [← hG] at i1 i2
          simp only
          rw [hd, e2]
          have es : secs ((w, Frames.nsec r.length) :: parse k G.flatten) = Frames.nsec r.length + secs (parse k G.flatten) := by unfold secs; simp
          rw [es, List.length_cons, List.length_cons]
          exact ⟨by omega, by omega⟩
        · have hz64 : (F.flatten ++ G.flatten).take 64 = List.replicate 64 0 := by
            rw [ht, List.flatten_cons, List.append_assoc]
            unfold mixS
            rw [if_neg hk, List.take_append_of_le_length (by rw [List.length_replicate]; exact Nat.le_refl _), List.take_of_length_le (by rw [List.length_replicate]; exact Nat.le_refl _)]
          rw [get_zero64' hz64] at hg
          cases hg
theorem parse_pre : ∀ (A : List (List Int)) (rest : List Int) (k : Nat), (∀ r ∈ A, r.length ≤ 16384) → parse (A.length + k) ((fsecs A).flatten ++ rest) = (A.map fun r => (r, Frames.nsec r.length)) ++ parse k rest := by
  intro A
  induction A with
  | nil => intro rest k _; show parse (0 + k) ([] ++ rest) = _; rw [Nat.zero_add]; rfl
  | cons r A ih =>
    intro rest k hl
    have e : (fsecs (r :: A)).flatten ++ rest = Frames.put r ++ ((fsecs A).flatten ++ rest) := by
      rw [show fsecs (r :: A) = fsec r ++ fsecs A by simp [fsecs], List.flatten_append, fsec_flat, List.append_assoc]
    rw [e, List.length_cons, show A.length + 1 + k = (A.length + k) + 1 by omega, parse, Frames.get_put r _ (hl r List.mem_cons_self)]
    simp only
    rw [← Frames.put_length, List.drop_left, ih rest k (fun q hq => hl q (List.mem_cons_of_mem _ hq))]
    rfl
/-- A disk that failed: the records that were forced are there, and no more than there were. -/
theorem crash {D : Dk} {n : Nat} {A B : List (List Int)} (keep torn : Int) (hA : ∀ r ∈ A, r.length ≤ 16384) (hB : ∀ r ∈ B, r.length ≤ 16384) (hn : lenS A + lenS B ≤ n) (hs : D.sure = fsecs A ++ zs (n - lenS A)) (hw : D.waits = wl (lenS A) (fsecs B)) :
    (∀ p ∈ (Dk.fail D keep torn).seen, p.length = 64) ∧ (Dk.fail D keep torn).seen.length = n ∧ (∃ P, recsD (Dk.fail D keep torn) = A ++ P ∧ P.length ≤ B.length) ∧ atD (Dk.fail D keep torn) ≤ lenS A + lenS B := by
  have hsl : D.sure.length = n := by rw [hs, List.length_append, fsecs_len, zs, List.length_replicate]; omega
  have hseen : (Dk.fail D keep torn).seen = fsecs A ++ mixes keep torn 0 (fsecs B) (zs (n - lenS A)) := by
    show failK keep torn D.sure D.waits D.waits.length = _
    rw [hw, wl_len, failK_mix D.sure (fsecs B) (lenS A) (by rw [hsl, fsecs_len]; exact hn) _ (Nat.le_refl _), List.take_length, hs, ← fsecs_len, List.take_left, List.drop_left]
  have hzl : (zs (n - lenS A)).length = n - lenS A := List.length_replicate
  have h64 : ∀ p ∈ (Dk.fail D keep torn).seen, p.length = 64 := by
    intro p hp
    rw [hseen] at hp
    rcases List.mem_append.1 hp with hp | hp
    · exact fsecs_64 A p hp
    · exact mixes_64 _ _ _ (fsecs_64 B) (fun p hp => by rw [List.eq_of_mem_replicate hp]; exact List.length_replicate) p hp
  have hlen : (Dk.fail D keep torn).seen.length = n := by
    rw [hseen, List.length_append, mixes_len _ _ _ (by rw [fsecs_len, hzl]; omega), fsecs_len, hzl]; omega
  have hfl := flat_len64' _ h64
  have hge := lenS_ge A
  obtain ⟨k, hk⟩ : ∃ k, (Dk.fail D keep torn).seen.flatten.length + 1 = A.length + k := ⟨(Dk.fail D keep torn).seen.flatten.length + 1 - A.length, by omega⟩
  have hf : found (Dk.fail D keep torn) = (A.map fun r => (r, Frames.nsec r.length)) ++ parse k (mixes keep torn 0 (fsecs B) (zs (n - lenS A))).flatten := by
    unfold Sx.found
    rw [hk, hseen, List.flatten_append]
    exact parse_pre A _ k hA
  obtain ⟨p1, p2⟩ := parse_mixed (keep := keep) (torn := torn) B 0 (n - lenS A) k hB (by omega)
  refine ⟨h64, hlen, ⟨(parse k (mixes keep torn 0 (fsecs B) (zs (n - lenS A))).flatten).map (·.1), ?_, ?_⟩, ?_⟩
  · unfold recsD
    rw [hf, List.map_append, List.map_map]
    congr 1
    show A.map (fun r => r) = A
    exact List.map_id' A
  · rw [List.length_map]; exact p1
  · unfold atD
    rw [hf]
    have : secs ((A.map fun r => (r, Frames.nsec r.length)) ++ parse k (mixes keep torn 0 (fsecs B) (zs (n - lenS A))).flatten) = lenS A + secs (parse k (mixes keep torn 0 (fsecs B) (zs (n - lenS A))).flatten) := by
      unfold secs lenS
      rw [List.map_append, List.sum_append, List.map_map]; rfl
    rw [this]; omega
end Go.Proofs.Ytmpkoacpakepfaa.Sx
