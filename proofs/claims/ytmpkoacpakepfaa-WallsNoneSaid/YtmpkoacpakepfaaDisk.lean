/- A disk: what it is in memory, and its simple calls. -/
import Derived.Test.YtmpkoacpakepfaaBytes
import Derived.Test.YtmpkoacpakepfaaOwnV
namespace Go.Proofs.Ytmpkoacpakepfaa.Disk
open Go.RowKit Base Own OwnV Bytes

def Pc (p : List Int) : Prop := p.length = 64 ∧ Bts p
def pcs (l : List (List Int)) : List Value := l.flatten.map (Value.int .u8)
def wcs (l : List (Int × List Int)) : List Value := l.flatMap fun x => .int .i64 x.1 :: x.2.map (Value.int .u8)
structure Dk where
  sure : List (List Int)
  seen : List (List Int)
  waits : List (Int × List Int)
structure Dk.ok (D : Dk) : Prop where
  same : D.sure.length = D.seen.length
  pos : 1 ≤ D.seen.length
  most : D.seen.length ≤ 4096
  sure : ∀ p ∈ D.sure, Pc p
  seen : ∀ p ∈ D.seen, Pc p
  waits : ∀ x ∈ D.waits, Pc x.2 ∧ 0 ≤ x.1 ∧ x.1 < D.seen.length
/-- The blocks of a disk. -/
structure Lies (w : World) (B d : Nat) (S E W : Value) (D : Dk) : Prop where
  cells : w.heap[d]? = some (.cells #[S, E, W] 40 (0, 0))
  base : B ≤ d
  sure : RowV w B 72 64 S D.sure.length (pcs D.sure)
  seen : RowV w B 72 64 E D.seen.length (pcs D.seen)
  waits : RowV w B 74 65 W D.waits.length (wcs D.waits)
  s0 : S.ownBlock ≠ some d
  e0 : E.ownBlock ≠ some d
  w0 : W.ownBlock ≠ some d
  se : S.ownBlock ≠ E.ownBlock
  sw : Sep W S
  ew : Sep W E
  ok : D.ok
def blocks (d : Nat) (S E W : Value) (k : Nat) : Prop := k = d ∨ some k = S.ownBlock ∨ some k = E.ownBlock ∨ some k = W.ownBlock
def Disk (w : World) (B d : Nat) (F : Nat → Prop) (D : Dk) : Prop := ∃ S E W, Lies w B d S E W D ∧ ∀ k, F k ↔ blocks d S E W k
section
variable {w w' : World} {B d : Nat} {S E W : Value} {D : Dk} {F G : Nat → Prop}
theorem Lies.kept (h : Lies w B d S E W D) (hc : Chg G w w') (hG : ∀ k, blocks d S E W k → ¬ G k) : Lies w' B d S E W D :=
  { h with
    cells := by rw [hc.block d (Array.getElem?_eq_some_iff.1 h.cells).1 (hG d (.inl rfl))]; exact h.cells
    sure := h.sure.kept hc fun g hg => hG g (.inr (.inl hg.symm))
    seen := h.seen.kept hc fun g hg => hG g (.inr (.inr (.inl hg.symm)))
    waits := h.waits.kept hc fun g hg => hG g (.inr (.inr (.inr hg.symm))) }
theorem Disk.kept (h : Disk w B d F D) (hc : Chg G w w') (hG : ∀ k, F k → ¬ G k) : Disk w' B d F D := by
  obtain ⟨S, E, W, h1, h2⟩ := h
  exact ⟨S, E, W, h1.kept hc fun k hk => hG k ((h2 k).2 hk), h2⟩
theorem Disk.new (h : Disk w B d F D) (hb : Below w.heap.size w w') : Disk w' B d F D := h.kept (Chg.of_new hb) fun _ _ h => h
theorem Disk.lt (h : Disk w B d F D) : ∀ k, F k → B ≤ k ∧ k < w.heap.size := by
  obtain ⟨S, E, W, h1, h2⟩ := h
  intro k hk
  rcases (h2 k).1 hk with rfl | e | e | e
  · exact ⟨h1.base, (Array.getElem?_eq_some_iff.1 h1.cells).1⟩
  · exact h1.sure.lt k e.symm
  · exact h1.seen.lt k e.symm
  · exact h1.waits.lt k e.symm
theorem Disk.ok (h : Disk w B d F D) : D.ok := by obtain ⟨S, E, W, h1, _⟩ := h; exact h1.ok
theorem Disk.lower {B' : Nat} (h : Disk w B d F D) (hB : B' ≤ B) : Disk w B' d F D := by
  obtain ⟨S, E, W, h1, h2⟩ := h
  exact ⟨S, E, W, { h1 with base := Nat.le_trans hB h1.base, sure := h1.sure.lower hB, seen := h1.seen.lower hB, waits := h1.waits.lower hB }, h2⟩
theorem Lies.cell (h : Lies w B d S E W D) : w.cell? ⟨d, 0, none⟩ = some S ∧ w.cell? ⟨d, 1, none⟩ = some E ∧ w.cell? ⟨d, 2, none⟩ = some W := by
  refine ⟨?_, ?_, ?_⟩ <;> (rw [cell_of_row _ _ _ _ _ _ h.cells]; rfl)
end
theorem size {w : World} {B d : Nat} {F : Nat → Prop} {D : Dk} (h : Disk w B d F D) : Calls Try.prog 28 #[.pointer (some ⟨d, 0, none⟩)] w fun e w' => e = .returned (.int .i64 D.seen.length) ∧ w' = w := by
  obtain ⟨S, E, W, h1, _⟩ := h
  obtain ⟨A, c, rfl, -, -, -, -⟩ := h1.sure.slice
  have hc := h1.cell.1
  have he := h1.ok.same
  clear h1
  go_enter Try.func28, Try.ntmps28
  go_wp2
  go_ret
  exact ⟨rfl, rfl⟩
theorem waits {w : World} {B d : Nat} {F : Nat → Prop} {D : Dk} (h : Disk w B d F D) : Calls Try.prog 21 #[.pointer (some ⟨d, 0, none⟩)] w fun e w' => e = .returned (.int .i64 D.waits.length) ∧ w' = w := by
  obtain ⟨S, E, W, h1, _⟩ := h
  obtain ⟨A, c, rfl, -, -, -, -⟩ := h1.waits.slice
  have hc := h1.cell.2.2
  clear h1
  go_enter Try.func21, Try.ntmps21
  go_wp2
  go_ret
  exact ⟨rfl, rfl⟩
def mayOk (n : Nat) (x : Int) : Int := if 0 ≤ x ∧ x < n then 0 else 1
theorem may {w : World} {B d : Nat} {F : Nat → Prop} {D : Dk} (h : Disk w B d F D) (x : Int) : Calls Try.prog 33 #[.pointer (some ⟨d, 0, none⟩), .int .i64 x] w fun e w' => e = .returned (.int .i64 (mayOk D.seen.length x)) ∧ w' = w := by
  have H := Lib.hid h
  have hp := h.ok.pos
  clear h
  obtain ⟨n, hn⟩ : ∃ n, n = D.seen.length := ⟨_, rfl⟩
  have hsz : ∀ W, W = w → Calls Try.prog 28 #[.pointer (some ⟨d, 0, none⟩)] W fun e w' => e = .returned (.int .i64 n) ∧ w' = w := fun W e => by rw [e, hn]; exact size H.out
  rw [← hn] at hp ⊢
  have hz : ((n : Int) == 0) = false := by rw [beq_eq_false_iff_ne]; omega
  have HS := Lib.hid hsz
  clear hn hsz hp
  by_cases h0 : x < 0
  · have : mayOk n x = 1 := by unfold mayOk; rw [if_neg (by omega)]
    rw [this]
    clear this
    go_enter Try.func33, Try.ntmps33
    go_wp2_with fail
    refine (HS.out _ rfl).mono ?_
    rintro e w' ⟨rfl, rfl⟩
    go_wp2
    go_ret
    exact ⟨rfl, rfl⟩
  · by_cases h1 : x < n
    · have : mayOk n x = 0 := by unfold mayOk; rw [if_pos (by omega)]
      rw [this]
      clear this
      go_enter Try.func33, Try.ntmps33
      go_wp2_with fail
      refine (HS.out _ rfl).mono ?_
      rintro e w' ⟨rfl, rfl⟩
      go_wp2_with fail
      refine (HS.out _ rfl).mono ?_
      rintro e w' ⟨rfl, rfl⟩
      go_wp2
      go_ret
      exact ⟨rfl, rfl⟩
    · have : mayOk n x = 1 := by unfold mayOk; rw [if_neg (by omega)]
      rw [this]
      clear this
      go_enter Try.func33, Try.ntmps33
      go_wp2_with fail
      refine (HS.out _ rfl).mono ?_
      rintro e w' ⟨rfl, rfl⟩
      go_wp2_with fail
      refine (HS.out _ rfl).mono ?_
      rintro e w' ⟨rfl, rfl⟩
      go_wp2
      go_ret
      exact ⟨rfl, rfl⟩
theorem pcs_length {l : List (List Int)} (h : ∀ p ∈ l, Pc p) : (pcs l).length = l.length * 64 := by
  unfold pcs
  rw [List.length_map]
  induction l with
  | nil => rfl
  | cons p l ih =>
    rw [List.flatten_cons, List.length_append, ih (fun q hq => h q (List.mem_cons_of_mem _ hq)), (h p (List.mem_cons_self)).1, List.length_cons]; omega
theorem flat_get : ∀ (l : List (List Int)) (i j : Nat), (∀ p ∈ l, p.length = 64) → i < l.length → j < 64 → l.flatten[i * 64 + j]? = (l.getD i [])[j]? := by
  intro l
  induction l with
  | nil => intro i j _ h; simp at h
  | cons p l ih =>
    intro i j hp hi hj
    have h64 := hp p (List.mem_cons_self)
    rw [List.flatten_cons, List.getElem?_append, h64]
    cases i with
    | zero => rw [if_pos (by omega)]; simp
    | succ i =>
      rw [if_neg (by omega), show (i + 1) * 64 + j - 64 = i * 64 + j by omega, ih i j (fun q hq => hp q (List.mem_cons_of_mem _ hq)) (by simpa using hi) hj]; rfl
/-- One piece of a row of them reads as its bytes. -/
theorem piece_rd {w : World} {g : Nat} {l : List (List Int)} (hg : g < w.heap.size) (h : w.rangeAt g 0 (pcs l)) (hp : ∀ p ∈ l, Pc p) {i : Nat} (hi : i < l.length) : Rd .u8 w (some ⟨g, i * 64, none⟩) (l.getD i []) := by
  intro _
  have h64 : (l.getD i []).length = 64 := by rw [List.getD_eq_getElem?_getD, List.getElem?_eq_getElem hi]; exact (hp _ (List.getElem_mem hi)).1
  refine ⟨_, rfl, hg, fun j hj => ?_⟩
  rw [h64] at hj
  have h1 := flat_get l i j (fun p hp' => (hp p hp').1) hi hj
  have h2 := h (i * 64 + j) (.int .u8 ((l.getD i []).getD j 0)) (by
    unfold pcs
    rw [List.getElem?_map, h1, List.getElem?_eq_getElem (by omega), List.getD_eq_getElem?_getD (l := l.getD i []), List.getElem?_eq_getElem (by omega)]; rfl)
  rw [Nat.zero_add] at h2
  have e : (⟨g, i * 64, none⟩ : Addr).add j = ⟨g, i * 64 + j, none⟩ := Addr.add_mid _ _ _
  rw [e]; exact h2
theorem read {w : World} {B d : Nat} {F : Nat → Prop} {D : Dk} (h : Disk w B d F D) (x : Int) :
    Calls Try.prog 23 #[.pointer (some ⟨d, 0, none⟩), .int .i64 x] w fun e w' => (∃ v, e = .returned (.tuple #[v, .int .i64 (mayOk D.seen.length x)]) ∧ (mayOk D.seen.length x = 1 → v = .slice none 0 0) ∧ (mayOk D.seen.length x = 0 → OwnI .u8 w' w.heap.size 5 v (D.seen.getD x.toNat []))) ∧ Below w.heap.size w w' := by
  have H := Lib.hid h
  clear h
  by_cases hx : 0 ≤ x ∧ x < D.seen.length
  · have hm : mayOk D.seen.length x = 0 := by unfold mayOk; rw [if_pos hx]
    rw [hm]
    obtain ⟨S, E, W, h1, h2⟩ := H.out
    obtain ⟨A, c, rfl, -, -, hA, hA2⟩ := h1.seen.slice
    cases A with
    | none => have := hA rfl; omega
    | some ad =>
      obtain ⟨g, rfl, hB, hg, hr, -⟩ := hA2 _ rfl
      obtain ⟨i, rfl⟩ : ∃ i : Nat, x = i := ⟨x.toNat, by omega⟩
      have hi : i < D.seen.length := by omega
      have hrd := piece_rd hg hr h1.ok.seen hi
      have h64 : (D.seen.getD i []).length = 64 := by rw [List.getD_eq_getElem?_getD, List.getElem?_eq_getElem hi]; exact (h1.ok.seen _ (List.getElem_mem hi)).1
      have HR := Lib.hid (And.intro hrd h64)
      have hc1 := h1.cell.2.1
      have hmost := h1.ok.most
      clear hrd h64 hr hA hA2 h1 h2
      go_enter Try.func23, Try.ntmps23
      go_wp2_with fail
      refine (may H.out (i : Int)).mono ?_
      rw [hm]
      clear hm
      rintro e w' ⟨rfl, h⟩
      subst h
      go_wp2_with fail
      refine (clone (some ⟨g, i * 64, none⟩) 64 64 (D.seen.getD i []) w' HR.out.2 (by decide) (.inl (by simp)) HR.out.1).mono ?_
      rintro e w2 ⟨v, rfl, o2, b2⟩
      have H2 := Lib.hid (And.intro o2 b2)
      clear o2 b2 hc1
      go_wp2
      go_ret2
      exact ⟨⟨_, rfl, fun h => absurd h (by decide), fun _ => H2.out.1⟩, H2.out.2⟩
  · have hm : mayOk D.seen.length x = 1 := by unfold mayOk; rw [if_neg hx]
    rw [hm]
    clear hx
    go_enter Try.func23, Try.ntmps23
    go_wp2_with fail
    refine (may H.out x).mono ?_
    rw [hm]
    clear hm
    rintro e w' ⟨rfl, h⟩
    subst h
    go_wp2
    go_ret2
    exact ⟨⟨_, rfl, fun _ => rfl, fun h => by cases h⟩, Below.refl _ _⟩
/-- Bytes with noughts behind them. -/
def pad (b : List Int) : List Int := b ++ List.replicate (64 - b.length) 0
theorem pad_pc {b : List Int} (h : b.length ≤ 64) (hb : Bts b) : Pc (pad b) := ⟨by unfold pad; simp; omega, hb.append (Bts.zeros _)⟩
theorem pad_splice {b : List Int} (h : b.length ≤ 64) : splice (List.replicate 64 0) 0 b = pad b := by
  unfold splice pad
  rw [List.take_zero, List.nil_append, Nat.zero_add, List.drop_replicate]
def Dk.write (D : Dk) (x : Int) (p : List Int) : Dk := { D with seen := D.seen.set x.toNat p, waits := D.waits ++ [(x, p)] }
theorem Dk.ok.write {D : Dk} (h : D.ok) {x : Int} {p : List Int} (hx : 0 ≤ x ∧ x < D.seen.length) (hp : Pc p) : (D.write x p).ok where
  same := by simp [Dk.write, h.same]
  pos := by simp [Dk.write]; exact h.pos
  most := by simp [Dk.write]; exact h.most
  sure := h.sure
  seen := fun q hq => by
    rcases List.mem_or_eq_of_mem_set hq with h1 | h1
    · exact h.seen q h1
    · subst h1; exact hp
  waits := fun y hy => by
    rcases List.mem_append.1 hy with h1 | h1
    · have := h.waits y h1
      simp [Dk.write]; exact this
    · simp at h1; subst h1; simp [Dk.write]; exact ⟨hp, hx⟩
theorem pcs_set {l : List (List Int)} (h : ∀ p ∈ l, Pc p) {i : Nat} (hi : i < l.length) {q : List Int} (hq : Pc q) : splice (pcs l) (i * 64) (q.map (Value.int .u8)) = pcs (l.set i q) := by
  have hl := pcs_length h
  apply List.ext_getElem?
  intro k
  rw [splice_get _ _ _ (by rw [hl, List.length_map, hq.1]; omega), List.length_map, hq.1]
  have h2 : ∀ p ∈ l.set i q, Pc p := fun p hp => by
    rcases List.mem_or_eq_of_mem_set hp with h1 | h1
    · exact h p h1
    · subst h1; exact hq
  by_cases hk : k < l.length * 64
  · obtain ⟨a, b, rfl, hb⟩ : ∃ a b, k = a * 64 + b ∧ b < 64 := ⟨k / 64, k % 64, by omega, by omega⟩
    unfold pcs
    rw [List.getElem?_map, List.getElem?_map, List.getElem?_map, flat_get _ _ _ (fun p hp => (h2 p hp).1) (by rw [List.length_set]; omega) hb, flat_get _ _ _ (fun p hp => (h p hp).1) (by omega) hb]
    by_cases e : a = i
    · subst e
      rw [if_pos (by omega), show a * 64 + b - a * 64 = b by omega, List.getD_eq_getElem?_getD, List.getElem?_set_self hi]; rfl
    · rw [if_neg (by omega), List.getD_eq_getElem?_getD, List.getD_eq_getElem?_getD, List.getElem?_set_ne (Ne.symm e)]
  · rw [if_neg (by omega), List.getElem?_eq_none (by omega), List.getElem?_eq_none (by rw [pcs_length h2, List.length_set]; omega)]
theorem Dk.ok.set {D : Dk} (h : D.ok) {i : Nat} {p : List Int} (hp : Pc p) : ({ D with seen := D.seen.set i p } : Dk).ok where
  same := by simp [h.same]
  pos := by simp; exact h.pos
  most := by simp; exact h.most
  sure := h.sure
  seen := fun q hq => by
    rcases List.mem_or_eq_of_mem_set hq with h1 | h1
    · exact h.seen q h1
    · subst h1; exact hp
  waits := fun y hy => by simpa using h.waits y hy
/-- One piece of what is seen is written over. -/
theorem Lies.set {w : World} {B d g n c : Nat} {S W : Value} {D : Dk} (h : Lies w B d S (.slice (some ⟨g, 0, none⟩) n c) W D) {i : Nat} {p : List Int} (hi : i < D.seen.length) (hp : Pc p) :
    Lies (w.setCells g (i * 64) (p.map (Value.int .u8))) B d S (.slice (some ⟨g, 0, none⟩) n c) W { D with seen := D.seen.set i p } := by
  have hc := chg_setCells g (p.map (Value.int .u8)) (i * 64) w
  have hn : n = D.seen.length := by
    obtain ⟨A, c', e, -⟩ := h.seen.slice
    injection e
  have h1 := h.seen
  rw [hn] at h1
  have h2 := h1.set (i * 64) (p.map (Value.int .u8)) (by rw [List.length_map, hp.1]; omega)
  rw [pcs_set h.ok.seen hi hp] at h2
  exact { h with
    cells := by rw [hc.block d (Array.getElem?_eq_some_iff.1 h.cells).1 (fun e => h.e0 (by rw [e]; rfl))]; exact h.cells
    sure := h.sure.kept hc fun k hk e => h.se (by rw [hk, e]; rfl)
    seen := by show RowV _ _ _ _ _ (D.seen.set i p).length _; rw [List.length_set, hn]; exact h2
    waits := h.waits.kept hc fun k hk e => h.ew k hk (by rw [e]; rfl)
    ok := h.ok.set hp }
theorem wcs_append (l : List (Int × List Int)) (x : Int) (p : List Int) : wcs (l ++ [(x, p)]) = wcs l ++ (.int .i64 x :: p.map (Value.int .u8)) := by simp [wcs]
def writeCode (n : Nat) (x : Int) (b : List Int) : Int := if mayOk n x = 1 ∨ 64 < b.length then 1 else 0

theorem built_fill (L : List (Nat × Value)) : Try.prog.built 74 L = Instr.fill (([(0, 1), (1, 64)] : List (Nat × Nat)).toArray[·]?) (.int .i64 0 :: List.replicate 64 (.int .u8 0)).toArray L := by kernel_rfl
theorem built_write (x : Int) (Pv : List Value) (h : Pv.length = 64) : Try.prog.built 74 [(0, .int .i64 x), (1, .agg Pv.toArray)] = some (Value.int .i64 x :: Pv).toArray := by
  rw [built_fill, fill_step _ _ 0 0 1 _ _ rfl rfl (by simp), fill_step _ _ 1 1 64 _ _ rfl (by simpa [Value.cells] using h) (by simp [splice, Value.cells]), Instr.fill]
  congr 1
  simp [splice, Value.cells]
  omega
end Go.Proofs.Ytmpkoacpakepfaa.Disk
