/- What is left of a disk. -/
import Derived.Test.YtmpkoacpakepfaaDiskSync
namespace Go.Proofs.Ytmpkoacpakepfaa.Disk
open Go.RowKit Base Own OwnV Bytes

/-- slices.Clone of pieces. -/
theorem clonep (g n c : Nat) (l : List (List Int)) (w : World) (hn : l.length = n) (h1 : n ≤ 4096) (hp : ∀ p ∈ l, Pc p) (hr : w.rangeAt g 0 (pcs l)) :
    Calls Try.prog 32 #[.slice (some ⟨g, 0, none⟩) n c] w fun e w' => ∃ v, e = .returned v ∧ RowV w' w.heap.size 72 64 v n (pcs l) ∧ Below w.heap.size w w' := by
  have hq : ∀ (W : World) (a : Option Addr) (n c n' c' : Nat), (binOp .eql 37 (.slice a n c) (.slice none n' c')).run Try.prog W = .ok (.bool a.isNone) W := fun W a n c n' c' => Lib.run_eql_slice_nil W _ _ a n c n' c' Try.underlying37
  have HR := Lib.hid (And.intro hr (pcs_length hp))
  have HE := Lib.hid (show Below w.heap.size w (w.alloc (.cells #[] 72)) ∧ RowV (w.alloc (.cells #[] 72)) w.heap.size 72 64 (.slice (some ⟨w.heap.size, 0, none⟩) 0 0) 0 [] from
    ⟨(Below.refl _ _).alloc (Nat.le_refl _) _, RowV.made (B := w.heap.size) w 72 64 0 #[] (Nat.le_refl _) rfl (Nat.zero_le _)⟩)
  clear hr
  go_enter Try.func32, Try.ntmps32
  go_wp2_with (at_builtin; refine wpList_plain rfl fun K hK => ?_; refine apv_wp (bytes := 64) Try.underlying37 (by kernel_rfl) (by decide) HE.out.2 HE.out.1.size ⟨g, 0, none⟩ n c (pcs l) (by rw [HR.out.2, hn]) (fun j u hu => by
      have h2 := HR.out.1 j u hu
      rw [Addr.add_mid, HE.out.1.cell (p := ⟨g, 0 + j, none⟩) (World.block_lt_of_cell? w _ h2)]; exact h2) pcs_one (by simp only [maxLen]; omega) (by omega) (.tmp 5) (.tmp 6) rfl rfl rfl ?_; intro v2 w2 own2 gr2 _; have H2 := Lib.hid (And.intro own2 gr2); clear own2 gr2; refine hK _ _ ?_)
  go_ret
  refine ⟨_, rfl, ?_, HE.out.1.grown H2.out.2 HE.out.1.size (fun k hk => (HE.out.2.lt k hk).1)⟩
  have h := H2.out.1
  rw [List.nil_append, Nat.zero_add] at h
  exact h
def kept (keep : Int) (i : Nat) : Bool := decide (keep / (2 : Int) ^ (min i 64) % 2 = 1)
def part (torn : Int) (i : Nat) : Nat := if (i : Int) = torn then 32 else 64
def step (keep torn : Int) (s : List (List Int)) (i : Nat) (x : Int × List Int) : List (List Int) :=
  if kept keep i then s.set x.1.toNat (x.2.take (part torn i) ++ (s.getD x.1.toNat []).drop (part torn i)) else s
def failK (keep torn : Int) (s : List (List Int)) (ws : List (Int × List Int)) : Nat → List (List Int)
  | 0 => s
  | k + 1 => match ws[k]? with
    | none => failK keep torn s ws k
    | some x => step keep torn (failK keep torn s ws k) k x
def Dk.fail (D : Dk) (keep torn : Int) : Dk := ⟨failK keep torn D.sure D.waits D.waits.length, failK keep torn D.sure D.waits D.waits.length, []⟩
theorem step_pc {keep torn : Int} {s : List (List Int)} {i : Nat} {x : Int × List Int} (hs : ∀ p ∈ s, Pc p) (hx : Pc x.2) (h0 : x.1.toNat < s.length) : (step keep torn s i x).length = s.length ∧ ∀ p ∈ step keep torn s i x, Pc p := by
  unfold step
  split
  · refine ⟨List.length_set .., fun p hp => ?_⟩
    rcases List.mem_or_eq_of_mem_set hp with h | h
    · exact hs p h
    · subst h
      have h1 : Pc (s.getD x.1.toNat []) := by rw [List.getD_eq_getElem?_getD, List.getElem?_eq_getElem h0]; exact hs _ (List.getElem_mem h0)
      refine ⟨?_, (hx.2.take _).append (h1.2.drop _)⟩
      rw [List.length_append, List.length_take, List.length_drop, hx.1, h1.1]
      unfold part; split <;> omega
  · exact ⟨rfl, hs⟩
theorem failK_pc {D : Dk} (h : D.ok) (keep torn : Int) : ∀ k, (failK keep torn D.sure D.waits k).length = D.seen.length ∧ ∀ p ∈ failK keep torn D.sure D.waits k, Pc p := by
  intro k
  induction k with
  | zero => exact ⟨h.same, h.sure⟩
  | succ k ih =>
    unfold failK
    cases hw : D.waits[k]? with
    | none => exact ih
    | some x =>
      have hx := h.waits x (List.mem_of_getElem? hw)
      have h2 := step_pc (keep := keep) (torn := torn) (i := k) ih.2 hx.1 (by rw [ih.1]; omega)
      exact ⟨h2.1.trans ih.1, h2.2⟩
theorem Dk.ok.fail {D : Dk} (h : D.ok) (keep torn : Int) : (D.fail keep torn).ok := by
  have h2 := failK_pc h keep torn D.waits.length
  exact ⟨rfl, by show 1 ≤ (failK keep torn D.sure D.waits D.waits.length).length; rw [h2.1]; exact h.pos, by show (failK keep torn D.sure D.waits D.waits.length).length ≤ 4096; rw [h2.1]; exact h.most, h2.2, h2.2, fun x hx => by simp [Dk.fail] at hx⟩
theorem wcs_get : ∀ (ws : List (Int × List Int)) (i j : Nat) (x : Int × List Int), (∀ y ∈ ws, y.2.length = 64) → ws[i]? = some x → j < 65 → (wcs ws)[i * 65 + j]? = (Value.int .i64 x.1 :: x.2.map (Value.int .u8))[j]? := by
  intro ws
  induction ws with
  | nil => intro i j x _ h; simp at h
  | cons y ws ih =>
    intro i j x hp hi hj
    have h64 := hp y (List.mem_cons_self)
    have e : wcs (y :: ws) = (Value.int .i64 y.1 :: y.2.map (Value.int .u8)) ++ wcs ws := by simp [wcs]
    have hl : (Value.int .i64 y.1 :: y.2.map (Value.int .u8)).length = 65 := by simp [h64]
    rw [e, List.getElem?_append, hl]
    cases i with
    | zero =>
      simp at hi; subst hi
      rw [if_pos (by omega)]; congr 1; omega
    | succ i =>
      rw [if_neg (by omega), show (i + 1) * 65 + j - 65 = i * 65 + j by omega]
      exact ih i j x (fun q hq => hp q (List.mem_cons_of_mem _ hq)) (by simpa using hi) hj

theorem part_pc {p q : List Int} (hp : Pc p) (hq : Pc q) {M : Nat} (hM : M ≤ 64) : Pc (q.take M ++ p.drop M) :=
  ⟨by rw [List.length_append, List.length_take, List.length_drop, hq.1, hp.1]; omega, (hq.2.take _).append (hp.2.drop _)⟩
theorem pcs_part {s : List (List Int)} (h : ∀ p ∈ s, Pc p) {i : Nat} (hi : i < s.length) {q : List Int} (hq : Pc q) {M : Nat} (hM : M ≤ 64) :
    splice (pcs s) (i * 64) ((q.take M).map (Value.int .u8)) = pcs (s.set i (q.take M ++ (s.getD i []).drop M)) := by
  have hp : Pc (s.getD i []) := by rw [List.getD_eq_getElem?_getD, List.getElem?_eq_getElem hi]; exact h _ (List.getElem_mem hi)
  have hr := part_pc hp hq hM
  have hl := pcs_length h
  rw [← pcs_set h hi hr]
  have h1 : ((q.take M).map (Value.int .u8)).length = M := by rw [List.length_map, List.length_take, hq.1]; omega
  have h2 : ((q.take M ++ (s.getD i []).drop M).map (Value.int .u8)).length = 64 := by rw [List.length_map, hr.1]
  apply List.ext_getElem?
  intro k
  rw [splice_get _ _ _ (by rw [hl, h1]; omega), splice_get _ _ _ (by rw [hl, h2]; omega), h1, h2]
  by_cases hk : i * 64 ≤ k ∧ k < i * 64 + M
  · rw [if_pos hk, if_pos (by omega), List.map_append, List.getElem?_append_left (by rw [h1]; omega)]
  · rw [if_neg hk]
    by_cases hk2 : i * 64 ≤ k ∧ k < i * 64 + 64
    · rw [if_pos hk2, List.map_append, List.getElem?_append_right (by rw [h1]; omega), h1]
      have h3 := flat_get s i (k - i * 64) (fun p hp => (h p hp).1) hi (by omega)
      rw [show i * 64 + (k - i * 64) = k by omega] at h3
      unfold pcs
      rw [List.getElem?_map, h3, List.getElem?_map, List.getElem?_drop, show M + (k - i * 64 - M) = k - i * 64 by omega]
    · rw [if_neg hk2]
theorem and_one (x : Int) (h0 : 0 ≤ x) (h1 : x < 18446744073709551616) : bits .and .u64 x 1 = x % 2 := by
  have e1 : ∀ y : Int, 0 ≤ y → y < 18446744073709551616 → (BitVec.ofInt 64 y).toNat = y.toNat := fun y a b => by rw [BitVec.toNat_ofInt]; simp; omega
  unfold bits; show IntKind.u64.wrap ((BitVec.ofInt 64 x &&& BitVec.ofInt 64 1).toNat : Int) = _
  rw [BitVec.toNat_and, e1 _ h0 h1, e1 _ (by omega) (by omega), show (1 : Int).toNat = 1 from rfl, Nat.and_one_is_mod, IntKind.wrap_u64]
  omega
theorem kept_bit (keep : Int) (h0 : 0 ≤ keep) (h1 : keep < 18446744073709551616) (k : Nat) : (bits .and .u64 (keep / (2 : Int) ^ (if (64 : Int) < (k : Int) then (64 : Int) else (k : Int)).toNat) 1 == 0) = !kept keep k := by
  have e : (if (64 : Int) < (k : Int) then (64 : Int) else (k : Int)).toNat = min k 64 := by split <;> omega
  rw [e]
  have hp : (1 : Int) ≤ 2 ^ (min k 64) := by
    have : (0 : Int) < 2 ^ (min k 64) := Int.pow_pos (by decide)
    omega
  have hq0 : 0 ≤ keep / (2 : Int) ^ (min k 64) := Int.ediv_nonneg h0 (by omega)
  have hq1 : keep / (2 : Int) ^ (min k 64) ≤ keep := Int.ediv_le_self _ h0
  rw [and_one _ hq0 (by omega)]
  unfold kept
  generalize keep / (2 : Int) ^ (min k 64) = y
  have : y % 2 = 0 ∨ y % 2 = 1 := by omega
  rcases this with h | h <;> rw [h] <;> rfl

set_option maxHeartbeats 2000000 in
set_option maxRecDepth 100000 in
theorem fail_ok {w : World} {B d : Nat} {F : Nat → Prop} {D : Dk} (h : Disk w B d F D) (hwl : D.waits.length ≤ 1000000) (keep torn : Int) (hk0 : 0 ≤ keep) (hk1 : keep < 18446744073709551616) (ht : -1 ≤ torn) (ht2 : torn < 9223372036854775808) :
    Calls Try.prog 18 #[.pointer (some ⟨d, 0, none⟩), .int .u64 keep, .int .i64 torn] w fun e w' => (∃ d' F', e = .returned (.tuple #[.pointer (some ⟨d', 0, none⟩), .int .i64 0]) ∧ Disk w' w.heap.size d' F' (D.fail keep torn)) ∧ Below w.heap.size w w' := by
  have H := Lib.hid h
  obtain ⟨S, E, W, L, hF⟩ := h
  have hsz := size H.out
  have hpos := L.ok.pos
  have hmost := L.ok.most
  obtain ⟨n, hn⟩ : ∃ n, n = D.seen.length := ⟨_, rfl⟩
  have hs := L.sure
  rw [L.ok.same] at hs
  rw [← hn] at hsz hpos hs hmost
  obtain ⟨A1, c1, rfl, -, -, hA1, hA1'⟩ := hs.slice
  cases A1 with
  | none => have := hA1 rfl; omega
  | some a1 =>
  obtain ⟨g1, rfl, hB1, hg1, hr1, ht1⟩ := hA1' _ rfl
  obtain ⟨Aw, cw, rfl, hNcw, -, hAw0, hAw'⟩ := L.waits.slice
  have hc0 := L.cell.1
  have hc2 := L.cell.2.2
  have hdlt : d < w.heap.size := (Array.getElem?_eq_some_iff.1 L.cells).1
  have hz : ((n : Int) == 0) = false := by rw [beq_eq_false_iff_ne]; omega
  have HL := Lib.hid (And.intro L (And.intro hn (And.intro hr1 (And.intro hAw' (And.intro hAw0 hNcw)))))
  have HZ := Lib.hid hsz
  have HK := Lib.hid (And.intro hk0 (And.intro hk1 (And.intro ht ht2)))
  clear L hF hn hs hA1 hA1' hr1 ht1 hsz hAw' hAw0 hNcw
  go_enter Try.func18, Try.ntmps18
  go_wp2_with fail
  refine HZ.out.mono ?_
  rintro e w' ⟨rfl, h⟩
  subst h
  go_wp2_with fail
  refine (clonep g1 n c1 D.sure w' (by rw [HL.out.1.ok.same, HL.out.2.1]) hmost HL.out.1.ok.sure HL.out.2.2.1).mono ?_
  rintro e w2 ⟨v, rfl, o2, b2⟩
  obtain ⟨A2, c2, rfl, hnc2, -, hA2, hA2'⟩ := o2.slice
  cases A2 with
  | none => have := hA2 rfl; omega
  | some a2 =>
  obtain ⟨g2, rfl, hB2, hg2, hr2, ht2'⟩ := hA2' _ rfl
  have H2 := Lib.hid (And.intro o2 b2)
  clear hA2 hA2' hr2 ht2' o2
  have b3 : Below w'.heap.size w' (w2.alloc (.cells #[.slice (some ⟨g2, 0, none⟩) n c2, .slice none 0 0, .slice none 0 0] 40)) := b2.alloc b2.size _
  have hc2' : (w2.alloc (.cells #[.slice (some ⟨g2, 0, none⟩) n c2, .slice none 0 0, .slice none 0 0] 40)).cell? ⟨d, 2, none⟩ = some (.slice Aw D.waits.length cw) := by
    rw [b3.cell (p := ⟨d, 2, none⟩) hdlt]; exact hc2
  have r3 := H2.out.1.alloc (.cells #[.slice (some ⟨g2, 0, none⟩) n c2, .slice none 0 0, .slice none 0 0] 40)
  have d3 := heap_alloc_new w2 (.cells #[.slice (some ⟨g2, 0, none⟩) n c2, .slice none 0 0, .slice none 0 0] 40)
  have hgd : g2 ≠ w2.heap.size := by omega
  have H3 := Lib.hid (And.intro b3 (And.intro r3 d3))
  have hb2 := b2.size
  clear b2 b3 r3 d3 hc0 hc2 H2
  go_wp2
  obtain ⟨N, hN⟩ : ∃ N, N = D.waits.length := ⟨_, rfl⟩
  rw [← hN] at hwl ⊢
  obtain ⟨Z, hZ⟩ : ∃ Z : Array Value, Z = (.int .i64 0 :: List.replicate 64 (.int .u8 0)).toArray := ⟨_, rfl⟩
  have hz2 : ∀ W, (zeroValue 74).run Try.prog W = .ok (.agg Z) W := fun W => by subst hZ; kernel_rfl
  have HN := Lib.hid (And.intro hN hZ)
  clear hN hZ
  go_loopw [31] (fun i wr => ∃ k : Nat, k ≤ N ∧ i = .int .i64 k ∧ Hid (Below w'.heap.size w' wr) ∧ Hid (RowV wr w'.heap.size 72 64 (.slice (some ⟨g2, 0, none⟩) n c2) n (pcs (failK keep torn D.sure D.waits k))) ∧
    Hid (wr.heap[w2.heap.size]? = some (.cells #[.slice (some ⟨g2, 0, none⟩) n c2, .slice none 0 0, .slice none 0 0] 40 (0, 0)))) (fun i _ => N - (intOf i).toNat)
  case atStart => exact ⟨0, by omega, rfl, H3.out.1, H3.out.2.1, H3.out.2.2⟩
  case round =>
    obtain ⟨k, hk, rfl, hbd, hrow, hdk⟩ := hrel
    by_cases hlt : k < N
    · obtain ⟨gw, rfl, hgwB, hgw, hrw⟩ : ∃ gw, Aw = some ⟨gw, 0, none⟩ ∧ B ≤ gw ∧ gw < w'.heap.size ∧ w'.rangeAt gw 0 (wcs D.waits) := by
        cases Aw with
        | none => have := HL.out.2.2.2.2.1 rfl; have := HN.out.1; omega
        | some aw =>
          obtain ⟨gw, e, h1, h2, h3, _⟩ := HL.out.2.2.2.1 _ rfl
          exact ⟨gw, by rw [e], h1, h2, h3⟩
      have hNc := HL.out.2.2.2.2.2
      rw [← HN.out.1] at hNc
      obtain ⟨x, hx⟩ : ∃ x, D.waits[k]? = some x := ⟨_, List.getElem?_eq_getElem (by rw [← HN.out.1]; exact hlt)⟩
      have hxo := HL.out.1.ok.waits x (List.mem_of_getElem? hx)
      rw [← HL.out.2.1] at hxo
      obtain ⟨cs, hcs⟩ : ∃ cs, cs = (Value.int .i64 x.1 :: x.2.map (Value.int .u8)) := ⟨_, rfl⟩
      have hcl : cs.length = 65 := by rw [hcs]; simp [hxo.1.1]
      have hrk : wr.rangeAt gw (k * 65) cs := by
        intro j v hv
        have hj : j < 65 := by rw [← hcl]; exact (List.getElem?_eq_some_iff.1 hv).1
        have h1 := wcs_get D.waits k j x (fun y hy => (HL.out.1.ok.waits y hy).1.1) hx hj
        rw [← hcs] at h1
        have h2 := hrw (k * 65 + j) v (h1.trans hv)
        rw [Nat.zero_add] at h2
        rw [hbd.out.cell (p := ⟨gw, k * 65 + j, none⟩) hgw]
        exact h2
      have hzs : Z.size = 65 := by rw [HN.out.2]; simp
      have hnew := heap_alloc_new wr (.cells Z 74)
      have hth : (wr.alloc (.cells Z 74)).there wr.heap.size 0 cs.toArray.size := by
        intro j hj
        simp only [List.size_toArray, hcl] at hj
        rw [Nat.zero_add]
        exact ⟨by rw [cell_of_row _ _ _ _ _ _ hnew, Array.getElem?_eq_getElem (by omega)]; rfl, frozen_of_row _ _ _ _ _ hnew⟩
      have hone : cs.toArray.all (·.oneCell') = true := all_oneCell_toArray (fun v hv => by
        rw [hcs] at hv
        rcases List.mem_cons.1 hv with rfl | hv
        · rfl
        · obtain ⟨y, _, rfl⟩ := List.mem_map.1 hv; rfl)
      have hsize : (Try.prog.info? 74).map (·.size) = some cs.length := by rw [hcl]; kernel_rfl
      have hsize2 : (Try.prog.info? 74).map (·.size) = some cs.toArray.size := by simp only [List.size_toArray]; exact hsize
      have HC := Lib.hid (And.intro hcs (And.intro hcl (And.intro hxo hx)))
      have HR := Lib.hid (And.intro hrk (And.intro hth (And.intro hone (And.intro hsize hsize2))))
      clear hcs hcl hxo hx hrk hth hone hsize hsize2 hzs hnew hrw
      have hbit := kept_bit keep HK.out.1 HK.out.2.1 k
      have b5 : Below w'.heap.size w' ((wr.alloc (.cells Z 74)).setCells wr.heap.size 0 cs) := (hbd.out.alloc hbd.out.size _).trans ((chg_setCells wr.heap.size cs 0 _).to_below (by have := hbd.out.size; simp; omega) (fun k hk => by rw [hk]; exact hbd.out.size))
      have r5 : RowV ((wr.alloc (.cells Z 74)).setCells wr.heap.size 0 cs) w'.heap.size 72 64 (.slice (some ⟨g2, 0, none⟩) n c2) n (pcs (failK keep torn D.sure D.waits k)) :=
        (hrow.out.alloc _).kept (chg_setCells wr.heap.size cs 0 _) (fun j hj h => by have := (hrow.out.lt j hj).2; omega)
      have hdl : w2.heap.size < wr.heap.size := (Array.getElem?_eq_some_iff.1 hdk.out).1
      have d5 : ((wr.alloc (.cells Z 74)).setCells wr.heap.size 0 cs).heap[w2.heap.size]? = some (.cells #[.slice (some ⟨g2, 0, none⟩) n c2, .slice none 0 0, .slice none 0 0] 40 (0, 0)) := by
        rw [(chg_setCells wr.heap.size cs 0 _).block _ (by simp; omega) (by omega), Below.heap_alloc _ _ _ hdl]; exact hdk.out
      have p5 : ((wr.alloc (.cells Z 74)).setCells wr.heap.size 0 cs).rangeAt wr.heap.size 0 cs := World.rangeAt_setCells_same _ _ _ _ (by have := HR.out.2.1; simpa using this)
      have hgl2 : g2 < wr.heap.size := (hrow.out.lt g2 rfl).2
      have H5 := Lib.hid (And.intro b5 (And.intro r5 (And.intro d5 p5)))
      clear b5 r5 d5 p5
      cases hkp : kept keep k with
      | false =>
        rw [hkp] at hbit
        have hbit : (bits .and .u64 (keep / (2 : Int) ^ (if (64 : Int) < (k : Int) then (64 : Int) else (k : Int)).toNat) 1 == 0) = true := hbit
        go_wp2_with (first
          | (refine wpList_load_mid rfl _ (.tmp 34) rfl gw (k * 65) rfl cs _ HR.out.1 Try.underlying74 rfl HR.out.2.2.2.1 ?_)
          | (refine wpList_store_mid rfl _ (.tmp 10) (.tmp 35) rfl wr.heap.size 0 cs.toArray rfl rfl HR.out.2.1 HR.out.2.2.2.2 HR.out.2.2.1 ?_; clear hz2))
        go_roundw
        case rel =>
          refine ⟨k + 1, by omega, rfl, H5.out.1, ?_, H5.out.2.2.1⟩
          have e : failK keep torn D.sure D.waits (k + 1) = failK keep torn D.sure D.waits k := by
            show (match D.waits[k]? with | none => _ | some x => _) = _
            rw [HC.out.2.2.2]
            show step _ _ _ _ _ = _
            unfold step
            rw [hkp]; rfl
          rw [e]; exact H5.out.2.1
        case measure => simp [intOf]; omega
      | true =>
        rw [hkp] at hbit
        have hbit : (bits .and .u64 (keep / (2 : Int) ^ (if (64 : Int) < (k : Int) then (64 : Int) else (k : Int)).toNat) 1 == 0) = false := hbit
        obtain ⟨M, hM⟩ : ∃ M : Nat, M = part torn k := ⟨_, rfl⟩
        obtain ⟨a, ha⟩ : ∃ a : Nat, x.1 = a := ⟨x.1.toNat, by have := HC.out.2.2.1.2.1; omega⟩
        have han : a < n := by have := HC.out.2.2.1.2.2; omega
        have hq1 : ((wr.alloc (.cells Z 74)).setCells wr.heap.size 0 cs).cell? ⟨w2.heap.size, 0, none⟩ = some (.slice (some ⟨g2, 0, none⟩) n c2) := by rw [cell_of_row _ _ _ _ _ _ H5.out.2.2.1]; rfl
        have hq2 : ((wr.alloc (.cells Z 74)).setCells wr.heap.size 0 cs).cell? ⟨wr.heap.size, 0, none⟩ = some (.int .i64 a) := by
          have h := H5.out.2.2.2 0 (.int .i64 x.1) (by rw [HC.out.1]; rfl)
          rw [ha] at h
          exact h
        have HA := Lib.hid ha
        clear ha
        by_cases htk : (k : Int) = torn
        · have htk' : ((k : Int) == torn) = true := by rw [beq_iff_eq]; exact htk
          have hM2 : M = 32 := by rw [hM]; unfold part; rw [if_pos htk]
          have HM := Lib.hid (And.intro hM hM2)
          clear htk hM hM2
          have hMl : (32 : Int) ≤ (Try.prog.arrayLen 72 : Int) := by rw [show Try.prog.arrayLen 72 = 64 from by kernel_rfl]; decide
          go_wp2_with (first
            | (refine wpList_load_mid rfl _ (.tmp 34) rfl gw (k * 65) rfl cs _ HR.out.1 Try.underlying74 rfl HR.out.2.2.2.1 ?_)
            | (refine wpList_store_mid rfl _ (.tmp 10) (.tmp 35) rfl wr.heap.size 0 cs.toArray rfl rfl HR.out.2.1 HR.out.2.2.2.2 HR.out.2.2.1 ?_; clear hz2))
          all_goals
            refine wp_region_sl [.one (0, true, some 47), .one (1, true, some 48), .one (2, true, some 49), .one (3, true, some 50), .one (4, true, some 51), .one (5, true, some 52), .one (6, true, some 53), .one (7, true, some 54), .one (8, true, some 55), .one (9, true, some 56), .one (10, true, some 57), .one (11, false, some 58)]
                [.one ⟨true, some 47, (Go.Op.move (Go.Operand.tmp 8)), 24, none⟩,
                .one ⟨true, some 48, (Go.Op.nilCheck (Go.Operand.tmp 47)), 0, none⟩,
                .one ⟨true, some 49, (Go.Op.fieldAddr 40 (Go.Operand.tmp 48) 0), 0, none⟩,
                .one ⟨true, some 50, (Go.Op.load 37 (Go.Operand.tmp 49)), 37, none⟩,
                .one ⟨true, some 51, (Go.Op.fieldAddr 74 (Go.Operand.tmp 10) 0), 0, none⟩,
                .one ⟨true, some 52, (Go.Op.load 3 (Go.Operand.tmp 51)), 3, none⟩,
                .one ⟨true, some 53, (Go.Op.indexAddr 37 (Go.Operand.tmp 50) (Go.Operand.tmp 52)), 0, none⟩,
                .one ⟨true, some 54, (Go.Op.move (Go.Operand.tmp 11)), 3, none⟩,
                .one ⟨true, some 55, (Go.Op.slice 72 (Go.Operand.tmp 53) none (some (Go.Operand.tmp 54)) none), 22, none⟩,
                .one ⟨true, some 56, (Go.Op.fieldAddr 74 (Go.Operand.tmp 10) 1), 0, none⟩,
                .one ⟨true, some 57, (Go.Op.slice 72 (Go.Operand.tmp 56) none none none), 22, none⟩,
                .one ⟨false, some 58, (Go.Op.call { callee := (Go.Callee.builtin Go.Builtin.copy), args := #[(Go.Operand.tmp 55), (Go.Operand.tmp 57)], argTypes := #[22, 22] }), 3, none⟩]
                (fun w3 => w3.cell? ⟨w2.heap.size, 0, none⟩ = some (.slice (some ⟨g2, 0, none⟩) n c2) ∧ w3.cell? ⟨wr.heap.size, 0, none⟩ = some (.int .i64 a)) rfl (by kernel_rfl) (by kernel_rfl) ?_ ?_
            · exact ⟨hq1, hq2⟩
            (repeat (first | ((with_reducible refine sq (v := ?_) (a' := ?_) ?_ ?_ ?_); rotate_left 2; (focus (intro w' hS; go_simp; (first | done | with_reducible rfl | rfl))); (simp only [Act.put, List.setIfInBounds_toArray, List.set_cons_zero, List.set_cons_succ]; rfl)) | ((with_reducible refine sn (a' := ?_) ?_ ?_ ?_); rotate_left; (focus rfl); (simp only [Act.put, List.setIfInBounds_toArray, List.set_cons_zero, List.set_cons_succ]; rfl)) | ((with_reducible refine sf trivial (a' := ?_) ?_ ?_ ?_); rotate_left; (focus rfl); (simp only [Act.put, List.setIfInBounds_toArray, List.set_cons_zero, List.set_cons_succ]; rfl)) | ((with_reducible refine sqg (v := ?_) (a' := ?_) ?_ ?_ ?_ ?_); rotate_left 2; (focus rfl); (focus (intro w' hS; go_simp; (first | done | with_reducible rfl | rfl))); (simp only [Act.put, List.setIfInBounds_toArray, List.set_cons_zero, List.set_cons_succ]; rfl)))); (repeat ((go_bits; (first | ((with_reducible refine sq (v := ?_) (a' := ?_) ?_ ?_ ?_); rotate_left 2; (focus (intro w' hS; go_simp; (first | done | with_reducible rfl | rfl))); (simp only [Act.put, List.setIfInBounds_toArray, List.set_cons_zero, List.set_cons_succ]; rfl)) | ((with_reducible refine sn (a' := ?_) ?_ ?_ ?_); rotate_left; (focus rfl); (simp only [Act.put, List.setIfInBounds_toArray, List.set_cons_zero, List.set_cons_succ]; rfl)) | ((with_reducible refine sf trivial (a' := ?_) ?_ ?_ ?_); rotate_left; (focus rfl); (simp only [Act.put, List.setIfInBounds_toArray, List.set_cons_zero, List.set_cons_succ]; rfl)) | ((with_reducible refine sqg (v := ?_) (a' := ?_) ?_ ?_ ?_ ?_); rotate_left 2; (focus rfl); (focus (intro w' hS; go_simp; (first | done | with_reducible rfl | rfl))); (simp only [Act.put, List.setIfInBounds_toArray, List.set_cons_zero, List.set_cons_succ]; rfl)))); (repeat (first | ((with_reducible refine sq (v := ?_) (a' := ?_) ?_ ?_ ?_); rotate_left 2; (focus (intro w' hS; go_simp; (first | done | with_reducible rfl | rfl))); (simp only [Act.put, List.setIfInBounds_toArray, List.set_cons_zero, List.set_cons_succ]; rfl)) | ((with_reducible refine sn (a' := ?_) ?_ ?_ ?_); rotate_left; (focus rfl); (simp only [Act.put, List.setIfInBounds_toArray, List.set_cons_zero, List.set_cons_succ]; rfl)) | ((with_reducible refine sf trivial (a' := ?_) ?_ ?_ ?_); rotate_left; (focus rfl); (simp only [Act.put, List.setIfInBounds_toArray, List.set_cons_zero, List.set_cons_succ]; rfl)) | ((with_reducible refine sqg (v := ?_) (a' := ?_) ?_ ?_ ?_ ?_); rotate_left 2; (focus rfl); (focus (intro w' hS; go_simp; (first | done | with_reducible rfl | rfl))); (simp only [Act.put, List.setIfInBounds_toArray, List.set_cons_zero, List.set_cons_succ]; rfl)))))); (try go_bits)
            refine se' fun K hK => ?_
            obtain ⟨w5, hw5⟩ : ∃ w5, w5 = ((wr.alloc (.cells Z 74)).setCells wr.heap.size 0 cs).drew := ⟨_, rfl⟩
            rw [← hw5]
            have b5 : Below w'.heap.size w' w5 := by rw [hw5]; exact H5.out.1.drew
            have r5 : RowV w5 w'.heap.size 72 64 (.slice (some ⟨g2, 0, none⟩) n c2) n (pcs (failK keep torn D.sure D.waits k)) := by rw [hw5]; exact H5.out.2.1.kept (Chg.drew _) (fun _ _ h => h)
            have d5 : w5.heap[w2.heap.size]? = some (.cells #[.slice (some ⟨g2, 0, none⟩) n c2, .slice none 0 0, .slice none 0 0] 40 (0, 0)) := by rw [hw5]; exact H5.out.2.2.1
            have p5 : w5.rangeAt wr.heap.size 0 cs := by rw [hw5]; exact H5.out.2.2.2
            have q5 : w5.cell? ⟨wr.heap.size, 0, none⟩ = some (.int .i64 a) := by rw [hw5]; exact hq2
            have hcT : ((x.2.take 32).map (Value.int .u8)).length = 32 := by rw [List.length_map, List.length_take, HC.out.2.2.1.1.1]; rfl
            have hfk := failK_pc HL.out.1.ok keep torn k
            rw [← HL.out.2.1] at hfk
            have hth5 : w5.there g2 0 (n * 64) := by
              obtain ⟨A3, c3, e3, -, -, -, h3⟩ := r5.slice
              injection e3 with e4
              obtain ⟨g3, e5, _, _, _, h4⟩ := h3 _ e4.symm
              injection e5 with e5
              subst e5
              exact h4
            refine wp_copy_v (.tmp 55) (.tmp 57) _ _ 5 1 g2 (a * 64) 32 64 ⟨wr.heap.size, 1, none⟩ 64 64 32 ((x.2.take 32).map (Value.int .u8)) rfl rfl rfl Try.underlying22 (by kernel_rfl) rfl (by rw [hcT]) ?_ ?_ (fun v hv => by obtain ⟨y, _, rfl⟩ := List.mem_map.1 hv; rfl) ?_
            · intro j v hv
              have hj : j < 32 := by rw [← hcT]; exact (List.getElem?_eq_some_iff.1 hv).1
              rw [Addr.add_mid]
              have h1 := p5 (1 + j) v (by
                rw [HC.out.1, Nat.add_comm, List.getElem?_cons_succ]
                rw [List.map_take, List.getElem?_take, if_pos hj] at hv
                exact hv)
              rw [Nat.zero_add] at h1
              exact h1
            · intro j hj
              rw [hcT] at hj
              have h1 := hth5 (a * 64 + j) (by omega)
              rw [Nat.zero_add] at h1
              exact h1
            have c6 := chg_setCells g2 ((x.2.take 32).map (Value.int .u8)) (a * 64) w5
            have r6 : RowV (w5.setCells g2 (a * 64) ((x.2.take 32).map (Value.int .u8))) w'.heap.size 72 64 (.slice (some ⟨g2, 0, none⟩) n c2) n (pcs (failK keep torn D.sure D.waits (k + 1))) := by
              have h1 := r5.set (a * 64) ((x.2.take 32).map (Value.int .u8)) (by rw [hcT]; omega)
              rw [pcs_part hfk.2 (by rw [hfk.1]; exact han) HC.out.2.2.1.1 (by decide)] at h1
              have e : failK keep torn D.sure D.waits (k + 1) = (failK keep torn D.sure D.waits k).set a (x.2.take 32 ++ ((failK keep torn D.sure D.waits k).getD a []).drop 32) := by
                show (match D.waits[k]? with | none => _ | some x => _) = _
                rw [HC.out.2.2.2]
                show step _ _ _ _ _ = _
                unfold step
                rw [hkp, if_pos rfl, HA.out, Int.toNat_natCast, ← HM.out.1, HM.out.2]
              rw [e]; exact h1
            have d6 : (w5.setCells g2 (a * 64) ((x.2.take 32).map (Value.int .u8))).heap[w2.heap.size]? = some (.cells #[.slice (some ⟨g2, 0, none⟩) n c2, .slice none 0 0, .slice none 0 0] 40 (0, 0)) := by
              rw [c6.block _ (Array.getElem?_eq_some_iff.1 d5).1 (Ne.symm hgd)]; exact d5
            have b6 : Below w'.heap.size w' (w5.setCells g2 (a * 64) ((x.2.take 32).map (Value.int .u8))) := c6.below b5 b5.size (fun k hk => by rw [hk]; exact hB2)
            refine hK _ _ ⟨by rw [cell_of_row _ _ _ _ _ _ d6]; rfl, by rw [World.cell?_setCells_out _ _ _ _ _ (fun hb _ => by have hb : wr.heap.size = g2 := hb; omega)]; exact q5⟩ fun a'' ha => ?_
            have H6 := Lib.hid (And.intro b6 (And.intro r6 d6))
            obtain ⟨w6, hw6⟩ : ∃ w6, w6 = w5.setCells g2 (a * 64) ((x.2.take 32).map (Value.int .u8)) := ⟨_, rfl⟩
            rw [← hw6] at H6 ⊢
            clear hK b5 r5 d5 p5 q5 hcT hfk hth5 c6 r6 d6 b6 hw5 hw6 hq1 hq2
            try (simp only [Act.put, List.setIfInBounds_toArray, List.set_cons_zero, List.set_cons_succ] at ha)
            subst ha
            refine sl_end ?_
            go_wp2
            go_roundw
            case rel => exact ⟨k + 1, by omega, rfl, H6.out.1, H6.out.2.1, H6.out.2.2⟩
            case measure => simp [intOf]; omega
        · have htk' : ((k : Int) == torn) = false := by rw [beq_eq_false_iff_ne]; exact htk
          have hM2 : M = 64 := by rw [hM]; unfold part; rw [if_neg htk]
          have HM := Lib.hid (And.intro hM hM2)
          clear htk hM hM2
          have hMl : (64 : Int) ≤ (Try.prog.arrayLen 72 : Int) := by rw [show Try.prog.arrayLen 72 = 64 from by kernel_rfl]; decide
          go_wp2_with (first
            | (refine wpList_load_mid rfl _ (.tmp 34) rfl gw (k * 65) rfl cs _ HR.out.1 Try.underlying74 rfl HR.out.2.2.2.1 ?_)
            | (refine wpList_store_mid rfl _ (.tmp 10) (.tmp 35) rfl wr.heap.size 0 cs.toArray rfl rfl HR.out.2.1 HR.out.2.2.2.2 HR.out.2.2.1 ?_; clear hz2))
          all_goals
            refine wp_region_sl [.one (0, true, some 47), .one (1, true, some 48), .one (2, true, some 49), .one (3, true, some 50), .one (4, true, some 51), .one (5, true, some 52), .one (6, true, some 53), .one (7, true, some 54), .one (8, true, some 55), .one (9, true, some 56), .one (10, true, some 57), .one (11, false, some 58)]
                [.one ⟨true, some 47, (Go.Op.move (Go.Operand.tmp 8)), 24, none⟩,
                .one ⟨true, some 48, (Go.Op.nilCheck (Go.Operand.tmp 47)), 0, none⟩,
                .one ⟨true, some 49, (Go.Op.fieldAddr 40 (Go.Operand.tmp 48) 0), 0, none⟩,
                .one ⟨true, some 50, (Go.Op.load 37 (Go.Operand.tmp 49)), 37, none⟩,
                .one ⟨true, some 51, (Go.Op.fieldAddr 74 (Go.Operand.tmp 10) 0), 0, none⟩,
                .one ⟨true, some 52, (Go.Op.load 3 (Go.Operand.tmp 51)), 3, none⟩,
                .one ⟨true, some 53, (Go.Op.indexAddr 37 (Go.Operand.tmp 50) (Go.Operand.tmp 52)), 0, none⟩,
                .one ⟨true, some 54, (Go.Op.move (Go.Operand.tmp 11)), 3, none⟩,
                .one ⟨true, some 55, (Go.Op.slice 72 (Go.Operand.tmp 53) none (some (Go.Operand.tmp 54)) none), 22, none⟩,
                .one ⟨true, some 56, (Go.Op.fieldAddr 74 (Go.Operand.tmp 10) 1), 0, none⟩,
                .one ⟨true, some 57, (Go.Op.slice 72 (Go.Operand.tmp 56) none none none), 22, none⟩,
                .one ⟨false, some 58, (Go.Op.call { callee := (Go.Callee.builtin Go.Builtin.copy), args := #[(Go.Operand.tmp 55), (Go.Operand.tmp 57)], argTypes := #[22, 22] }), 3, none⟩]
                (fun w3 => w3.cell? ⟨w2.heap.size, 0, none⟩ = some (.slice (some ⟨g2, 0, none⟩) n c2) ∧ w3.cell? ⟨wr.heap.size, 0, none⟩ = some (.int .i64 a)) rfl (by kernel_rfl) (by kernel_rfl) ?_ ?_
            · exact ⟨hq1, hq2⟩
            (repeat (first | ((with_reducible refine sq (v := ?_) (a' := ?_) ?_ ?_ ?_); rotate_left 2; (focus (intro w' hS; go_simp; (first | done | with_reducible rfl | rfl))); (simp only [Act.put, List.setIfInBounds_toArray, List.set_cons_zero, List.set_cons_succ]; rfl)) | ((with_reducible refine sn (a' := ?_) ?_ ?_ ?_); rotate_left; (focus rfl); (simp only [Act.put, List.setIfInBounds_toArray, List.set_cons_zero, List.set_cons_succ]; rfl)) | ((with_reducible refine sf trivial (a' := ?_) ?_ ?_ ?_); rotate_left; (focus rfl); (simp only [Act.put, List.setIfInBounds_toArray, List.set_cons_zero, List.set_cons_succ]; rfl)) | ((with_reducible refine sqg (v := ?_) (a' := ?_) ?_ ?_ ?_ ?_); rotate_left 2; (focus rfl); (focus (intro w' hS; go_simp; (first | done | with_reducible rfl | rfl))); (simp only [Act.put, List.setIfInBounds_toArray, List.set_cons_zero, List.set_cons_succ]; rfl)))); (repeat ((go_bits; (first | ((with_reducible refine sq (v := ?_) (a' := ?_) ?_ ?_ ?_); rotate_left 2; (focus (intro w' hS; go_simp; (first | done | with_reducible rfl | rfl))); (simp only [Act.put, List.setIfInBounds_toArray, List.set_cons_zero, List.set_cons_succ]; rfl)) | ((with_reducible refine sn (a' := ?_) ?_ ?_ ?_); rotate_left; (focus rfl); (simp only [Act.put, List.setIfInBounds_toArray, List.set_cons_zero, List.set_cons_succ]; rfl)) | ((with_reducible refine sf trivial (a' := ?_) ?_ ?_ ?_); rotate_left; (focus rfl); (simp only [Act.put, List.setIfInBounds_toArray, List.set_cons_zero, List.set_cons_succ]; rfl)) | ((with_reducible refine sqg (v := ?_) (a' := ?_) ?_ ?_ ?_ ?_); rotate_left 2; (focus rfl); (focus (intro w' hS; go_simp; (first | done | with_reducible rfl | rfl))); (simp only [Act.put, List.setIfInBounds_toArray, List.set_cons_zero, List.set_cons_succ]; rfl)))); (repeat (first | ((with_reducible refine sq (v := ?_) (a' := ?_) ?_ ?_ ?_); rotate_left 2; (focus (intro w' hS; go_simp; (first | done | with_reducible rfl | rfl))); (simp only [Act.put, List.setIfInBounds_toArray, List.set_cons_zero, List.set_cons_succ]; rfl)) | ((with_reducible refine sn (a' := ?_) ?_ ?_ ?_); rotate_left; (focus rfl); (simp only [Act.put, List.setIfInBounds_toArray, List.set_cons_zero, List.set_cons_succ]; rfl)) | ((with_reducible refine sf trivial (a' := ?_) ?_ ?_ ?_); rotate_left; (focus rfl); (simp only [Act.put, List.setIfInBounds_toArray, List.set_cons_zero, List.set_cons_succ]; rfl)) | ((with_reducible refine sqg (v := ?_) (a' := ?_) ?_ ?_ ?_ ?_); rotate_left 2; (focus rfl); (focus (intro w' hS; go_simp; (first | done | with_reducible rfl | rfl))); (simp only [Act.put, List.setIfInBounds_toArray, List.set_cons_zero, List.set_cons_succ]; rfl)))))); (try go_bits)
            refine se' fun K hK => ?_
            obtain ⟨w5, hw5⟩ : ∃ w5, w5 = ((wr.alloc (.cells Z 74)).setCells wr.heap.size 0 cs).drew := ⟨_, rfl⟩
            rw [← hw5]
            have b5 : Below w'.heap.size w' w5 := by rw [hw5]; exact H5.out.1.drew
            have r5 : RowV w5 w'.heap.size 72 64 (.slice (some ⟨g2, 0, none⟩) n c2) n (pcs (failK keep torn D.sure D.waits k)) := by rw [hw5]; exact H5.out.2.1.kept (Chg.drew _) (fun _ _ h => h)
            have d5 : w5.heap[w2.heap.size]? = some (.cells #[.slice (some ⟨g2, 0, none⟩) n c2, .slice none 0 0, .slice none 0 0] 40 (0, 0)) := by rw [hw5]; exact H5.out.2.2.1
            have p5 : w5.rangeAt wr.heap.size 0 cs := by rw [hw5]; exact H5.out.2.2.2
            have q5 : w5.cell? ⟨wr.heap.size, 0, none⟩ = some (.int .i64 a) := by rw [hw5]; exact hq2
            have hcT : ((x.2.take 64).map (Value.int .u8)).length = 64 := by rw [List.length_map, List.length_take, HC.out.2.2.1.1.1]; rfl
            have hfk := failK_pc HL.out.1.ok keep torn k
            rw [← HL.out.2.1] at hfk
            have hth5 : w5.there g2 0 (n * 64) := by
              obtain ⟨A3, c3, e3, -, -, -, h3⟩ := r5.slice
              injection e3 with e4
              obtain ⟨g3, e5, _, _, _, h4⟩ := h3 _ e4.symm
              injection e5 with e5
              subst e5
              exact h4
            refine wp_copy_v (.tmp 55) (.tmp 57) _ _ 5 1 g2 (a * 64) 64 64 ⟨wr.heap.size, 1, none⟩ 64 64 64 ((x.2.take 64).map (Value.int .u8)) rfl rfl rfl Try.underlying22 (by kernel_rfl) rfl (by rw [hcT]) ?_ ?_ (fun v hv => by obtain ⟨y, _, rfl⟩ := List.mem_map.1 hv; rfl) ?_
            · intro j v hv
              have hj : j < 64 := by rw [← hcT]; exact (List.getElem?_eq_some_iff.1 hv).1
              rw [Addr.add_mid]
              have h1 := p5 (1 + j) v (by
                rw [HC.out.1, Nat.add_comm, List.getElem?_cons_succ]
                rw [List.map_take, List.getElem?_take, if_pos hj] at hv
                exact hv)
              rw [Nat.zero_add] at h1
              exact h1
            · intro j hj
              rw [hcT] at hj
              have h1 := hth5 (a * 64 + j) (by omega)
              rw [Nat.zero_add] at h1
              exact h1
            have c6 := chg_setCells g2 ((x.2.take 64).map (Value.int .u8)) (a * 64) w5
            have r6 : RowV (w5.setCells g2 (a * 64) ((x.2.take 64).map (Value.int .u8))) w'.heap.size 72 64 (.slice (some ⟨g2, 0, none⟩) n c2) n (pcs (failK keep torn D.sure D.waits (k + 1))) := by
              have h1 := r5.set (a * 64) ((x.2.take 64).map (Value.int .u8)) (by rw [hcT]; omega)
              rw [pcs_part hfk.2 (by rw [hfk.1]; exact han) HC.out.2.2.1.1 (by decide)] at h1
              have e : failK keep torn D.sure D.waits (k + 1) = (failK keep torn D.sure D.waits k).set a (x.2.take 64 ++ ((failK keep torn D.sure D.waits k).getD a []).drop 64) := by
                show (match D.waits[k]? with | none => _ | some x => _) = _
                rw [HC.out.2.2.2]
                show step _ _ _ _ _ = _
                unfold step
                rw [hkp, if_pos rfl, HA.out, Int.toNat_natCast, ← HM.out.1, HM.out.2]
              rw [e]; exact h1
            have d6 : (w5.setCells g2 (a * 64) ((x.2.take 64).map (Value.int .u8))).heap[w2.heap.size]? = some (.cells #[.slice (some ⟨g2, 0, none⟩) n c2, .slice none 0 0, .slice none 0 0] 40 (0, 0)) := by
              rw [c6.block _ (Array.getElem?_eq_some_iff.1 d5).1 (Ne.symm hgd)]; exact d5
            have b6 : Below w'.heap.size w' (w5.setCells g2 (a * 64) ((x.2.take 64).map (Value.int .u8))) := c6.below b5 b5.size (fun k hk => by rw [hk]; exact hB2)
            refine hK _ _ ⟨by rw [cell_of_row _ _ _ _ _ _ d6]; rfl, by rw [World.cell?_setCells_out _ _ _ _ _ (fun hb _ => by have hb : wr.heap.size = g2 := hb; omega)]; exact q5⟩ fun a'' ha => ?_
            have H6 := Lib.hid (And.intro b6 (And.intro r6 d6))
            obtain ⟨w6, hw6⟩ : ∃ w6, w6 = w5.setCells g2 (a * 64) ((x.2.take 64).map (Value.int .u8)) := ⟨_, rfl⟩
            rw [← hw6] at H6 ⊢
            clear hK b5 r5 d5 p5 q5 hcT hfk hth5 c6 r6 d6 b6 hw5 hw6 hq1 hq2
            try (simp only [Act.put, List.setIfInBounds_toArray, List.set_cons_zero, List.set_cons_succ] at ha)
            subst ha
            refine sl_end ?_
            go_wp2
            go_roundw
            case rel => exact ⟨k + 1, by omega, rfl, H6.out.1, H6.out.2.1, H6.out.2.2⟩
            case measure => simp [intOf]; omega
    · obtain rfl : N = k := by omega
      clear hz2
      have hfk := failK_pc HL.out.1.ok keep torn D.waits.length
      have hd0 : wr.cell? ⟨w2.heap.size, 0, none⟩ = some (.slice (some ⟨g2, 0, none⟩) n c2) := by rw [cell_of_row _ _ _ _ _ _ hdk.out]; rfl
      obtain ⟨s, hs⟩ : ∃ s, s = failK keep torn D.sure D.waits N := ⟨_, rfl⟩
      have hsN : s = failK keep torn D.sure D.waits D.waits.length := by rw [hs, HN.out.1]
      have hrow2 := hrow.out
      rw [← hs] at hrow2
      rw [← hsN] at hfk
      have hrg : wr.rangeAt g2 0 (pcs s) := by
        obtain ⟨A3, c3, e3, -, -, -, h3⟩ := hrow2.slice
        injection e3 with e4
        obtain ⟨g3, e5, _, _, h4, _⟩ := h3 _ e4.symm
        injection e5 with e5
        subst e5
        exact h4
      have HS := Lib.hid (And.intro hsN (And.intro hrow2 (And.intro hrg hfk)))
      clear hs hsN hrow2 hrg hfk hrow
      go_wp2_with fail
      refine (clonep g2 n c2 s wr (by rw [HS.out.2.2.2.1, HL.out.2.1]) hmost HS.out.2.2.2.2 HS.out.2.2.1).mono ?_
      rintro e w4 ⟨v4, rfl, o4, b4⟩
      have hd4 : w4.heap[w2.heap.size]? = some (.cells #[.slice (some ⟨g2, 0, none⟩) n c2, .slice none 0 0, .slice none 0 0] 40 (0, 0)) := by
        rw [b4.block _ (Array.getElem?_eq_some_iff.1 hdk.out).1]; exact hdk.out
      obtain ⟨A4, c4, hv4, hn4, -, hA4, hA4'⟩ := o4.slice
      cases A4 with
      | none => have := hA4 rfl; omega
      | some a4 =>
      obtain ⟨g4, rfl, hB4, hg4, -, -⟩ := hA4' _ rfl
      subst hv4
      have hcell4 : w4.cell? ⟨w2.heap.size, 1, none⟩ = some (.slice none 0 0) := by rw [cell_of_row _ _ _ _ _ _ hd4]; rfl
      have hf4 : w4.frozen? ⟨w2.heap.size, 1, none⟩ = false := frozen_of_row _ _ _ _ _ hd4
      have hdl : w2.heap.size < wr.heap.size := (Array.getElem?_eq_some_iff.1 hdk.out).1
      have hgl : g2 < wr.heap.size := (HS.out.2.1.lt g2 rfl).2
      have H4 := Lib.hid (And.intro o4 (And.intro b4 hd4))
      clear hA4 hA4' o4 b4 hd4 hd0
      go_wp2
      go_ret2
      refine ⟨⟨_, blocks w2.heap.size (.slice (some ⟨g2, 0, none⟩) n c2) (.slice (some ⟨g4, 0, none⟩) n c4) (.slice none 0 0), rfl, _, _, _, ⟨?_, hb2, ?_, ?_, RowV.nil _ _ _ _, ?_, ?_, ?_, ?_, Sep.nil _, Sep.nil _, HL.out.1.ok.fail keep torn⟩, fun k => Iff.rfl⟩, ?_⟩
      · exact heap_setCell_same w4 w2.heap.size 1 _ 40 _ H4.out.2.2
      · have h := (HS.out.2.1.new H4.out.2.1).kept (Chg.setCell w4 ⟨w2.heap.size, 1, none⟩ (.slice (some ⟨g4, 0, none⟩) n c4)) (fun k hk h => by injection hk with hk; have h : k = w2.heap.size := h; have hk : g2 = k := hk; omega)
        show RowV _ _ _ _ _ (failK keep torn D.sure D.waits D.waits.length).length (pcs (failK keep torn D.sure D.waits D.waits.length))
        rw [← HS.out.1, HS.out.2.2.2.1, ← HL.out.2.1]
        exact h
      · have h := (H4.out.1.lower (B' := w'.heap.size) hbd.out.size).kept (Chg.setCell w4 ⟨w2.heap.size, 1, none⟩ (.slice (some ⟨g4, 0, none⟩) n c4)) (fun k hk h => by injection hk with hk; have h : k = w2.heap.size := h; have hk : g4 = k := hk; omega)
        show RowV _ _ _ _ _ (failK keep torn D.sure D.waits D.waits.length).length (pcs (failK keep torn D.sure D.waits D.waits.length))
        rw [← HS.out.1, HS.out.2.2.2.1, ← HL.out.2.1]
        exact h
      · intro e; injection e with e; exact hgd e
      · intro e; injection e with e; have e : g4 = w2.heap.size := e; omega
      · intro e; simp [Value.ownBlock] at e
      · intro e; injection e with e; have e : g2 = g4 := e; omega
      · exact (hbd.out.trans (below_weak hbd.out.size H4.out.2.1)).setCell hb2 _
end Go.Proofs.Ytmpkoacpakepfaa.Disk
