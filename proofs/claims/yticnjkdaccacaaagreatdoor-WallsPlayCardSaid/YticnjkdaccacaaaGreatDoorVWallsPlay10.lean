/- Texts of this work, one behind the other. -/
import Derived.Test.YticnjkdaccacaaaGreatDoorVWallsPlay9
section
namespace Go.Proofs.YticnjkdaccacaaaGreatDoor.Disk
open Go.RowKit Base _root_.Go.Proofs.YticnjkdaccacaaaGreatDoor.Own OwnV Bytes
theorem clonep (g n c : Nat) (l : List (List Int)) (w : World) (hn : l.length = n) (h1 : n ≤ 4096) (hp : ∀ p ∈ l, Pc p) (hr : w.rangeAt g 0 (pcs l)) :
    Calls Tryz.prog 82 #[.slice (some ⟨g, 0, none⟩) n c] w fun e w' => ∃ v, e = .returned v ∧ RowV w' w.heap.size 148 64 v n (pcs l) ∧ Below w.heap.size w w' := by
  have hq : ∀ (W : World) (a : Option Addr) (n c n' c' : Nat), (binOp .eql 139 (.slice a n c) (.slice none n' c')).run Tryz.prog W = .ok (.bool a.isNone) W := fun W a n c n' c' => Lib.run_eql_slice_nil W _ _ a n c n' c' Tryz.underlying139
  have HR := Lib.hid (And.intro hr (pcs_length hp))
  have HE := Lib.hid (show Below w.heap.size w (w.alloc (.cells #[] 148)) ∧ RowV (w.alloc (.cells #[] 148)) w.heap.size 148 64 (.slice (some ⟨w.heap.size, 0, none⟩) 0 0) 0 [] from
    ⟨(Below.refl _ _).alloc (Nat.le_refl _) _, RowV.made (B := w.heap.size) w 148 64 0 #[] (Nat.le_refl _) rfl (Nat.zero_le _)⟩)
  clear hr
  go_enter Tryz.func82, Tryz.ntmps82
  go_wp2_with (at_builtin; refine wpList_plain rfl fun K hK => ?_; refine apv_wp (bytes := 64) Tryz.underlying139 (by kernel_rfl) (by decide) HE.out.2 HE.out.1.size ⟨g, 0, none⟩ n c (pcs l) (by rw [HR.out.2, hn]) (fun j u hu => by
      have h2 := HR.out.1 j u hu
      rw [Addr.add_mid, HE.out.1.cell (p := ⟨g, 0 + j, none⟩) (World.block_lt_of_cell? w _ h2)]; exact h2) pcs_one (by simp only [maxLen]; omega) (by omega) (.tmp 5) (.tmp 6) rfl rfl rfl ?_; intro v2 w2 own2 gr2 _; have H2 := Lib.hid (And.intro own2 gr2); clear own2 gr2; refine hK _ _ ?_)
  go_ret
  refine ⟨_, rfl, ?_, HE.out.1.grown H2.out.2 HE.out.1.size (fun k hk => (HE.out.2.lt k hk).1)⟩
  have h := H2.out.1
  rw [List.nil_append, Nat.zero_add] at h
  exact h
def kept (keep : Int) (i : Nat) : Bool := decide (keep / (2 : Int) ^ (min i 64) % 2 = 1)
def part (torn : Int) (i : Nat) : Nat := if (i : Int) = torn then 32 else 64
def step (keep torn : Int) (s : List (List Int)) (i : Nat) (x : Int × List Int) : List (List Int) :=
  if kept keep i then s.set x.1.toNat (x.2.take (part torn i) ++ (s.getD x.1.toNat []).drop (part torn i)) else s
def failK (keep torn : Int) (s : List (List Int)) (ws : List (Int × List Int)) : Nat → List (List Int)
  | 0 => s
  | k + 1 => match ws[k]? with
    | none => failK keep torn s ws k
    | some x => step keep torn (failK keep torn s ws k) k x
def Dk.fail (D : Dk) (keep torn : Int) : Dk := ⟨failK keep torn D.sure D.waits D.waits.length, failK keep torn D.sure D.waits D.waits.length, []⟩
theorem step_pc {keep torn : Int} {s : List (List Int)} {i : Nat} {x : Int × List Int} (hs : ∀ p ∈ s, Pc p) (hx : Pc x.2) (h0 : x.1.toNat < s.length) : (step keep torn s i x).length = s.length ∧ ∀ p ∈ step keep torn s i x, Pc p := by
  unfold step
  split
  · refine ⟨List.length_set .., fun p hp => ?_⟩
    rcases List.mem_or_eq_of_mem_set hp with h | h
    · exact hs p h
    · subst h
      have h1 : Pc (s.getD x.1.toNat []) := by rw [List.getD_eq_getElem?_getD, List.getElem?_eq_getElem h0]; exact hs _ (List.getElem_mem h0)
      refine ⟨?_, (hx.2.take _).append (h1.2.drop _)⟩
      rw [List.length_append, List.length_take, List.length_drop, hx.1, h1.1]
      unfold part; split <;> omega
  · exact ⟨rfl, hs⟩
theorem failK_pc {D : Dk} (h : D.ok) (keep torn : Int) : ∀ k, (failK keep torn D.sure D.waits k).length = D.seen.length ∧ ∀ p ∈ failK keep torn D.sure D.waits k, Pc p := by
  intro k
  induction k with
  | zero => exact ⟨h.same, h.sure⟩
  | succ k ih =>
    unfold failK
    cases hw : D.waits[k]? with
    | none => exact ih
    | some x =>
      have hx := h.waits x (List.mem_of_getElem? hw)
      have h2 := step_pc (keep := keep) (torn := torn) (i := k) ih.2 hx.1 (by rw [ih.1]; omega)
      exact ⟨h2.1.trans ih.1, h2.2⟩
theorem Dk.ok.fail {D : Dk} (h : D.ok) (keep torn : Int) : (D.fail keep torn).ok := by
  have h2 := failK_pc h keep torn D.waits.length
  exact ⟨rfl, by show 1 ≤ (failK keep torn D.sure D.waits D.waits.length).length; rw [h2.1]; exact h.pos, by show (failK keep torn D.sure D.waits D.waits.length).length ≤ 4096; rw [h2.1]; exact h.most, h2.2, h2.2, fun x hx => by simp [Dk.fail] at hx⟩
theorem wcs_get : ∀ (ws : List (Int × List Int)) (i j : Nat) (x : Int × List Int), (∀ y ∈ ws, y.2.length = 64) → ws[i]? = some x → j < 65 → (wcs ws)[i * 65 + j]? = (Value.int .i64 x.1 :: x.2.map (Value.int .u8))[j]? := by
  intro ws
  induction ws with
  | nil => intro i j x _ h; simp at h
  | cons y ws ih =>
    intro i j x hp hi hj
    have h64 := hp y (List.mem_cons_self)
    have e : wcs (y :: ws) = (Value.int .i64 y.1 :: y.2.map (Value.int .u8)) ++ wcs ws := by simp [wcs]
    have hl : (Value.int .i64 y.1 :: y.2.map (Value.int .u8)).length = 65 := by simp [h64]
    rw [e, List.getElem?_append, hl]
    cases i with
    | zero =>
      simp at hi; subst hi
      rw [if_pos (by omega)]; congr 1; omega
    | succ i =>
      rw [if_neg (by omega), show (i + 1) * 65 + j - 65 = i * 65 + j by omega]
      exact ih i j x (fun q hq => hp q (List.mem_cons_of_mem _ hq)) (by simpa using hi) hj
theorem part_pc {p q : List Int} (hp : Pc p) (hq : Pc q) {M : Nat} (hM : M ≤ 64) : Pc (q.take M ++ p.drop M) :=
  ⟨by rw [List.length_append, List.length_take, List.length_drop, hq.1, hp.1]; omega, (hq.2.take _).append (hp.2.drop _)⟩
theorem pcs_part {s : List (List Int)} (h : ∀ p ∈ s, Pc p) {i : Nat} (hi : i < s.length) {q : List Int} (hq : Pc q) {M : Nat} (hM : M ≤ 64) :
    splice (pcs s) (i * 64) ((q.take M).map (Value.int .u8)) = pcs (s.set i (q.take M ++ (s.getD i []).drop M)) := by
  have hp : Pc (s.getD i []) := by rw [List.getD_eq_getElem?_getD, List.getElem?_eq_getElem hi]; exact h _ (List.getElem_mem hi)
  have hr := part_pc hp hq hM
  have hl := pcs_length h
  rw [← pcs_set h hi hr]
  have h1 : ((q.take M).map (Value.int .u8)).length = M := by rw [List.length_map, List.length_take, hq.1]; omega
  have h2 : ((q.take M ++ (s.getD i []).drop M).map (Value.int .u8)).length = 64 := by rw [List.length_map, hr.1]
  apply List.ext_getElem?
  intro k
  rw [splice_get _ _ _ (by rw [hl, h1]; omega), splice_get _ _ _ (by rw [hl, h2]; omega), h1, h2]
  by_cases hk : i * 64 ≤ k ∧ k < i * 64 + M
  · rw [if_pos hk, if_pos (by omega), List.map_append, List.getElem?_append_left (by rw [h1]; omega)]
  · rw [if_neg hk]
    by_cases hk2 : i * 64 ≤ k ∧ k < i * 64 + 64
    · rw [if_pos hk2, List.map_append, List.getElem?_append_right (by rw [h1]; omega), h1]
      have h3 := flat_get s i (k - i * 64) (fun p hp => (h p hp).1) hi (by omega)
      rw [show i * 64 + (k - i * 64) = k by omega] at h3
      unfold pcs
      rw [List.getElem?_map, h3, List.getElem?_map, List.getElem?_drop, show M + (k - i * 64 - M) = k - i * 64 by omega]
    · rw [if_neg hk2]
theorem and_one (x : Int) (h0 : 0 ≤ x) (h1 : x < 18446744073709551616) : bits .and .u64 x 1 = x % 2 := by
  have e1 : ∀ y : Int, 0 ≤ y → y < 18446744073709551616 → (BitVec.ofInt 64 y).toNat = y.toNat := fun y a b => by rw [BitVec.toNat_ofInt]; simp; omega
  unfold bits; show IntKind.u64.wrap ((BitVec.ofInt 64 x &&& BitVec.ofInt 64 1).toNat : Int) = _
  rw [BitVec.toNat_and, e1 _ h0 h1, e1 _ (by omega) (by omega), show (1 : Int).toNat = 1 from rfl, Nat.and_one_is_mod, IntKind.wrap_u64]
  omega
theorem kept_bit (keep : Int) (h0 : 0 ≤ keep) (h1 : keep < 18446744073709551616) (k : Nat) : (bits .and .u64 (keep / (2 : Int) ^ (if (64 : Int) < (k : Int) then (64 : Int) else (k : Int)).toNat) 1 == 0) = !kept keep k := by
  have e : (if (64 : Int) < (k : Int) then (64 : Int) else (k : Int)).toNat = min k 64 := by split <;> omega
  rw [e]
  have hp : (1 : Int) ≤ 2 ^ (min k 64) := by
    have : (0 : Int) < 2 ^ (min k 64) := Int.pow_pos (by decide)
    omega
  have hq0 : 0 ≤ keep / (2 : Int) ^ (min k 64) := Int.ediv_nonneg h0 (by omega)
  have hq1 : keep / (2 : Int) ^ (min k 64) ≤ keep := Int.ediv_le_self _ h0
  rw [and_one _ hq0 (by omega)]
  unfold kept
  generalize keep / (2 : Int) ^ (min k 64) = y
  have : y % 2 = 0 ∨ y % 2 = 1 := by omega
  rcases this with h | h <;> rw [h] <;> rfl
set_option maxHeartbeats 2000000 in
set_option maxRecDepth 100000 in
theorem fail_ok {w : World} {B d : Nat} {F : Nat → Prop} {D : Dk} (h : Disk w B d F D) (hwl : D.waits.length ≤ 1000000) (keep torn : Int) (hk0 : 0 ≤ keep) (hk1 : keep < 18446744073709551616) (ht : -1 ≤ torn) (ht2 : torn < 9223372036854775808) :
    Calls Tryz.prog 20 #[.pointer (some ⟨d, 0, none⟩), .int .u64 keep, .int .i64 torn] w fun e w' => (∃ d' F', e = .returned (.tuple #[.pointer (some ⟨d', 0, none⟩), .int .i64 0]) ∧ Disk w' w.heap.size d' F' (D.fail keep torn)) ∧ Below w.heap.size w w' := by
  have H := Lib.hid h
  obtain ⟨S, E, W, L, hF⟩ := h
  have hsz := size H.out
  have hpos := L.ok.pos
  have hmost := L.ok.most
  obtain ⟨n, hn⟩ : ∃ n, n = D.seen.length := ⟨_, rfl⟩
  have hs := L.sure
  rw [L.ok.same] at hs
  rw [← hn] at hsz hpos hs hmost
  obtain ⟨A1, c1, rfl, -, -, hA1, hA1'⟩ := hs.slice
  cases A1 with
  | none => have := hA1 rfl; omega
  | some a1 =>
  obtain ⟨g1, rfl, hB1, hg1, hr1, ht1⟩ := hA1' _ rfl
  obtain ⟨Aw, cw, rfl, hNcw, -, hAw0, hAw'⟩ := L.waits.slice
  have hc0 := L.cell.1
  have hc2 := L.cell.2.2
  have hdlt : d < w.heap.size := (Array.getElem?_eq_some_iff.1 L.cells).1
  have hz : ((n : Int) == 0) = false := by rw [beq_eq_false_iff_ne]; omega
  have HL := Lib.hid (And.intro L (And.intro hn (And.intro hr1 (And.intro hAw' (And.intro hAw0 hNcw)))))
  have HZ := Lib.hid hsz
  have HK := Lib.hid (And.intro hk0 (And.intro hk1 (And.intro ht ht2)))
  clear L hF hn hs hA1 hA1' hr1 ht1 hsz hAw' hAw0 hNcw
  go_enter Tryz.func20, Tryz.ntmps20
  go_wp2_with fail
  refine HZ.out.mono ?_
  rintro e w' ⟨rfl, h⟩
  subst h
  go_wp2_with fail
  refine (clonep g1 n c1 D.sure w' (by rw [HL.out.1.ok.same, HL.out.2.1]) hmost HL.out.1.ok.sure HL.out.2.2.1).mono ?_
  rintro e w2 ⟨v, rfl, o2, b2⟩
  obtain ⟨A2, c2, rfl, hnc2, -, hA2, hA2'⟩ := o2.slice
  cases A2 with
  | none => have := hA2 rfl; omega
  | some a2 =>
  obtain ⟨g2, rfl, hB2, hg2, hr2, ht2'⟩ := hA2' _ rfl
  have H2 := Lib.hid (And.intro o2 b2)
  clear hA2 hA2' hr2 ht2' o2
  have b3 : Below w'.heap.size w' (w2.alloc (.cells #[.slice (some ⟨g2, 0, none⟩) n c2, .slice none 0 0, .slice none 0 0] 142)) := b2.alloc b2.size _
  have hc2' : (w2.alloc (.cells #[.slice (some ⟨g2, 0, none⟩) n c2, .slice none 0 0, .slice none 0 0] 142)).cell? ⟨d, 2, none⟩ = some (.slice Aw D.waits.length cw) := by
    rw [b3.cell (p := ⟨d, 2, none⟩) hdlt]; exact hc2
  have r3 := H2.out.1.alloc (.cells #[.slice (some ⟨g2, 0, none⟩) n c2, .slice none 0 0, .slice none 0 0] 142)
  have d3 := heap_alloc_new w2 (.cells #[.slice (some ⟨g2, 0, none⟩) n c2, .slice none 0 0, .slice none 0 0] 142)
  have hgd : g2 ≠ w2.heap.size := by omega
  have H3 := Lib.hid (And.intro b3 (And.intro r3 d3))
  have hb2 := b2.size
  clear b2 b3 r3 d3 hc0 hc2 H2
  go_wp2
  obtain ⟨N, hN⟩ : ∃ N, N = D.waits.length := ⟨_, rfl⟩
  rw [← hN] at hwl ⊢
  obtain ⟨Z, hZ⟩ : ∃ Z : Array Value, Z = (.int .i64 0 :: List.replicate 64 (.int .u8 0)).toArray := ⟨_, rfl⟩
  have hz2 : ∀ W, (zeroValue 150).run Tryz.prog W = .ok (.agg Z) W := fun W => by subst hZ; kernel_rfl
  have HN := Lib.hid (And.intro hN hZ)
  clear hN hZ
  go_loopw [31] (fun i wr => ∃ k : Nat, k ≤ N ∧ i = .int .i64 k ∧ Hid (Below w'.heap.size w' wr) ∧ Hid (RowV wr w'.heap.size 148 64 (.slice (some ⟨g2, 0, none⟩) n c2) n (pcs (failK keep torn D.sure D.waits k))) ∧
    Hid (wr.heap[w2.heap.size]? = some (.cells #[.slice (some ⟨g2, 0, none⟩) n c2, .slice none 0 0, .slice none 0 0] 142 (0, 0)))) (fun i _ => N - (intOf i).toNat)
  case atStart => exact ⟨0, by omega, rfl, H3.out.1, H3.out.2.1, H3.out.2.2⟩
  case round =>
    obtain ⟨k, hk, rfl, hbd, hrow, hdk⟩ := hrel
    by_cases hlt : k < N
    · obtain ⟨gw, rfl, hgwB, hgw, hrw⟩ : ∃ gw, Aw = some ⟨gw, 0, none⟩ ∧ B ≤ gw ∧ gw < w'.heap.size ∧ w'.rangeAt gw 0 (wcs D.waits) := by
        cases Aw with
        | none => have := HL.out.2.2.2.2.1 rfl; have := HN.out.1; omega
        | some aw =>
          obtain ⟨gw, e, h1, h2, h3, _⟩ := HL.out.2.2.2.1 _ rfl
          exact ⟨gw, by rw [e], h1, h2, h3⟩
      have hNc := HL.out.2.2.2.2.2
      rw [← HN.out.1] at hNc
      obtain ⟨x, hx⟩ : ∃ x, D.waits[k]? = some x := ⟨_, List.getElem?_eq_getElem (by rw [← HN.out.1]; exact hlt)⟩
      have hxo := HL.out.1.ok.waits x (List.mem_of_getElem? hx)
      rw [← HL.out.2.1] at hxo
      obtain ⟨cs, hcs⟩ : ∃ cs, cs = (Value.int .i64 x.1 :: x.2.map (Value.int .u8)) := ⟨_, rfl⟩
      have hcl : cs.length = 65 := by rw [hcs]; simp [hxo.1.1]
      have hrk : wr.rangeAt gw (k * 65) cs := by
        intro j v hv
        have hj : j < 65 := by rw [← hcl]; exact (List.getElem?_eq_some_iff.1 hv).1
        have h1 := wcs_get D.waits k j x (fun y hy => (HL.out.1.ok.waits y hy).1.1) hx hj
        rw [← hcs] at h1
        have h2 := hrw (k * 65 + j) v (h1.trans hv)
        rw [Nat.zero_add] at h2
        rw [hbd.out.cell (p := ⟨gw, k * 65 + j, none⟩) hgw]
        exact h2
      have hzs : Z.size = 65 := by rw [HN.out.2]; simp
      have hnew := heap_alloc_new wr (.cells Z 150)
      have hth : (wr.alloc (.cells Z 150)).there wr.heap.size 0 cs.toArray.size := by
        intro j hj
        simp only [List.size_toArray, hcl] at hj
        rw [Nat.zero_add]
        exact ⟨by rw [cell_of_row _ _ _ _ _ _ hnew, Array.getElem?_eq_getElem (by omega)]; rfl, frozen_of_row _ _ _ _ _ hnew⟩
      have hone : cs.toArray.all (·.oneCell') = true := all_oneCell_toArray (fun v hv => by
        rw [hcs] at hv
        rcases List.mem_cons.1 hv with rfl | hv
        · rfl
        · obtain ⟨y, _, rfl⟩ := List.mem_map.1 hv; rfl)
      have hsize : (Tryz.prog.info? 150).map (·.size) = some cs.length := by rw [hcl]; kernel_rfl
      have hsize2 : (Tryz.prog.info? 150).map (·.size) = some cs.toArray.size := by simp only [List.size_toArray]; exact hsize
      have HC := Lib.hid (And.intro hcs (And.intro hcl (And.intro hxo hx)))
      have HR := Lib.hid (And.intro hrk (And.intro hth (And.intro hone (And.intro hsize hsize2))))
      clear hcs hcl hxo hx hrk hth hone hsize hsize2 hzs hnew hrw
      have hbit := kept_bit keep HK.out.1 HK.out.2.1 k
      have b5 : Below w'.heap.size w' ((wr.alloc (.cells Z 150)).setCells wr.heap.size 0 cs) := (hbd.out.alloc hbd.out.size _).trans ((chg_setCells wr.heap.size cs 0 _).to_below (by have := hbd.out.size; simp; omega) (fun k hk => by rw [hk]; exact hbd.out.size))
      have r5 : RowV ((wr.alloc (.cells Z 150)).setCells wr.heap.size 0 cs) w'.heap.size 148 64 (.slice (some ⟨g2, 0, none⟩) n c2) n (pcs (failK keep torn D.sure D.waits k)) :=
        (hrow.out.alloc _).kept (chg_setCells wr.heap.size cs 0 _) (fun j hj h => by have := (hrow.out.lt j hj).2; omega)
      have hdl : w2.heap.size < wr.heap.size := (Array.getElem?_eq_some_iff.1 hdk.out).1
      have d5 : ((wr.alloc (.cells Z 150)).setCells wr.heap.size 0 cs).heap[w2.heap.size]? = some (.cells #[.slice (some ⟨g2, 0, none⟩) n c2, .slice none 0 0, .slice none 0 0] 142 (0, 0)) := by
        rw [(chg_setCells wr.heap.size cs 0 _).block _ (by simp; omega) (by omega), Below.heap_alloc _ _ _ hdl]; exact hdk.out
      have p5 : ((wr.alloc (.cells Z 150)).setCells wr.heap.size 0 cs).rangeAt wr.heap.size 0 cs := World.rangeAt_setCells_same _ _ _ _ (by have := HR.out.2.1; simpa using this)
      have hgl2 : g2 < wr.heap.size := (hrow.out.lt g2 rfl).2
      have H5 := Lib.hid (And.intro b5 (And.intro r5 (And.intro d5 p5)))
      clear b5 r5 d5 p5
      cases hkp : kept keep k with
      | false =>
        rw [hkp] at hbit
        have hbit : (bits .and .u64 (keep / (2 : Int) ^ (if (64 : Int) < (k : Int) then (64 : Int) else (k : Int)).toNat) 1 == 0) = true := hbit
        go_wp2_with (first
          | (refine wpList_load_mid rfl _ (.tmp 34) rfl gw (k * 65) rfl cs _ HR.out.1 Tryz.underlying150 rfl HR.out.2.2.2.1 ?_)
          | (refine wpList_store_mid rfl _ (.tmp 10) (.tmp 35) rfl wr.heap.size 0 cs.toArray rfl rfl HR.out.2.1 HR.out.2.2.2.2 HR.out.2.2.1 ?_; clear hz2))
        go_roundw
        case rel =>
          refine ⟨k + 1, by omega, rfl, H5.out.1, ?_, H5.out.2.2.1⟩
          have e : failK keep torn D.sure D.waits (k + 1) = failK keep torn D.sure D.waits k := by
            show (match D.waits[k]? with | none => _ | some x => _) = _
            rw [HC.out.2.2.2]
            show step _ _ _ _ _ = _
            unfold step
            rw [hkp]; rfl
          rw [e]; exact H5.out.2.1
        case measure => simp [intOf]; omega
      | true =>
        rw [hkp] at hbit
        have hbit : (bits .and .u64 (keep / (2 : Int) ^ (if (64 : Int) < (k : Int) then (64 : Int) else (k : Int)).toNat) 1 == 0) = false := hbit
        obtain ⟨M, hM⟩ : ∃ M : Nat, M = part torn k := ⟨_, rfl⟩
        obtain ⟨a, ha⟩ : ∃ a : Nat, x.1 = a := ⟨x.1.toNat, by have := HC.out.2.2.1.2.1; omega⟩
        have han : a < n := by have := HC.out.2.2.1.2.2; omega
        have hq1 : ((wr.alloc (.cells Z 150)).setCells wr.heap.size 0 cs).cell? ⟨w2.heap.size, 0, none⟩ = some (.slice (some ⟨g2, 0, none⟩) n c2) := by rw [cell_of_row _ _ _ _ _ _ H5.out.2.2.1]; rfl
        have hq2 : ((wr.alloc (.cells Z 150)).setCells wr.heap.size 0 cs).cell? ⟨wr.heap.size, 0, none⟩ = some (.int .i64 a) := by
          have h := H5.out.2.2.2 0 (.int .i64 x.1) (by rw [HC.out.1]; rfl)
          rw [ha] at h
          exact h
        have HA := Lib.hid ha
        clear ha
        by_cases htk : (k : Int) = torn
        · have htk' : ((k : Int) == torn) = true := by rw [beq_iff_eq]; exact htk
          have hM2 : M = 32 := by rw [hM]; unfold part; rw [if_pos htk]
          have HM := Lib.hid (And.intro hM hM2)
          clear htk hM hM2
          have hMl : (32 : Int) ≤ (Tryz.prog.arrayLen 148 : Int) := by rw [show Tryz.prog.arrayLen 148 = 64 from by kernel_rfl]; decide
          go_wp2_with (first
            | (refine wpList_load_mid rfl _ (.tmp 34) rfl gw (k * 65) rfl cs _ HR.out.1 Tryz.underlying150 rfl HR.out.2.2.2.1 ?_)
            | (refine wpList_store_mid rfl _ (.tmp 10) (.tmp 35) rfl wr.heap.size 0 cs.toArray rfl rfl HR.out.2.1 HR.out.2.2.2.2 HR.out.2.2.1 ?_; clear hz2))
          all_goals
            refine wp_region_sl [.one (0, true, some 47), .one (1, true, some 48), .one (2, true, some 49), .one (3, true, some 50), .one (4, true, some 51), .one (5, true, some 52), .one (6, true, some 53), .one (7, true, some 54), .one (8, true, some 55), .one (9, true, some 56), .one (10, true, some 57), .one (11, false, some 58)]
                [.one ⟨true, some 47, (Go.Op.move (Go.Operand.tmp 8)), 24, none⟩,
                .one ⟨true, some 48, (Go.Op.nilCheck (Go.Operand.tmp 47)), 0, none⟩,
                .one ⟨true, some 49, (Go.Op.fieldAddr 142 (Go.Operand.tmp 48) 0), 0, none⟩,
                .one ⟨true, some 50, (Go.Op.load 139 (Go.Operand.tmp 49)), 139, none⟩,
                .one ⟨true, some 51, (Go.Op.fieldAddr 150 (Go.Operand.tmp 10) 0), 0, none⟩,
                .one ⟨true, some 52, (Go.Op.load 3 (Go.Operand.tmp 51)), 3, none⟩,
                .one ⟨true, some 53, (Go.Op.indexAddr 139 (Go.Operand.tmp 50) (Go.Operand.tmp 52)), 0, none⟩,
                .one ⟨true, some 54, (Go.Op.move (Go.Operand.tmp 11)), 3, none⟩,
                .one ⟨true, some 55, (Go.Op.slice 148 (Go.Operand.tmp 53) none (some (Go.Operand.tmp 54)) none), 45, none⟩,
                .one ⟨true, some 56, (Go.Op.fieldAddr 150 (Go.Operand.tmp 10) 1), 0, none⟩,
                .one ⟨true, some 57, (Go.Op.slice 148 (Go.Operand.tmp 56) none none none), 45, none⟩,
                .one ⟨false, some 58, (Go.Op.call { callee := (Go.Callee.builtin Go.Builtin.copy), args := #[(Go.Operand.tmp 55), (Go.Operand.tmp 57)], argTypes := #[45, 45] }), 3, none⟩]
                (fun w3 => w3.cell? ⟨w2.heap.size, 0, none⟩ = some (.slice (some ⟨g2, 0, none⟩) n c2) ∧ w3.cell? ⟨wr.heap.size, 0, none⟩ = some (.int .i64 a)) rfl (by kernel_rfl) (by kernel_rfl) ?_ ?_
            · exact ⟨hq1, hq2⟩
            (repeat (first | ((with_reducible refine sq (v := ?_) (a' := ?_) ?_ ?_ ?_); rotate_left 2; (focus (intro w' hS; go_simp; (first | done | with_reducible rfl | rfl))); (simp only [Act.put, List.setIfInBounds_toArray, List.set_cons_zero, List.set_cons_succ]; rfl)) | ((with_reducible refine sn (a' := ?_) ?_ ?_ ?_); rotate_left; (focus rfl); (simp only [Act.put, List.setIfInBounds_toArray, List.set_cons_zero, List.set_cons_succ]; rfl)) | ((with_reducible refine sf trivial (a' := ?_) ?_ ?_ ?_); rotate_left; (focus rfl); (simp only [Act.put, List.setIfInBounds_toArray, List.set_cons_zero, List.set_cons_succ]; rfl)) | ((with_reducible refine sqg (v := ?_) (a' := ?_) ?_ ?_ ?_ ?_); rotate_left 2; (focus rfl); (focus (intro w' hS; go_simp; (first | done | with_reducible rfl | rfl))); (simp only [Act.put, List.setIfInBounds_toArray, List.set_cons_zero, List.set_cons_succ]; rfl)))); (repeat ((go_bits; (first | ((with_reducible refine sq (v := ?_) (a' := ?_) ?_ ?_ ?_); rotate_left 2; (focus (intro w' hS; go_simp; (first | done | with_reducible rfl | rfl))); (simp only [Act.put, List.setIfInBounds_toArray, List.set_cons_zero, List.set_cons_succ]; rfl)) | ((with_reducible refine sn (a' := ?_) ?_ ?_ ?_); rotate_left; (focus rfl); (simp only [Act.put, List.setIfInBounds_toArray, List.set_cons_zero, List.set_cons_succ]; rfl)) | ((with_reducible refine sf trivial (a' := ?_) ?_ ?_ ?_); rotate_left; (focus rfl); (simp only [Act.put, List.setIfInBounds_toArray, List.set_cons_zero, List.set_cons_succ]; rfl)) | ((with_reducible refine sqg (v := ?_) (a' := ?_) ?_ ?_ ?_ ?_); rotate_left 2; (focus rfl); (focus (intro w' hS; go_simp; (first | done | with_reducible rfl | rfl))); (simp only [Act.put, List.setIfInBounds_toArray, List.set_cons_zero, List.set_cons_succ]; rfl)))); (repeat (first | ((with_reducible refine sq (v := ?_) (a' := ?_) ?_ ?_ ?_); rotate_left 2; (focus (intro w' hS; go_simp; (first | done | with_reducible rfl | rfl))); (simp only [Act.put, List.setIfInBounds_toArray, List.set_cons_zero, List.set_cons_succ]; rfl)) | ((with_reducible refine sn (a' := ?_) ?_ ?_ ?_); rotate_left; (focus rfl); (simp only [Act.put, List.setIfInBounds_toArray, List.set_cons_zero, List.set_cons_succ]; rfl)) | ((with_reducible refine sf trivial (a' := ?_) ?_ ?_ ?_); rotate_left; (focus rfl); (simp only [Act.put, List.setIfInBounds_toArray, List.set_cons_zero, List.set_cons_succ]; rfl)) | ((with_reducible refine sqg (v := ?_) (a' := ?_) ?_ ?_ ?_ ?_); rotate_left 2; (focus rfl); (focus (intro w' hS; go_simp; (first | done | with_reducible rfl | rfl))); (simp only [Act.put, List.setIfInBounds_toArray, List.set_cons_zero, List.set_cons_succ]; rfl)))))); (try go_bits)
            refine se' fun K hK => ?_
            obtain ⟨w5, hw5⟩ : ∃ w5, w5 = ((wr.alloc (.cells Z 150)).setCells wr.heap.size 0 cs).drew := ⟨_, rfl⟩
            rw [← hw5]
            have b5 : Below w'.heap.size w' w5 := by rw [hw5]; exact H5.out.1.drew
            have r5 : RowV w5 w'.heap.size 148 64 (.slice (some ⟨g2, 0, none⟩) n c2) n (pcs (failK keep torn D.sure D.waits k)) := by rw [hw5]; exact H5.out.2.1.kept (Chg.drew _) (fun _ _ h => h)
            have d5 : w5.heap[w2.heap.size]? = some (.cells #[.slice (some ⟨g2, 0, none⟩) n c2, .slice none 0 0, .slice none 0 0] 142 (0, 0)) := by rw [hw5]; exact H5.out.2.2.1
            have p5 : w5.rangeAt wr.heap.size 0 cs := by rw [hw5]; exact H5.out.2.2.2
            have q5 : w5.cell? ⟨wr.heap.size, 0, none⟩ = some (.int .i64 a) := by rw [hw5]; exact hq2
            have hcT : ((x.2.take 32).map (Value.int .u8)).length = 32 := by rw [List.length_map, List.length_take, HC.out.2.2.1.1.1]; rfl
            have hfk := failK_pc HL.out.1.ok keep torn k
            rw [← HL.out.2.1] at hfk
            have hth5 : w5.there g2 0 (n * 64) := by
              obtain ⟨A3, c3, e3, -, -, -, h3⟩ := r5.slice
              injection e3 with e4
              obtain ⟨g3, e5, _, _, _, h4⟩ := h3 _ e4.symm
              injection e5 with e5
              subst e5
              exact h4
            refine wp_copy_v (.tmp 55) (.tmp 57) _ _ 5 1 g2 (a * 64) 32 64 ⟨wr.heap.size, 1, none⟩ 64 64 32 ((x.2.take 32).map (Value.int .u8)) rfl rfl rfl Tryz.underlying45 (by kernel_rfl) rfl (by rw [hcT]) ?_ ?_ (fun v hv => by obtain ⟨y, _, rfl⟩ := List.mem_map.1 hv; rfl) ?_
            · intro j v hv
              have hj : j < 32 := by rw [← hcT]; exact (List.getElem?_eq_some_iff.1 hv).1
              rw [Addr.add_mid]
              have h1 := p5 (1 + j) v (by
                rw [HC.out.1, Nat.add_comm, List.getElem?_cons_succ]
                rw [List.map_take, List.getElem?_take, if_pos hj] at hv
                exact hv)
              rw [Nat.zero_add] at h1
              exact h1
            · intro j hj
              rw [hcT] at hj
              have h1 := hth5 (a * 64 + j) (by omega)
              rw [Nat.zero_add] at h1
              exact h1
            have c6 := chg_setCells g2 ((x.2.take 32).map (Value.int .u8)) (a * 64) w5
            have r6 : RowV (w5.setCells g2 (a * 64) ((x.2.take 32).map (Value.int .u8))) w'.heap.size 148 64 (.slice (some ⟨g2, 0, none⟩) n c2) n (pcs (failK keep torn D.sure D.waits (k + 1))) := by
              have h1 := r5.set (a * 64) ((x.2.take 32).map (Value.int .u8)) (by rw [hcT]; omega)
              rw [pcs_part hfk.2 (by rw [hfk.1]; exact han) HC.out.2.2.1.1 (by decide)] at h1
              have e : failK keep torn D.sure D.waits (k + 1) = (failK keep torn D.sure D.waits k).set a (x.2.take 32 ++ ((failK keep torn D.sure D.waits k).getD a []).drop 32) := by
                show (match D.waits[k]? with | none => _ | some x => _) = _
                rw [HC.out.2.2.2]
                show step _ _ _ _ _ = _
                unfold step
                rw [hkp, if_pos rfl, HA.out, Int.toNat_natCast, ← HM.out.1, HM.out.2]
              rw [e]; exact h1
            have d6 : (w5.setCells g2 (a * 64) ((x.2.take 32).map (Value.int .u8))).heap[w2.heap.size]? = some (.cells #[.slice (some ⟨g2, 0, none⟩) n c2, .slice none 0 0, .slice none 0 0] 142 (0, 0)) := by
              rw [c6.block _ (Array.getElem?_eq_some_iff.1 d5).1 (Ne.symm hgd)]; exact d5
            have b6 : Below w'.heap.size w' (w5.setCells g2 (a * 64) ((x.2.take 32).map (Value.int .u8))) := c6.below b5 b5.size (fun k hk => by rw [hk]; exact hB2)
            refine hK _ _ ⟨by rw [cell_of_row _ _ _ _ _ _ d6]; rfl, by rw [World.cell?_setCells_out _ _ _ _ _ (fun hb _ => by have hb : wr.heap.size = g2 := hb; omega)]; exact q5⟩ fun a'' ha => ?_
            have H6 := Lib.hid (And.intro b6 (And.intro r6 d6))
            obtain ⟨w6, hw6⟩ : ∃ w6, w6 = w5.setCells g2 (a * 64) ((x.2.take 32).map (Value.int .u8)) := ⟨_, rfl⟩
            rw [← hw6] at H6 ⊢
            clear hK b5 r5 d5 p5 q5 hcT hfk hth5 c6 r6 d6 b6 hw5 hw6 hq1 hq2
            try (simp only [Act.put, List.setIfInBounds_toArray, List.set_cons_zero, List.set_cons_succ] at ha)
            subst ha
            refine sl_end ?_
            go_wp2
            go_roundw
            case rel => exact ⟨k + 1, by omega, rfl, H6.out.1, H6.out.2.1, H6.out.2.2⟩
            case measure => simp [intOf]; omega
        · have htk' : ((k : Int) == torn) = false := by rw [beq_eq_false_iff_ne]; exact htk
          have hM2 : M = 64 := by rw [hM]; unfold part; rw [if_neg htk]
          have HM := Lib.hid (And.intro hM hM2)
          clear htk hM hM2
          have hMl : (64 : Int) ≤ (Tryz.prog.arrayLen 148 : Int) := by rw [show Tryz.prog.arrayLen 148 = 64 from by kernel_rfl]; decide
          go_wp2_with (first
            | (refine wpList_load_mid rfl _ (.tmp 34) rfl gw (k * 65) rfl cs _ HR.out.1 Tryz.underlying150 rfl HR.out.2.2.2.1 ?_)
            | (refine wpList_store_mid rfl _ (.tmp 10) (.tmp 35) rfl wr.heap.size 0 cs.toArray rfl rfl HR.out.2.1 HR.out.2.2.2.2 HR.out.2.2.1 ?_; clear hz2))
          all_goals
            refine wp_region_sl [.one (0, true, some 47), .one (1, true, some 48), .one (2, true, some 49), .one (3, true, some 50), .one (4, true, some 51), .one (5, true, some 52), .one (6, true, some 53), .one (7, true, some 54), .one (8, true, some 55), .one (9, true, some 56), .one (10, true, some 57), .one (11, false, some 58)]
                [.one ⟨true, some 47, (Go.Op.move (Go.Operand.tmp 8)), 24, none⟩,
                .one ⟨true, some 48, (Go.Op.nilCheck (Go.Operand.tmp 47)), 0, none⟩,
                .one ⟨true, some 49, (Go.Op.fieldAddr 142 (Go.Operand.tmp 48) 0), 0, none⟩,
                .one ⟨true, some 50, (Go.Op.load 139 (Go.Operand.tmp 49)), 139, none⟩,
                .one ⟨true, some 51, (Go.Op.fieldAddr 150 (Go.Operand.tmp 10) 0), 0, none⟩,
                .one ⟨true, some 52, (Go.Op.load 3 (Go.Operand.tmp 51)), 3, none⟩,
                .one ⟨true, some 53, (Go.Op.indexAddr 139 (Go.Operand.tmp 50) (Go.Operand.tmp 52)), 0, none⟩,
                .one ⟨true, some 54, (Go.Op.move (Go.Operand.tmp 11)), 3, none⟩,
                .one ⟨true, some 55, (Go.Op.slice 148 (Go.Operand.tmp 53) none (some (Go.Operand.tmp 54)) none), 45, none⟩,
                .one ⟨true, some 56, (Go.Op.fieldAddr 150 (Go.Operand.tmp 10) 1), 0, none⟩,
                .one ⟨true, some 57, (Go.Op.slice 148 (Go.Operand.tmp 56) none none none), 45, none⟩,
                .one ⟨false, some 58, (Go.Op.call { callee := (Go.Callee.builtin Go.Builtin.copy), args := #[(Go.Operand.tmp 55), (Go.Operand.tmp 57)], argTypes := #[45, 45] }), 3, none⟩]
                (fun w3 => w3.cell? ⟨w2.heap.size, 0, none⟩ = some (.slice (some ⟨g2, 0, none⟩) n c2) ∧ w3.cell? ⟨wr.heap.size, 0, none⟩ = some (.int .i64 a)) rfl (by kernel_rfl) (by kernel_rfl) ?_ ?_
            · exact ⟨hq1, hq2⟩
            (repeat (first | ((with_reducible refine sq (v := ?_) (a' := ?_) ?_ ?_ ?_); rotate_left 2; (focus (intro w' hS; go_simp; (first | done | with_reducible rfl | rfl))); (simp only [Act.put, List.setIfInBounds_toArray, List.set_cons_zero, List.set_cons_succ]; rfl)) | ((with_reducible refine sn (a' := ?_) ?_ ?_ ?_); rotate_left; (focus rfl); (simp only [Act.put, List.setIfInBounds_toArray, List.set_cons_zero, List.set_cons_succ]; rfl)) | ((with_reducible refine sf trivial (a' := ?_) ?_ ?_ ?_); rotate_left; (focus rfl); (simp only [Act.put, List.setIfInBounds_toArray, List.set_cons_zero, List.set_cons_succ]; rfl)) | ((with_reducible refine sqg (v := ?_) (a' := ?_) ?_ ?_ ?_ ?_); rotate_left 2; (focus rfl); (focus (intro w' hS; go_simp; (first | done | with_reducible rfl | rfl))); (simp only [Act.put, List.setIfInBounds_toArray, List.set_cons_zero, List.set_cons_succ]; rfl)))); (repeat ((go_bits; (first | ((with_reducible refine sq (v := ?_) (a' := ?_) ?_ ?_ ?_); rotate_left 2; (focus (intro w' hS; go_simp; (first | done | with_reducible rfl | rfl))); (simp only [Act.put, List.setIfInBounds_toArray, List.set_cons_zero, List.set_cons_succ]; rfl)) | ((with_reducible refine sn (a' := ?_) ?_ ?_ ?_); rotate_left; (focus rfl); (simp only [Act.put, List.setIfInBounds_toArray, List.set_cons_zero, List.set_cons_succ]; rfl)) | ((with_reducible refine sf trivial (a' := ?_) ?_ ?_ ?_); rotate_left; (focus rfl); (simp only [Act.put, List.setIfInBounds_toArray, List.set_cons_zero, List.set_cons_succ]; rfl)) | ((with_reducible refine sqg (v := ?_) (a' := ?_) ?_ ?_ ?_ ?_); rotate_left 2; (focus rfl); (focus (intro w' hS; go_simp; (first | done | with_reducible rfl | rfl))); (simp only [Act.put, List.setIfInBounds_toArray, List.set_cons_zero, List.set_cons_succ]; rfl)))); (repeat (first | ((with_reducible refine sq (v := ?_) (a' := ?_) ?_ ?_ ?_); rotate_left 2; (focus (intro w' hS; go_simp; (first | done | with_reducible rfl | rfl))); (simp only [Act.put, List.setIfInBounds_toArray, List.set_cons_zero, List.set_cons_succ]; rfl)) | ((with_reducible refine sn (a' := ?_) ?_ ?_ ?_); rotate_left; (focus rfl); (simp only [Act.put, List.setIfInBounds_toArray, List.set_cons_zero, List.set_cons_succ]; rfl)) | ((with_reducible refine sf trivial (a' := ?_) ?_ ?_ ?_); rotate_left; (focus rfl); (simp only [Act.put, List.setIfInBounds_toArray, List.set_cons_zero, List.set_cons_succ]; rfl)) | ((with_reducible refine sqg (v := ?_) (a' := ?_) ?_ ?_ ?_ ?_); rotate_left 2; (focus rfl); (focus (intro w' hS; go_simp; (first | done | with_reducible rfl | rfl))); (simp only [Act.put, List.setIfInBounds_toArray, List.set_cons_zero, List.set_cons_succ]; rfl)))))); (try go_bits)
            refine se' fun K hK => ?_
            obtain ⟨w5, hw5⟩ : ∃ w5, w5 = ((wr.alloc (.cells Z 150)).setCells wr.heap.size 0 cs).drew := ⟨_, rfl⟩
            rw [← hw5]
            have b5 : Below w'.heap.size w' w5 := by rw [hw5]; exact H5.out.1.drew
            have r5 : RowV w5 w'.heap.size 148 64 (.slice (some ⟨g2, 0, none⟩) n c2) n (pcs (failK keep torn D.sure D.waits k)) := by rw [hw5]; exact H5.out.2.1.kept (Chg.drew _) (fun _ _ h => h)
            have d5 : w5.heap[w2.heap.size]? = some (.cells #[.slice (some ⟨g2, 0, none⟩) n c2, .slice none 0 0, .slice none 0 0] 142 (0, 0)) := by rw [hw5]; exact H5.out.2.2.1
            have p5 : w5.rangeAt wr.heap.size 0 cs := by rw [hw5]; exact H5.out.2.2.2
            have q5 : w5.cell? ⟨wr.heap.size, 0, none⟩ = some (.int .i64 a) := by rw [hw5]; exact hq2
            have hcT : ((x.2.take 64).map (Value.int .u8)).length = 64 := by rw [List.length_map, List.length_take, HC.out.2.2.1.1.1]; rfl
            have hfk := failK_pc HL.out.1.ok keep torn k
            rw [← HL.out.2.1] at hfk
            have hth5 : w5.there g2 0 (n * 64) := by
              obtain ⟨A3, c3, e3, -, -, -, h3⟩ := r5.slice
              injection e3 with e4
              obtain ⟨g3, e5, _, _, _, h4⟩ := h3 _ e4.symm
              injection e5 with e5
              subst e5
              exact h4
            refine wp_copy_v (.tmp 55) (.tmp 57) _ _ 5 1 g2 (a * 64) 64 64 ⟨wr.heap.size, 1, none⟩ 64 64 64 ((x.2.take 64).map (Value.int .u8)) rfl rfl rfl Tryz.underlying45 (by kernel_rfl) rfl (by rw [hcT]) ?_ ?_ (fun v hv => by obtain ⟨y, _, rfl⟩ := List.mem_map.1 hv; rfl) ?_
            · intro j v hv
              have hj : j < 64 := by rw [← hcT]; exact (List.getElem?_eq_some_iff.1 hv).1
              rw [Addr.add_mid]
              have h1 := p5 (1 + j) v (by
                rw [HC.out.1, Nat.add_comm, List.getElem?_cons_succ]
                rw [List.map_take, List.getElem?_take, if_pos hj] at hv
                exact hv)
              rw [Nat.zero_add] at h1
              exact h1
            · intro j hj
              rw [hcT] at hj
              have h1 := hth5 (a * 64 + j) (by omega)
              rw [Nat.zero_add] at h1
              exact h1
            have c6 := chg_setCells g2 ((x.2.take 64).map (Value.int .u8)) (a * 64) w5
            have r6 : RowV (w5.setCells g2 (a * 64) ((x.2.take 64).map (Value.int .u8))) w'.heap.size 148 64 (.slice (some ⟨g2, 0, none⟩) n c2) n (pcs (failK keep torn D.sure D.waits (k + 1))) := by
              have h1 := r5.set (a * 64) ((x.2.take 64).map (Value.int .u8)) (by rw [hcT]; omega)
              rw [pcs_part hfk.2 (by rw [hfk.1]; exact han) HC.out.2.2.1.1 (by decide)] at h1
              have e : failK keep torn D.sure D.waits (k + 1) = (failK keep torn D.sure D.waits k).set a (x.2.take 64 ++ ((failK keep torn D.sure D.waits k).getD a []).drop 64) := by
                show (match D.waits[k]? with | none => _ | some x => _) = _
                rw [HC.out.2.2.2]
                show step _ _ _ _ _ = _
                unfold step
                rw [hkp, if_pos rfl, HA.out, Int.toNat_natCast, ← HM.out.1, HM.out.2]
              rw [e]; exact h1
            have d6 : (w5.setCells g2 (a * 64) ((x.2.take 64).map (Value.int .u8))).heap[w2.heap.size]? = some (.cells #[.slice (some ⟨g2, 0, none⟩) n c2, .slice none 0 0, .slice none 0 0] 142 (0, 0)) := by
              rw [c6.block _ (Array.getElem?_eq_some_iff.1 d5).1 (Ne.symm hgd)]; exact d5
            have b6 : Below w'.heap.size w' (w5.setCells g2 (a * 64) ((x.2.take 64).map (Value.int .u8))) := c6.below b5 b5.size (fun k hk => by rw [hk]; exact hB2)
            refine hK _ _ ⟨by rw [cell_of_row _ _ _ _ _ _ d6]; rfl, by rw [World.cell?_setCells_out _ _ _ _ _ (fun hb _ => by have hb : wr.heap.size = g2 := hb; omega)]; exact q5⟩ fun a'' ha => ?_
            have H6 := Lib.hid (And.intro b6 (And.intro r6 d6))
            obtain ⟨w6, hw6⟩ : ∃ w6, w6 = w5.setCells g2 (a * 64) ((x.2.take 64).map (Value.int .u8)) := ⟨_, rfl⟩
            rw [← hw6] at H6 ⊢
            clear hK b5 r5 d5 p5 q5 hcT hfk hth5 c6 r6 d6 b6 hw5 hw6 hq1 hq2
            try (simp only [Act.put, List.setIfInBounds_toArray, List.set_cons_zero, List.set_cons_succ] at ha)
            subst ha
            refine sl_end ?_
            go_wp2
            go_roundw
            case rel => exact ⟨k + 1, by omega, rfl, H6.out.1, H6.out.2.1, H6.out.2.2⟩
            case measure => simp [intOf]; omega
    · obtain rfl : N = k := by omega
      clear hz2
      have hfk := failK_pc HL.out.1.ok keep torn D.waits.length
      have hd0 : wr.cell? ⟨w2.heap.size, 0, none⟩ = some (.slice (some ⟨g2, 0, none⟩) n c2) := by rw [cell_of_row _ _ _ _ _ _ hdk.out]; rfl
      obtain ⟨s, hs⟩ : ∃ s, s = failK keep torn D.sure D.waits N := ⟨_, rfl⟩
      have hsN : s = failK keep torn D.sure D.waits D.waits.length := by rw [hs, HN.out.1]
      have hrow2 := hrow.out
      rw [← hs] at hrow2
      rw [← hsN] at hfk
      have hrg : wr.rangeAt g2 0 (pcs s) := by
        obtain ⟨A3, c3, e3, -, -, -, h3⟩ := hrow2.slice
        injection e3 with e4
        obtain ⟨g3, e5, _, _, h4, _⟩ := h3 _ e4.symm
        injection e5 with e5
        subst e5
        exact h4
      have HS := Lib.hid (And.intro hsN (And.intro hrow2 (And.intro hrg hfk)))
      clear hs hsN hrow2 hrg hfk hrow
      go_wp2_with fail
      refine (clonep g2 n c2 s wr (by rw [HS.out.2.2.2.1, HL.out.2.1]) hmost HS.out.2.2.2.2 HS.out.2.2.1).mono ?_
      rintro e w4 ⟨v4, rfl, o4, b4⟩
      have hd4 : w4.heap[w2.heap.size]? = some (.cells #[.slice (some ⟨g2, 0, none⟩) n c2, .slice none 0 0, .slice none 0 0] 142 (0, 0)) := by
        rw [b4.block _ (Array.getElem?_eq_some_iff.1 hdk.out).1]; exact hdk.out
      obtain ⟨A4, c4, hv4, hn4, -, hA4, hA4'⟩ := o4.slice
      cases A4 with
      | none => have := hA4 rfl; omega
      | some a4 =>
      obtain ⟨g4, rfl, hB4, hg4, -, -⟩ := hA4' _ rfl
      subst hv4
      have hcell4 : w4.cell? ⟨w2.heap.size, 1, none⟩ = some (.slice none 0 0) := by rw [cell_of_row _ _ _ _ _ _ hd4]; rfl
      have hf4 : w4.frozen? ⟨w2.heap.size, 1, none⟩ = false := frozen_of_row _ _ _ _ _ hd4
      have hdl : w2.heap.size < wr.heap.size := (Array.getElem?_eq_some_iff.1 hdk.out).1
      have hgl : g2 < wr.heap.size := (HS.out.2.1.lt g2 rfl).2
      have H4 := Lib.hid (And.intro o4 (And.intro b4 hd4))
      clear hA4 hA4' o4 b4 hd4 hd0
      go_wp2
      go_ret2
      refine ⟨⟨_, blocks w2.heap.size (.slice (some ⟨g2, 0, none⟩) n c2) (.slice (some ⟨g4, 0, none⟩) n c4) (.slice none 0 0), rfl, _, _, _, ⟨?_, hb2, ?_, ?_, RowV.nil _ _ _ _, ?_, ?_, ?_, ?_, Sep.nil _, Sep.nil _, HL.out.1.ok.fail keep torn⟩, fun k => Iff.rfl⟩, ?_⟩
      · exact heap_setCell_same w4 w2.heap.size 1 _ 142 _ H4.out.2.2
      · have h := (HS.out.2.1.new H4.out.2.1).kept (Chg.setCell w4 ⟨w2.heap.size, 1, none⟩ (.slice (some ⟨g4, 0, none⟩) n c4)) (fun k hk h => by injection hk with hk; have h : k = w2.heap.size := h; have hk : g2 = k := hk; omega)
        show RowV _ _ _ _ _ (failK keep torn D.sure D.waits D.waits.length).length (pcs (failK keep torn D.sure D.waits D.waits.length))
        rw [← HS.out.1, HS.out.2.2.2.1, ← HL.out.2.1]
        exact h
      · have h := (H4.out.1.lower (B' := w'.heap.size) hbd.out.size).kept (Chg.setCell w4 ⟨w2.heap.size, 1, none⟩ (.slice (some ⟨g4, 0, none⟩) n c4)) (fun k hk h => by injection hk with hk; have h : k = w2.heap.size := h; have hk : g4 = k := hk; omega)
        show RowV _ _ _ _ _ (failK keep torn D.sure D.waits D.waits.length).length (pcs (failK keep torn D.sure D.waits D.waits.length))
        rw [← HS.out.1, HS.out.2.2.2.1, ← HL.out.2.1]
        exact h
      · intro e; injection e with e; exact hgd e
      · intro e; injection e with e; have e : g4 = w2.heap.size := e; omega
      · intro e; simp [Value.ownBlock] at e
      · intro e; injection e with e; have e : g2 = g4 := e; omega
      · exact (hbd.out.trans (below_weak hbd.out.size H4.out.2.1)).setCell hb2 _
end Go.Proofs.YticnjkdaccacaaaGreatDoor.Disk
end
section
namespace Go.Proofs.YticnjkdaccacaaaGreatDoor.Disk
open Go.RowKit Base _root_.Go.Proofs.YticnjkdaccacaaaGreatDoor.Own OwnV Bytes
def blank (n : Nat) : Dk := ⟨List.replicate n (List.replicate 64 0), List.replicate n (List.replicate 64 0), []⟩
theorem blank_pc (n : Nat) : ∀ p ∈ List.replicate n (List.replicate 64 (0 : Int)), Pc p := fun p hp => by
  rw [List.eq_of_mem_replicate hp]; exact ⟨by simp, Bts.zeros _⟩
theorem blank_ok (n : Nat) (h1 : 1 ≤ n) (h2 : n ≤ 4096) : (blank n).ok := ⟨by simp [blank], by simp [blank]; exact h1, by simp [blank]; exact h2, blank_pc n, blank_pc n, fun x hx => by simp [blank] at hx⟩
theorem pcs_blank (n : Nat) : pcs (List.replicate n (List.replicate 64 0)) = List.replicate (n * 64) (Value.int .u8 0) := by
  unfold pcs
  induction n with
  | zero => simp
  | succ n ih =>
    rw [List.replicate_succ, List.flatten_cons, List.map_append, ih, List.map_replicate, List.replicate_append_replicate]
    congr 1; omega
theorem made_rep (z : Array Value) (v : Value) (m : Nat) (hz : z = Array.replicate 64 v) : madeCells z m = Array.replicate m v := by
  subst hz
  apply Array.ext
  · simp [madeCells]
  · intro i h1 h2
    simp only [madeCells, Array.getElem_map, Array.getElem_range, Array.getElem_replicate]
    rw [getElem!_pos _ _ (by simp; omega), Array.getElem_replicate]
theorem mkP (n : Nat) (x : Int) (hx : x = n) (hn : n ≤ 4096) : ∀ W : World, (Instr.makeSlice 139 (.int .i64 x) (.int .i64 x)).run Tryz.prog W = .ok (.slice (some ⟨W.heap.size, 0, none⟩) n n) (W.alloc (.cells (Array.replicate (n * 64) (.int .u8 0)) 148)) := by
  intro W
  subst hx
  obtain ⟨i, hi, hzz⟩ := Option.map_eq_some_iff.1 (show (Tryz.prog.info? 148).map (fun i => (i.zero, i.size, i.bytes)) = some (some (.agg (Array.replicate 64 (.int .u8 0))), 64, 64) by kernel_rfl)
  simp only [Prod.mk.injEq] at hzz
  obtain ⟨hz0, hs, hby⟩ := hzz
  have h := run_make (P := Tryz.prog) W 139 148 i _ Tryz.underlying139 hi hz0 .i64 .i64 (n : Int) (n : Int) (by omega) (by omega) (by rw [hby]; omega) (by omega)
  rw [h, hs, show (Value.agg (Array.replicate 64 (.int .u8 0))).cells = Array.replicate 64 (.int .u8 0) from rfl, made_rep _ (.int .u8 0) _ rfl]
  simp only [Int.toNat_natCast]
theorem made_row (n B : Nat) (w : World) (hB : B ≤ w.heap.size) (hn : n ≤ 4096) : RowV (w.alloc (.cells (Array.replicate (n * 64) (.int .u8 0)) 148)) B 148 64 (.slice (some ⟨w.heap.size, 0, none⟩) n n) n (pcs (List.replicate n (List.replicate 64 0))) := by
  have h := RowV.made (B := B) w 148 64 n (Array.replicate (n * 64) (.int .u8 0)) hB (by simp) (by simp [maxLen]; omega)
  rw [pcs_blank]
  simpa using h
theorem blank_disk {w W : World} {n a b d : Nat} (h1 : 1 ≤ n) (h2 : n ≤ 4096) (hd : W.heap[d]? = some (.cells #[.slice (some ⟨a, 0, none⟩) n n, .slice (some ⟨b, 0, none⟩) n n, .slice none 0 0] 142 (0, 0))) (hB : w.heap.size ≤ d)
    (ha : RowV W w.heap.size 148 64 (.slice (some ⟨a, 0, none⟩) n n) n (pcs (List.replicate n (List.replicate 64 0)))) (hb : RowV W w.heap.size 148 64 (.slice (some ⟨b, 0, none⟩) n n) n (pcs (List.replicate n (List.replicate 64 0))))
    (had : a ≠ d) (hbd : b ≠ d) (hab : a ≠ b) : Disk W w.heap.size d (blocks d (.slice (some ⟨a, 0, none⟩) n n) (.slice (some ⟨b, 0, none⟩) n n) (.slice none 0 0)) (blank n) :=
  ⟨_, _, _, ⟨hd, hB, by simpa [blank] using ha, by simpa [blank] using hb, RowV.nil _ _ _ _, fun e => had (by injection e), fun e => hbd (by injection e), fun e => by simp [Value.ownBlock] at e, fun e => hab (by injection e), Sep.nil _, Sep.nil _, blank_ok n h1 h2⟩, fun k => Iff.rfl⟩
theorem key_below (n : Nat) (w : World) (a b : Nat) : Below w.heap.size w (((w.alloc (.cells (Array.replicate (n * 64) (.int .u8 0)) 148)).alloc (.cells (Array.replicate (n * 64) (.int .u8 0)) 148)).alloc (.cells #[.slice (some ⟨a, 0, none⟩) n n, .slice (some ⟨b, 0, none⟩) n n, .slice none 0 0] 142)) :=
  (((Below.refl _ _).alloc (Nat.le_refl _) _).alloc (by simp) _).alloc (by simp; omega) _
theorem key (n : Nat) (w : World) (h1 : 1 ≤ n) (h2 : n ≤ 4096) (a b : Nat) (hab : a = w.heap.size ∧ b = w.heap.size + 1 ∨ a = w.heap.size + 1 ∧ b = w.heap.size) :
    Disk (((w.alloc (.cells (Array.replicate (n * 64) (.int .u8 0)) 148)).alloc (.cells (Array.replicate (n * 64) (.int .u8 0)) 148)).alloc (.cells #[.slice (some ⟨a, 0, none⟩) n n, .slice (some ⟨b, 0, none⟩) n n, .slice none 0 0] 142)) w.heap.size (w.heap.size + 1 + 1)
      (blocks (w.heap.size + 1 + 1) (.slice (some ⟨a, 0, none⟩) n n) (.slice (some ⟨b, 0, none⟩) n n) (.slice none 0 0)) (blank n) := by
  have r1 := ((made_row n w.heap.size w (Nat.le_refl _) h2).alloc (.cells (Array.replicate (n * 64) (.int .u8 0)) 148)).alloc (.cells #[.slice (some ⟨a, 0, none⟩) n n, .slice (some ⟨b, 0, none⟩) n n, .slice none 0 0] 142)
  have r2 := (made_row n w.heap.size (w.alloc (.cells (Array.replicate (n * 64) (.int .u8 0)) 148)) (by simp) h2).alloc (.cells #[.slice (some ⟨a, 0, none⟩) n n, .slice (some ⟨b, 0, none⟩) n n, .slice none 0 0] 142)
  have e : (w.alloc (.cells (Array.replicate (n * 64) (.int .u8 0)) 148)).heap.size = w.heap.size + 1 := by simp
  rw [e] at r2
  have hd := heap_alloc_new ((w.alloc (.cells (Array.replicate (n * 64) (.int .u8 0)) 148)).alloc (.cells (Array.replicate (n * 64) (.int .u8 0)) 148)) (.cells #[.slice (some ⟨a, 0, none⟩) n n, .slice (some ⟨b, 0, none⟩) n n, .slice none 0 0] 142)
  have e2 : ((w.alloc (.cells (Array.replicate (n * 64) (.int .u8 0)) 148)).alloc (.cells (Array.replicate (n * 64) (.int .u8 0)) 148)).heap.size = w.heap.size + 1 + 1 := by simp
  rw [e2] at hd
  rcases hab with ⟨rfl, rfl⟩ | ⟨rfl, rfl⟩
  · exact blank_disk h1 h2 hd (by omega) r1 r2 (by omega) (by omega) (by omega)
  · exact blank_disk h1 h2 hd (by omega) r2 r1 (by omega) (by omega) (by omega)
set_option maxHeartbeats 1000000 in
set_option maxRecDepth 100000 in
theorem new (x : Int) (w : World) : Calls Tryz.prog 9 #[.int .i64 x] w fun e w' =>
    (if 1 ≤ x ∧ x ≤ 4096 then ∃ d F, e = .returned (.tuple #[.pointer (some ⟨d, 0, none⟩), .int .i64 0]) ∧ Disk w' w.heap.size d F (blank x.toNat) else e = .returned (.tuple #[.pointer none, .int .i64 1])) ∧ Below w.heap.size w w' := by
  by_cases hx : 1 ≤ x ∧ x ≤ 4096
  · simp only [if_pos hx]
    obtain ⟨n, rfl⟩ : ∃ n : Nat, x = n := ⟨x.toNat, by omega⟩
    simp only [Int.toNat_natCast]
    have h1 : 1 ≤ n := by omega
    have h2 : n ≤ 4096 := by omega
    have hmk := mkP n (n : Int) rfl h2
    go_enter Tryz.func9, Tryz.ntmps9
    go_wp2
    refine wp_region_sl [.one (0, true, some 10), .one (2, true, some 12), .two 1 3 (some 11) (some 13), .one (4, true, some 14), .one (5, false, some 15), .one (6, true, some 2), .one (7, true, some 3)]
                [.one ⟨true, some 10, (Go.Op.move (Go.Operand.tmp 0)), 3, none⟩,
                .one ⟨true, some 12, (Go.Op.move (Go.Operand.tmp 0)), 3, none⟩,
                .two ⟨false, some 11, (Go.Op.makeSlice 139 (Go.Operand.tmp 10) (Go.Operand.tmp 10)), 139, none⟩ ⟨false, some 13, (Go.Op.makeSlice 139 (Go.Operand.tmp 12) (Go.Operand.tmp 12)), 139, none⟩,
                .one ⟨true, some 14, (Go.Op.build 142 #[(0, (Go.Operand.tmp 11)), (1, (Go.Operand.tmp 13))]), 142, none⟩,
                .one ⟨false, some 15, (Go.Op.box 142 (Go.Operand.tmp 14)), 24, none⟩,
                .one ⟨true, some 2, (Go.Op.assign (Go.Operand.tmp 15)), 24, none⟩,
                .one ⟨true, some 3, (Go.Op.assign (Go.Operand.const (Go.Value.int Go.IntKind.i64 0))), 25, none⟩]
                (fun _ => True) rfl (by kernel_rfl) (by kernel_rfl) trivial ?_
    (repeat (first | ((with_reducible refine sq (v := ?_) (a' := ?_) ?_ ?_ ?_); rotate_left 2; (focus (intro w' hS; go_simp; (first | done | with_reducible rfl | rfl))); (simp only [Act.put, List.setIfInBounds_toArray, List.set_cons_zero, List.set_cons_succ]; rfl)) | ((with_reducible refine sn (a' := ?_) ?_ ?_ ?_); rotate_left; (focus rfl); (simp only [Act.put, List.setIfInBounds_toArray, List.set_cons_zero, List.set_cons_succ]; rfl)) | ((with_reducible refine sf trivial (a' := ?_) ?_ ?_ ?_); rotate_left; (focus rfl); (simp only [Act.put, List.setIfInBounds_toArray, List.set_cons_zero, List.set_cons_succ]; rfl)) | ((with_reducible refine sqg (v := ?_) (a' := ?_) ?_ ?_ ?_ ?_); rotate_left 2; (focus rfl); (focus (intro w' hS; go_simp; (first | done | with_reducible rfl | rfl))); (simp only [Act.put, List.setIfInBounds_toArray, List.set_cons_zero, List.set_cons_succ]; rfl)))); (repeat ((go_bits; (first | ((with_reducible refine sq (v := ?_) (a' := ?_) ?_ ?_ ?_); rotate_left 2; (focus (intro w' hS; go_simp; (first | done | with_reducible rfl | rfl))); (simp only [Act.put, List.setIfInBounds_toArray, List.set_cons_zero, List.set_cons_succ]; rfl)) | ((with_reducible refine sn (a' := ?_) ?_ ?_ ?_); rotate_left; (focus rfl); (simp only [Act.put, List.setIfInBounds_toArray, List.set_cons_zero, List.set_cons_succ]; rfl)) | ((with_reducible refine sf trivial (a' := ?_) ?_ ?_ ?_); rotate_left; (focus rfl); (simp only [Act.put, List.setIfInBounds_toArray, List.set_cons_zero, List.set_cons_succ]; rfl)) | ((with_reducible refine sqg (v := ?_) (a' := ?_) ?_ ?_ ?_ ?_); rotate_left 2; (focus rfl); (focus (intro w' hS; go_simp; (first | done | with_reducible rfl | rfl))); (simp only [Act.put, List.setIfInBounds_toArray, List.set_cons_zero, List.set_cons_succ]; rfl)))); (repeat (first | ((with_reducible refine sq (v := ?_) (a' := ?_) ?_ ?_ ?_); rotate_left 2; (focus (intro w' hS; go_simp; (first | done | with_reducible rfl | rfl))); (simp only [Act.put, List.setIfInBounds_toArray, List.set_cons_zero, List.set_cons_succ]; rfl)) | ((with_reducible refine sn (a' := ?_) ?_ ?_ ?_); rotate_left; (focus rfl); (simp only [Act.put, List.setIfInBounds_toArray, List.set_cons_zero, List.set_cons_succ]; rfl)) | ((with_reducible refine sf trivial (a' := ?_) ?_ ?_ ?_); rotate_left; (focus rfl); (simp only [Act.put, List.setIfInBounds_toArray, List.set_cons_zero, List.set_cons_succ]; rfl)) | ((with_reducible refine sqg (v := ?_) (a' := ?_) ?_ ?_ ?_ ?_); rotate_left 2; (focus rfl); (focus (intro w' hS; go_simp; (first | done | with_reducible rfl | rfl))); (simp only [Act.put, List.setIfInBounds_toArray, List.set_cons_zero, List.set_cons_succ]; rfl)))))); (try go_bits)
    refine s2 fun K hK => ⟨?_, ?_⟩
    all_goals
      dsimp only [SOp.oper]
      go_simp
      refine hK _ _ trivial fun a'' ha => ?_
      clear hK
      try (simp only [Act.put, List.setIfInBounds_toArray, List.set_cons_zero, List.set_cons_succ] at ha)
      subst ha
      (repeat (first | ((with_reducible refine sq (v := ?_) (a' := ?_) ?_ ?_ ?_); rotate_left 2; (focus (intro w' hS; go_simp; (first | done | with_reducible rfl | rfl))); (simp only [Act.put, List.setIfInBounds_toArray, List.set_cons_zero, List.set_cons_succ]; rfl)) | ((with_reducible refine sn (a' := ?_) ?_ ?_ ?_); rotate_left; (focus rfl); (simp only [Act.put, List.setIfInBounds_toArray, List.set_cons_zero, List.set_cons_succ]; rfl)) | ((with_reducible refine sf trivial (a' := ?_) ?_ ?_ ?_); rotate_left; (focus rfl); (simp only [Act.put, List.setIfInBounds_toArray, List.set_cons_zero, List.set_cons_succ]; rfl)) | ((with_reducible refine sqg (v := ?_) (a' := ?_) ?_ ?_ ?_ ?_); rotate_left 2; (focus rfl); (focus (intro w' hS; go_simp; (first | done | with_reducible rfl | rfl))); (simp only [Act.put, List.setIfInBounds_toArray, List.set_cons_zero, List.set_cons_succ]; rfl)))); (repeat ((go_bits; (first | ((with_reducible refine sq (v := ?_) (a' := ?_) ?_ ?_ ?_); rotate_left 2; (focus (intro w' hS; go_simp; (first | done | with_reducible rfl | rfl))); (simp only [Act.put, List.setIfInBounds_toArray, List.set_cons_zero, List.set_cons_succ]; rfl)) | ((with_reducible refine sn (a' := ?_) ?_ ?_ ?_); rotate_left; (focus rfl); (simp only [Act.put, List.setIfInBounds_toArray, List.set_cons_zero, List.set_cons_succ]; rfl)) | ((with_reducible refine sf trivial (a' := ?_) ?_ ?_ ?_); rotate_left; (focus rfl); (simp only [Act.put, List.setIfInBounds_toArray, List.set_cons_zero, List.set_cons_succ]; rfl)) | ((with_reducible refine sqg (v := ?_) (a' := ?_) ?_ ?_ ?_ ?_); rotate_left 2; (focus rfl); (focus (intro w' hS; go_simp; (first | done | with_reducible rfl | rfl))); (simp only [Act.put, List.setIfInBounds_toArray, List.set_cons_zero, List.set_cons_succ]; rfl)))); (repeat (first | ((with_reducible refine sq (v := ?_) (a' := ?_) ?_ ?_ ?_); rotate_left 2; (focus (intro w' hS; go_simp; (first | done | with_reducible rfl | rfl))); (simp only [Act.put, List.setIfInBounds_toArray, List.set_cons_zero, List.set_cons_succ]; rfl)) | ((with_reducible refine sn (a' := ?_) ?_ ?_ ?_); rotate_left; (focus rfl); (simp only [Act.put, List.setIfInBounds_toArray, List.set_cons_zero, List.set_cons_succ]; rfl)) | ((with_reducible refine sf trivial (a' := ?_) ?_ ?_ ?_); rotate_left; (focus rfl); (simp only [Act.put, List.setIfInBounds_toArray, List.set_cons_zero, List.set_cons_succ]; rfl)) | ((with_reducible refine sqg (v := ?_) (a' := ?_) ?_ ?_ ?_ ?_); rotate_left 2; (focus rfl); (focus (intro w' hS; go_simp; (first | done | with_reducible rfl | rfl))); (simp only [Act.put, List.setIfInBounds_toArray, List.set_cons_zero, List.set_cons_succ]; rfl)))))); (try go_bits)
      refine se' fun K hK => ?_
      go_simp
      refine hK _ _ trivial fun a'' ha => ?_
      clear hK
      try (simp only [Act.put, List.setIfInBounds_toArray, List.set_cons_zero, List.set_cons_succ] at ha)
      subst ha
      (repeat (first | ((with_reducible refine sq (v := ?_) (a' := ?_) ?_ ?_ ?_); rotate_left 2; (focus (intro w' hS; go_simp; (first | done | with_reducible rfl | rfl))); (simp only [Act.put, List.setIfInBounds_toArray, List.set_cons_zero, List.set_cons_succ]; rfl)) | ((with_reducible refine sn (a' := ?_) ?_ ?_ ?_); rotate_left; (focus rfl); (simp only [Act.put, List.setIfInBounds_toArray, List.set_cons_zero, List.set_cons_succ]; rfl)) | ((with_reducible refine sf trivial (a' := ?_) ?_ ?_ ?_); rotate_left; (focus rfl); (simp only [Act.put, List.setIfInBounds_toArray, List.set_cons_zero, List.set_cons_succ]; rfl)) | ((with_reducible refine sqg (v := ?_) (a' := ?_) ?_ ?_ ?_ ?_); rotate_left 2; (focus rfl); (focus (intro w' hS; go_simp; (first | done | with_reducible rfl | rfl))); (simp only [Act.put, List.setIfInBounds_toArray, List.set_cons_zero, List.set_cons_succ]; rfl)))); (repeat ((go_bits; (first | ((with_reducible refine sq (v := ?_) (a' := ?_) ?_ ?_ ?_); rotate_left 2; (focus (intro w' hS; go_simp; (first | done | with_reducible rfl | rfl))); (simp only [Act.put, List.setIfInBounds_toArray, List.set_cons_zero, List.set_cons_succ]; rfl)) | ((with_reducible refine sn (a' := ?_) ?_ ?_ ?_); rotate_left; (focus rfl); (simp only [Act.put, List.setIfInBounds_toArray, List.set_cons_zero, List.set_cons_succ]; rfl)) | ((with_reducible refine sf trivial (a' := ?_) ?_ ?_ ?_); rotate_left; (focus rfl); (simp only [Act.put, List.setIfInBounds_toArray, List.set_cons_zero, List.set_cons_succ]; rfl)) | ((with_reducible refine sqg (v := ?_) (a' := ?_) ?_ ?_ ?_ ?_); rotate_left 2; (focus rfl); (focus (intro w' hS; go_simp; (first | done | with_reducible rfl | rfl))); (simp only [Act.put, List.setIfInBounds_toArray, List.set_cons_zero, List.set_cons_succ]; rfl)))); (repeat (first | ((with_reducible refine sq (v := ?_) (a' := ?_) ?_ ?_ ?_); rotate_left 2; (focus (intro w' hS; go_simp; (first | done | with_reducible rfl | rfl))); (simp only [Act.put, List.setIfInBounds_toArray, List.set_cons_zero, List.set_cons_succ]; rfl)) | ((with_reducible refine sn (a' := ?_) ?_ ?_ ?_); rotate_left; (focus rfl); (simp only [Act.put, List.setIfInBounds_toArray, List.set_cons_zero, List.set_cons_succ]; rfl)) | ((with_reducible refine sf trivial (a' := ?_) ?_ ?_ ?_); rotate_left; (focus rfl); (simp only [Act.put, List.setIfInBounds_toArray, List.set_cons_zero, List.set_cons_succ]; rfl)) | ((with_reducible refine sqg (v := ?_) (a' := ?_) ?_ ?_ ?_ ?_); rotate_left 2; (focus rfl); (focus (intro w' hS; go_simp; (first | done | with_reducible rfl | rfl))); (simp only [Act.put, List.setIfInBounds_toArray, List.set_cons_zero, List.set_cons_succ]; rfl)))))); (try go_bits)
      refine sl_end ?_
      go_wp2
      go_ret2
    · exact ⟨⟨_, _, rfl, (key n w h1 h2 _ _ (.inl ⟨rfl, rfl⟩)).kept (Chg.drew _) (fun _ _ h => h)⟩, (key_below n w _ _).drew⟩
    · exact ⟨⟨_, _, rfl, (key n w h1 h2 _ _ (.inr ⟨rfl, rfl⟩)).kept (Chg.drew _) (fun _ _ h => h)⟩, (key_below n w _ _).drew⟩
  · simp only [if_neg hx]
    by_cases h0 : x < 1
    · go_enter Tryz.func9, Tryz.ntmps9
      go_wp2
      go_ret2
      exact ⟨rfl, Below.refl _ _⟩
    · have h3 : 4096 < x := by omega
      go_enter Tryz.func9, Tryz.ntmps9
      go_wp2
      go_ret2
      exact ⟨rfl, Below.refl _ _⟩
end Go.Proofs.YticnjkdaccacaaaGreatDoor.Disk
end
section
namespace Go.Proofs.YticnjkdaccacaaaGreatDoor.Disk
open Go.RowKit Base _root_.Go.Proofs.YticnjkdaccacaaaGreatDoor.Own OwnV Bytes
set_option maxHeartbeats 1000000 in
set_option maxRecDepth 100000 in
theorem write {w : World} {B d : Nat} {F : Nat → Prop} {D : Dk} (h : Disk w B d F D) (hB : B ≤ w.heap.size) (hwl : D.waits.length ≤ 1000000000) (x : Int) (A : Option Addr) (c : Nat) (b : List Int) (hlb : b.length ≤ 1000000000) (hb : Bts b) (hr : Rd .u8 w A b) :
    Calls Tryz.prog 12 #[.pointer (some ⟨d, 0, none⟩), .int .i64 x, .slice A b.length c] w fun e w' => e = .returned (.int .i64 (writeCode D.seen.length x b)) ∧
      ∃ F', Disk w' B d F' (if writeCode D.seen.length x b = 0 then D.write x (pad b) else D) ∧ Chg F w w' ∧ ∀ k, F' k → F k ∨ w.heap.size ≤ k := by
  have H := Lib.hid h
  have HB := Lib.hid (And.intro hb (And.intro hr hB))
  clear h hb hr hB
  by_cases hx : 0 ≤ x ∧ x < D.seen.length
  · have hm : mayOk D.seen.length x = 0 := by unfold mayOk; rw [if_pos hx]
    by_cases h64 : 64 < b.length
    · have hc : writeCode D.seen.length x b = 1 := by unfold writeCode; rw [if_pos (.inr h64)]
      rw [hc]
      clear hc
      go_enter Tryz.func12, Tryz.ntmps12
      go_wp2_with fail
      refine (may H.out x).mono ?_
      rw [hm]
      clear hm
      rintro e w' ⟨rfl, h⟩
      subst h
      go_wp2
      go_ret
      exact ⟨rfl, F, H.out, Chg.refl _ _, fun k hk => .inl hk⟩
    · have hc : writeCode D.seen.length x b = 0 := by unfold writeCode; rw [if_neg (by rw [hm]; simp; omega)]
      rw [hc]
      clear hc
      obtain ⟨i, rfl⟩ : ∃ i : Nat, x = i := ⟨x.toNat, by omega⟩
      have hi : i < D.seen.length := by omega
      obtain ⟨Z, hZ⟩ : ∃ Z : Array Value, Z = Array.replicate 64 (.int .u8 0) := ⟨_, rfl⟩
      have hz : ∀ W, (zeroValue 148).run Tryz.prog W = .ok (.agg Z) W := fun W => by subst hZ; kernel_rfl
      have HZ := Lib.hid hZ
      clear hZ
      go_enter Tryz.func12, Tryz.ntmps12
      go_wp2_with fail
      refine (may H.out (i : Int)).mono ?_
      rw [hm]
      clear hm
      rintro e w' ⟨rfl, h⟩
      subst h
      have o1 : OwnI .u8 (w'.alloc (.cells Z 148)) w'.heap.size 148 (.slice (some ⟨w'.heap.size, 0, none⟩) 64 64) (List.replicate 64 0) :=
        OwnI.made (B := w'.heap.size) w' .u8 (List.replicate 64 (0 : Int)) 148 Z (by rw [HZ.out]; rfl) (Nat.le_refl _) (by simp [maxLen])
      have b1 : Below w'.heap.size w' (w'.alloc (.cells Z 148)) := (Below.refl _ _).alloc (Nat.le_refl _) _
      have H1 := Lib.hid (And.intro o1 b1)
      clear o1 b1
      go_wp2_with (refine copy_list_m (m := 64) (by simp) rfl (.tmp 18) (.tmp 19) _ _ 5 rfl Tryz.underlying45 info1 H1.out.1 0 _ _ _ _ _ _ b rfl rfl (fun _ => rfl) (HB.out.2.1.below H1.out.2) (by show _ = min _ _; omega) (by omega) ?_; intro w2 o2 c2; have H2 := Lib.hid (And.intro o2 c2); clear o2 c2 hz)
      obtain ⟨o2, c2⟩ := H2.out
      rw [pad_splice (by omega)] at o2
      have hpc := pad_pc (b := b) (by omega) HB.out.1
      obtain ⟨S, E, W, L0, hF⟩ := H.out
      have c02 : Chg (fun k => w'.heap.size ≤ k) w' w2 := (Chg.of_below H1.out.2).trans c2 (fun k _ hk => by rw [hk]; exact Nat.le_refl _)
      have L2 : Lies w2 B d S E W D := L0.kept c02 fun k hk hk2 => by
        have := (H.out.lt k ((hF k).2 hk)).2
        omega
      obtain ⟨p, hp⟩ : ∃ p, p = pad b := ⟨_, rfl⟩
      rw [← hp] at o2 hpc
      have hdlt : d < w'.heap.size := (Array.getElem?_eq_some_iff.1 L0.cells).1
      have hglt := fun k hk => (H.out.lt k ((hF k).2 hk)).2
      obtain ⟨A2, c2', hE, -, -, hA, hA2⟩ := L2.seen.slice
      cases A2 with
      | none => have := hA rfl; omega
      | some ad =>
      obtain ⟨g, rfl, hBg, hg, hr, hth⟩ := hA2 _ rfl
      subst hE
      have hgd : g ≠ d := fun h => L2.e0 (by rw [h]; rfl)
      have hgl : g < w'.heap.size := hglt g (.inr (.inr (.inl rfl)))
      have hc1 := L2.cell.2.1
      have hpr : w2.rangeAt w'.heap.size 0 (p.map (Value.int .u8)) := by
        obtain ⟨A3, c3, e3, -, -, -, h3⟩ := RowV.slice (show RowV w2 w'.heap.size 148 1 (.slice (some ⟨w'.heap.size, 0, none⟩) 64 64) p.length (p.map (Value.int .u8)) from o2)
        injection e3 with e4
        obtain ⟨g3, e5, _, _, h4, _⟩ := h3 _ e4.symm
        injection e5 with e5
        subst e5
        exact h4
      obtain ⟨Pv, hPv⟩ : ∃ Pv, Pv = p.map (Value.int .u8) := ⟨_, rfl⟩
      have hPl : Pv.length = 64 := by rw [hPv, List.length_map, hpc.1]
      rw [← hPv] at hpr
      have HP := Lib.hid (And.intro hPv (And.intro hpc hp))
      have HL := Lib.hid L2
      have HC := Lib.hid (And.intro c02 (And.intro hF (And.intro hglt hth)))
      have hmost := L2.ok.most
      clear o2 c2 hpc L0 c02 L2 hA hA2 hr hPv hp H1 H2 hF hglt hth hBg
      obtain ⟨n, hn⟩ : ∃ n, n = D.seen.length := ⟨_, rfl⟩
      rw [← hn] at hi hc1 hmost hx
      have HNn := Lib.hid hn
      clear hn
      refine wp_region_sl [.one (0, true, some 21), .one (1, true, some 22), .one (2, true, some 23), .one (3, true, some 24), .one (4, true, some 25), .one (5, true, some 26), .one (6, true, some 27), .one (7, false, none)]
                [.one ⟨true, some 21, (Go.Op.move (Go.Operand.tmp 0)), 24, none⟩,
                .one ⟨true, some 22, (Go.Op.nilCheck (Go.Operand.tmp 21)), 0, none⟩,
                .one ⟨true, some 23, (Go.Op.fieldAddr 142 (Go.Operand.tmp 22) 1), 0, none⟩,
                .one ⟨true, some 24, (Go.Op.load 139 (Go.Operand.tmp 23)), 139, none⟩,
                .one ⟨true, some 25, (Go.Op.move (Go.Operand.tmp 1)), 3, none⟩,
                .one ⟨true, some 26, (Go.Op.load 148 (Go.Operand.tmp 8)), 148, none⟩,
                .one ⟨true, some 27, (Go.Op.indexAddr 139 (Go.Operand.tmp 24) (Go.Operand.tmp 25)), 0, none⟩,
                .one ⟨false, none, (Go.Op.store 148 (Go.Operand.tmp 27) (Go.Operand.tmp 26)), 0, none⟩]
                (fun w3 => w3.cell? ⟨d, 1, none⟩ = some (.slice (some ⟨g, 0, none⟩) n c2') ∧ w3.rangeAt w'.heap.size 0 Pv) rfl (by kernel_rfl) (by kernel_rfl) ?_ ?_
      · exact ⟨hc1, hpr⟩
      (repeat (first | ((with_reducible refine sq (v := ?_) (a' := ?_) ?_ ?_ ?_); rotate_left 2; (focus (intro w' hS; go_simp; (first | done | with_reducible rfl | rfl))); (simp only [Act.put, List.setIfInBounds_toArray, List.set_cons_zero, List.set_cons_succ]; rfl)) | ((with_reducible refine sn (a' := ?_) ?_ ?_ ?_); rotate_left; (focus rfl); (simp only [Act.put, List.setIfInBounds_toArray, List.set_cons_zero, List.set_cons_succ]; rfl)) | ((with_reducible refine sf trivial (a' := ?_) ?_ ?_ ?_); rotate_left; (focus rfl); (simp only [Act.put, List.setIfInBounds_toArray, List.set_cons_zero, List.set_cons_succ]; rfl)) | ((with_reducible refine sqg (v := ?_) (a' := ?_) ?_ ?_ ?_ ?_); rotate_left 2; (focus rfl); (focus (intro w' hS; go_simp; (first | done | with_reducible rfl | rfl))); (simp only [Act.put, List.setIfInBounds_toArray, List.set_cons_zero, List.set_cons_succ]; rfl)))); (repeat ((go_bits; (first | ((with_reducible refine sq (v := ?_) (a' := ?_) ?_ ?_ ?_); rotate_left 2; (focus (intro w' hS; go_simp; (first | done | with_reducible rfl | rfl))); (simp only [Act.put, List.setIfInBounds_toArray, List.set_cons_zero, List.set_cons_succ]; rfl)) | ((with_reducible refine sn (a' := ?_) ?_ ?_ ?_); rotate_left; (focus rfl); (simp only [Act.put, List.setIfInBounds_toArray, List.set_cons_zero, List.set_cons_succ]; rfl)) | ((with_reducible refine sf trivial (a' := ?_) ?_ ?_ ?_); rotate_left; (focus rfl); (simp only [Act.put, List.setIfInBounds_toArray, List.set_cons_zero, List.set_cons_succ]; rfl)) | ((with_reducible refine sqg (v := ?_) (a' := ?_) ?_ ?_ ?_ ?_); rotate_left 2; (focus rfl); (focus (intro w' hS; go_simp; (first | done | with_reducible rfl | rfl))); (simp only [Act.put, List.setIfInBounds_toArray, List.set_cons_zero, List.set_cons_succ]; rfl)))); (repeat (first | ((with_reducible refine sq (v := ?_) (a' := ?_) ?_ ?_ ?_); rotate_left 2; (focus (intro w' hS; go_simp; (first | done | with_reducible rfl | rfl))); (simp only [Act.put, List.setIfInBounds_toArray, List.set_cons_zero, List.set_cons_succ]; rfl)) | ((with_reducible refine sn (a' := ?_) ?_ ?_ ?_); rotate_left; (focus rfl); (simp only [Act.put, List.setIfInBounds_toArray, List.set_cons_zero, List.set_cons_succ]; rfl)) | ((with_reducible refine sf trivial (a' := ?_) ?_ ?_ ?_); rotate_left; (focus rfl); (simp only [Act.put, List.setIfInBounds_toArray, List.set_cons_zero, List.set_cons_succ]; rfl)) | ((with_reducible refine sqg (v := ?_) (a' := ?_) ?_ ?_ ?_ ?_); rotate_left 2; (focus rfl); (focus (intro w' hS; go_simp; (first | done | with_reducible rfl | rfl))); (simp only [Act.put, List.setIfInBounds_toArray, List.set_cons_zero, List.set_cons_succ]; rfl)))))); (try go_bits)
      refine sq (v := .agg Pv.toArray) (a' := ?_) (fun w3 hS => ?_) ?_ ?_
      rotate_left 1
      · exact exec_load_mid _ _ w'.heap.size 0 rfl Pv _ hS.2 Tryz.underlying148 rfl (by rw [hPl]; kernel_rfl)
      · simp only [Act.put, List.setIfInBounds_toArray, List.set_cons_zero, List.set_cons_succ]; rfl
      (repeat (first | ((with_reducible refine sq (v := ?_) (a' := ?_) ?_ ?_ ?_); rotate_left 2; (focus (intro w' hS; go_simp; (first | done | with_reducible rfl | rfl))); (simp only [Act.put, List.setIfInBounds_toArray, List.set_cons_zero, List.set_cons_succ]; rfl)) | ((with_reducible refine sn (a' := ?_) ?_ ?_ ?_); rotate_left; (focus rfl); (simp only [Act.put, List.setIfInBounds_toArray, List.set_cons_zero, List.set_cons_succ]; rfl)) | ((with_reducible refine sf trivial (a' := ?_) ?_ ?_ ?_); rotate_left; (focus rfl); (simp only [Act.put, List.setIfInBounds_toArray, List.set_cons_zero, List.set_cons_succ]; rfl)) | ((with_reducible refine sqg (v := ?_) (a' := ?_) ?_ ?_ ?_ ?_); rotate_left 2; (focus rfl); (focus (intro w' hS; go_simp; (first | done | with_reducible rfl | rfl))); (simp only [Act.put, List.setIfInBounds_toArray, List.set_cons_zero, List.set_cons_succ]; rfl)))); (repeat ((go_bits; (first | ((with_reducible refine sq (v := ?_) (a' := ?_) ?_ ?_ ?_); rotate_left 2; (focus (intro w' hS; go_simp; (first | done | with_reducible rfl | rfl))); (simp only [Act.put, List.setIfInBounds_toArray, List.set_cons_zero, List.set_cons_succ]; rfl)) | ((with_reducible refine sn (a' := ?_) ?_ ?_ ?_); rotate_left; (focus rfl); (simp only [Act.put, List.setIfInBounds_toArray, List.set_cons_zero, List.set_cons_succ]; rfl)) | ((with_reducible refine sf trivial (a' := ?_) ?_ ?_ ?_); rotate_left; (focus rfl); (simp only [Act.put, List.setIfInBounds_toArray, List.set_cons_zero, List.set_cons_succ]; rfl)) | ((with_reducible refine sqg (v := ?_) (a' := ?_) ?_ ?_ ?_ ?_); rotate_left 2; (focus rfl); (focus (intro w' hS; go_simp; (first | done | with_reducible rfl | rfl))); (simp only [Act.put, List.setIfInBounds_toArray, List.set_cons_zero, List.set_cons_succ]; rfl)))); (repeat (first | ((with_reducible refine sq (v := ?_) (a' := ?_) ?_ ?_ ?_); rotate_left 2; (focus (intro w' hS; go_simp; (first | done | with_reducible rfl | rfl))); (simp only [Act.put, List.setIfInBounds_toArray, List.set_cons_zero, List.set_cons_succ]; rfl)) | ((with_reducible refine sn (a' := ?_) ?_ ?_ ?_); rotate_left; (focus rfl); (simp only [Act.put, List.setIfInBounds_toArray, List.set_cons_zero, List.set_cons_succ]; rfl)) | ((with_reducible refine sf trivial (a' := ?_) ?_ ?_ ?_); rotate_left; (focus rfl); (simp only [Act.put, List.setIfInBounds_toArray, List.set_cons_zero, List.set_cons_succ]; rfl)) | ((with_reducible refine sqg (v := ?_) (a' := ?_) ?_ ?_ ?_ ?_); rotate_left 2; (focus rfl); (focus (intro w' hS; go_simp; (first | done | with_reducible rfl | rfl))); (simp only [Act.put, List.setIfInBounds_toArray, List.set_cons_zero, List.set_cons_succ]; rfl)))))); (try go_bits)
      refine se' fun K hK => ?_
      have hp64 : (Pv.toArray).size = 64 := by simp [hPl]
      refine wp_store_mid _ _ _ rfl g (i * 64) Pv.toArray rfl rfl ?_ (by rw [hp64]; kernel_rfl) (all_oneCell_toArray (fun v hv => by rw [HP.out.1] at hv; obtain ⟨x, _, rfl⟩ := List.mem_map.1 hv; rfl)) ?_
      · intro j hj
        rw [hp64] at hj
        have := HC.out.2.2.2 (i * 64 + j) (by rw [← HNn.out]; omega)
        rw [Nat.zero_add] at this
        exact this
      refine hK _ _ ⟨?_, ?_⟩ fun a'' ha => ?_
      · rw [World.cell?_setCells_out _ _ _ _ _ (fun hb _ => absurd hb (Ne.symm hgd))]; exact hc1
      · exact World.rangeAt_setCells_apart (w := w2.drew) hpr g (i * 64) _ (.inl (by omega))
      have c25 : Chg (fun k => k = g) w2 (w2.drew.setCells g (i * 64) Pv.toArray.toList) := ((Chg.drew w2).mono (fun k _ h => h.elim)).trans (chg_setCells g _ _ _) (fun _ _ h => h)
      have L5 : Lies (w2.drew.setCells g (i * 64) Pv.toArray.toList) B d S (.slice (some ⟨g, 0, none⟩) n c2') W { D with seen := D.seen.set i p } := by
        have h := (HL.out.kept (Chg.drew w2) (fun _ _ h => h))
        rw [← HNn.out] at h
        have h2 := h.set (i := i) (p := p) (by rw [← HNn.out]; exact hi) HP.out.2.1
        rw [← HP.out.1] at h2
        exact h2
      have hpr5 : (w2.drew.setCells g (i * 64) Pv.toArray.toList).rangeAt w'.heap.size 0 Pv := World.rangeAt_setCells_apart (w := w2.drew) hpr g (i * 64) _ (.inl (by omega))
      have c05 := HC.out.1.then c25
      obtain ⟨w5, hw5⟩ : ∃ w5, w5 = w2.drew.setCells g (i * 64) Pv.toArray.toList := ⟨_, rfl⟩
      rw [← hw5] at c25 L5 hpr5 c05 ⊢
      have hc2 := L5.cell.2.2
      have HL5 := Lib.hid L5
      have HC5 := Lib.hid c05
      clear hw5 c25 L5 c05 hc1 hpr HL hp64 hK
      simp only [Act.put, List.setIfInBounds_toArray, List.set_cons_zero, List.set_cons_succ] at ha
      subst ha
      refine sl_end ?_
      go_wp2
      refine wp_region_sl [.one (0, true, some 28), .one (1, true, some 29), .one (2, true, some 30), .one (3, true, some 31), .one (5, true, some 33), .one (6, true, some 34), .one (7, true, some 35), .two 4 8 (some 32) (some 36), .one (9, false, some 37), .one (10, true, some 38), .one (11, true, some 39), .one (12, false, none)]
                [.one ⟨true, some 28, (Go.Op.move (Go.Operand.tmp 0)), 24, none⟩,
                .one ⟨true, some 29, (Go.Op.move (Go.Operand.tmp 0)), 24, none⟩,
                .one ⟨true, some 30, (Go.Op.nilCheck (Go.Operand.tmp 29)), 0, none⟩,
                .one ⟨true, some 31, (Go.Op.fieldAddr 142 (Go.Operand.tmp 30) 2), 0, none⟩,
                .one ⟨true, some 33, (Go.Op.move (Go.Operand.tmp 1)), 3, none⟩,
                .one ⟨true, some 34, (Go.Op.load 148 (Go.Operand.tmp 8)), 148, none⟩,
                .one ⟨true, some 35, (Go.Op.build 150 #[(0, (Go.Operand.tmp 33)), (1, (Go.Operand.tmp 34))]), 150, none⟩,
                .two ⟨false, some 32, (Go.Op.load 140 (Go.Operand.tmp 31)), 140, none⟩ ⟨false, some 36, (Go.Op.buildSlice 140 1 #[(0, (Go.Operand.tmp 35))]), 140, none⟩,
                .one ⟨false, some 37, (Go.Op.call { callee := (Go.Callee.builtin Go.Builtin.append), args := #[(Go.Operand.tmp 32), (Go.Operand.tmp 36)], argTypes := #[140, 140] }), 140, none⟩,
                .one ⟨true, some 38, (Go.Op.nilCheck (Go.Operand.tmp 28)), 0, none⟩,
                .one ⟨true, some 39, (Go.Op.fieldAddr 142 (Go.Operand.tmp 38) 2), 0, none⟩,
                .one ⟨false, none, (Go.Op.store 140 (Go.Operand.tmp 39) (Go.Operand.tmp 37)), 0, none⟩]
                (fun w3 => w3.rangeAt w'.heap.size 0 Pv) rfl (by kernel_rfl) (by kernel_rfl) ?_ ?_
      · exact hpr5
      (repeat (first | ((with_reducible refine sq (v := ?_) (a' := ?_) ?_ ?_ ?_); rotate_left 2; (focus (intro w' hS; go_simp; (first | done | with_reducible rfl | rfl))); (simp only [Act.put, List.setIfInBounds_toArray, List.set_cons_zero, List.set_cons_succ]; rfl)) | ((with_reducible refine sn (a' := ?_) ?_ ?_ ?_); rotate_left; (focus rfl); (simp only [Act.put, List.setIfInBounds_toArray, List.set_cons_zero, List.set_cons_succ]; rfl)) | ((with_reducible refine sf trivial (a' := ?_) ?_ ?_ ?_); rotate_left; (focus rfl); (simp only [Act.put, List.setIfInBounds_toArray, List.set_cons_zero, List.set_cons_succ]; rfl)) | ((with_reducible refine sqg (v := ?_) (a' := ?_) ?_ ?_ ?_ ?_); rotate_left 2; (focus rfl); (focus (intro w' hS; go_simp; (first | done | with_reducible rfl | rfl))); (simp only [Act.put, List.setIfInBounds_toArray, List.set_cons_zero, List.set_cons_succ]; rfl)))); (repeat ((go_bits; (first | ((with_reducible refine sq (v := ?_) (a' := ?_) ?_ ?_ ?_); rotate_left 2; (focus (intro w' hS; go_simp; (first | done | with_reducible rfl | rfl))); (simp only [Act.put, List.setIfInBounds_toArray, List.set_cons_zero, List.set_cons_succ]; rfl)) | ((with_reducible refine sn (a' := ?_) ?_ ?_ ?_); rotate_left; (focus rfl); (simp only [Act.put, List.setIfInBounds_toArray, List.set_cons_zero, List.set_cons_succ]; rfl)) | ((with_reducible refine sf trivial (a' := ?_) ?_ ?_ ?_); rotate_left; (focus rfl); (simp only [Act.put, List.setIfInBounds_toArray, List.set_cons_zero, List.set_cons_succ]; rfl)) | ((with_reducible refine sqg (v := ?_) (a' := ?_) ?_ ?_ ?_ ?_); rotate_left 2; (focus rfl); (focus (intro w' hS; go_simp; (first | done | with_reducible rfl | rfl))); (simp only [Act.put, List.setIfInBounds_toArray, List.set_cons_zero, List.set_cons_succ]; rfl)))); (repeat (first | ((with_reducible refine sq (v := ?_) (a' := ?_) ?_ ?_ ?_); rotate_left 2; (focus (intro w' hS; go_simp; (first | done | with_reducible rfl | rfl))); (simp only [Act.put, List.setIfInBounds_toArray, List.set_cons_zero, List.set_cons_succ]; rfl)) | ((with_reducible refine sn (a' := ?_) ?_ ?_ ?_); rotate_left; (focus rfl); (simp only [Act.put, List.setIfInBounds_toArray, List.set_cons_zero, List.set_cons_succ]; rfl)) | ((with_reducible refine sf trivial (a' := ?_) ?_ ?_ ?_); rotate_left; (focus rfl); (simp only [Act.put, List.setIfInBounds_toArray, List.set_cons_zero, List.set_cons_succ]; rfl)) | ((with_reducible refine sqg (v := ?_) (a' := ?_) ?_ ?_ ?_ ?_); rotate_left 2; (focus rfl); (focus (intro w' hS; go_simp; (first | done | with_reducible rfl | rfl))); (simp only [Act.put, List.setIfInBounds_toArray, List.set_cons_zero, List.set_cons_succ]; rfl)))))); (try go_bits)
      refine sq (v := .agg Pv.toArray) (a' := ?_) (fun w3 hS => ?_) ?_ ?_
      rotate_left 1
      · exact exec_load_mid _ _ w'.heap.size 0 rfl Pv _ hS Tryz.underlying148 rfl (by rw [hPl]; kernel_rfl)
      · simp only [Act.put, List.setIfInBounds_toArray, List.set_cons_zero, List.set_cons_succ]; rfl
      refine sq (v := .agg (Value.int .i64 i :: Pv).toArray) (a' := ?_) (fun w3 hS => ?_) ?_ ?_
      rotate_left 1
      · exact exec_build _ _ _ (by simp only [List.map_toArray, List.map_cons, List.map_nil]; exact built_write i Pv hPl)
      · simp only [Act.put, List.setIfInBounds_toArray, List.set_cons_zero, List.set_cons_succ]; rfl
      have hw6 : Below w5.heap.size w5 (w5.drew.alloc (.cells (Value.int .i64 i :: Pv).toArray 150)) := (Below.refl _ _).drew.alloc (Nat.le_refl _) _
      have hd5 : d < w5.heap.size := (Array.getElem?_eq_some_iff.1 HL5.out.cells).1
      have hs5 : w'.heap.size < w5.heap.size := World.block_lt_of_cell? w5 _ (hpr5 0 Pv[0] (List.getElem?_eq_getElem (by omega)))
      have hc6 : (w5.drew.alloc (.cells (Value.int .i64 i :: Pv).toArray 150)).cell? ⟨d, 2, none⟩ = some W := by rw [hw6.cell (p := ⟨d, 2, none⟩) hd5]; exact hc2
      have hpr6 : (w5.drew.alloc (.cells (Value.int .i64 i :: Pv).toArray 150)).rangeAt w'.heap.size 0 Pv := fun j v hv => by rw [hw6.cell (p := ⟨w'.heap.size, 0 + j, none⟩) hs5]; exact hpr5 j v hv
      have hag : ∀ X, (isAgg 140).run Tryz.prog X = .ok false X := fun X => by kernel_rfl
      refine s2lv (v := W) (u := .slice (some ⟨w5.drew.heap.size, 0, none⟩) 1 1) (w' := w5.drew.alloc (.cells (Value.int .i64 i :: Pv).toArray 150)) (a1 := ?_) ?_ ?_ ?_ ?_ hpr5 hpr6 ?_ ?_ ?_
      rotate_left 1
      · exact exec_load_cell _ _ ⟨d, 2, none⟩ W rfl hc2 hag
      · exact exec_one_slice _ 150 (.tmp 35) _ 65 rfl (by simp [hPl]) Tryz.underlying140 (by kernel_rfl) (by decide) (by decide)
      · exact exec_one_slice _ 150 (.tmp 35) _ 65 rfl (by simp [hPl]) Tryz.underlying140 (by kernel_rfl) (by decide) (by decide)
      · exact exec_load_cell _ _ ⟨d, 2, none⟩ W rfl hc6 hag
      · simp only [Act.put, List.setIfInBounds_toArray, List.set_cons_zero, List.set_cons_succ]; rfl
      · simp only [Act.put, List.setIfInBounds_toArray, List.set_cons_zero, List.set_cons_succ]
      have L6 := HL5.out.kept (Chg.of_new hw6) (fun _ _ h => h)
      have hrow : (w5.drew.alloc (.cells (Value.int .i64 i :: Pv).toArray 150)).heap[w5.drew.heap.size]? = some (.cells (Value.int .i64 i :: Pv).toArray 150 (0, 0)) := heap_alloc_new _ _
      have c06 := HC5.out.then (Chg.of_new hw6)
      obtain ⟨w6, hw6e⟩ : ∃ w6, w6 = w5.drew.alloc (.cells (Value.int .i64 i :: Pv).toArray 150) := ⟨_, rfl⟩
      rw [← hw6e] at hc6 hpr6 L6 hrow c06 ⊢
      have HL6 := Lib.hid L6
      have HC6 := Lib.hid c06
      clear hw6e hw6 L6 c06 hpr5 hc2 HC5 hag
      (repeat (first | ((with_reducible refine sq (v := ?_) (a' := ?_) ?_ ?_ ?_); rotate_left 2; (focus (intro w' hS; go_simp; (first | done | with_reducible rfl | rfl))); (simp only [Act.put, List.setIfInBounds_toArray, List.set_cons_zero, List.set_cons_succ]; rfl)) | ((with_reducible refine sn (a' := ?_) ?_ ?_ ?_); rotate_left; (focus rfl); (simp only [Act.put, List.setIfInBounds_toArray, List.set_cons_zero, List.set_cons_succ]; rfl)) | ((with_reducible refine sf trivial (a' := ?_) ?_ ?_ ?_); rotate_left; (focus rfl); (simp only [Act.put, List.setIfInBounds_toArray, List.set_cons_zero, List.set_cons_succ]; rfl)) | ((with_reducible refine sqg (v := ?_) (a' := ?_) ?_ ?_ ?_ ?_); rotate_left 2; (focus rfl); (focus (intro w' hS; go_simp; (first | done | with_reducible rfl | rfl))); (simp only [Act.put, List.setIfInBounds_toArray, List.set_cons_zero, List.set_cons_succ]; rfl)))); (repeat ((go_bits; (first | ((with_reducible refine sq (v := ?_) (a' := ?_) ?_ ?_ ?_); rotate_left 2; (focus (intro w' hS; go_simp; (first | done | with_reducible rfl | rfl))); (simp only [Act.put, List.setIfInBounds_toArray, List.set_cons_zero, List.set_cons_succ]; rfl)) | ((with_reducible refine sn (a' := ?_) ?_ ?_ ?_); rotate_left; (focus rfl); (simp only [Act.put, List.setIfInBounds_toArray, List.set_cons_zero, List.set_cons_succ]; rfl)) | ((with_reducible refine sf trivial (a' := ?_) ?_ ?_ ?_); rotate_left; (focus rfl); (simp only [Act.put, List.setIfInBounds_toArray, List.set_cons_zero, List.set_cons_succ]; rfl)) | ((with_reducible refine sqg (v := ?_) (a' := ?_) ?_ ?_ ?_ ?_); rotate_left 2; (focus rfl); (focus (intro w' hS; go_simp; (first | done | with_reducible rfl | rfl))); (simp only [Act.put, List.setIfInBounds_toArray, List.set_cons_zero, List.set_cons_succ]; rfl)))); (repeat (first | ((with_reducible refine sq (v := ?_) (a' := ?_) ?_ ?_ ?_); rotate_left 2; (focus (intro w' hS; go_simp; (first | done | with_reducible rfl | rfl))); (simp only [Act.put, List.setIfInBounds_toArray, List.set_cons_zero, List.set_cons_succ]; rfl)) | ((with_reducible refine sn (a' := ?_) ?_ ?_ ?_); rotate_left; (focus rfl); (simp only [Act.put, List.setIfInBounds_toArray, List.set_cons_zero, List.set_cons_succ]; rfl)) | ((with_reducible refine sf trivial (a' := ?_) ?_ ?_ ?_); rotate_left; (focus rfl); (simp only [Act.put, List.setIfInBounds_toArray, List.set_cons_zero, List.set_cons_succ]; rfl)) | ((with_reducible refine sqg (v := ?_) (a' := ?_) ?_ ?_ ?_ ?_); rotate_left 2; (focus rfl); (focus (intro w' hS; go_simp; (first | done | with_reducible rfl | rfl))); (simp only [Act.put, List.setIfInBounds_toArray, List.set_cons_zero, List.set_cons_succ]; rfl)))))); (try go_bits)
      refine se' fun K hK => ?_
      have hBs : B ≤ w6.heap.size := Nat.le_trans HL6.out.base (Nat.le_of_lt (Array.getElem?_eq_some_iff.1 HL6.out.cells).1)
      refine apv_wp (bytes := 72) Tryz.underlying140 (by kernel_rfl) (by decide) HL6.out.waits hBs ⟨w5.drew.heap.size, 0, none⟩ 1 1 (Value.int .i64 i :: Pv) (by simp [hPl]) ?_ ?_ (by show D.waits.length + 1 ≤ _; simp only [maxLen]; omega) (by show (D.waits.length + 1) * 72 ≤ _; omega) (.tmp 32) _ rfl rfl rfl ?_
      · intro j u hu
        rw [Addr.add_mid, Nat.zero_add, cell_of_row _ _ _ _ _ _ hrow, ← hu]; simp
      · intro u hu
        rcases List.mem_cons.1 hu with rfl | hu
        · rfl
        · rw [HP.out.1] at hu; obtain ⟨x, _, rfl⟩ := List.mem_map.1 hu; rfl
      intro v7 w7 o7 g7 hv7
      have c7 := Chg.of_grown g7
      have hWd : W.ownBlock ≠ some d := HL6.out.w0
      have hd7 : w7.heap[d]? = some (.cells #[S, .slice (some ⟨g, 0, none⟩) n c2', W] 142 (0, 0)) := by
        rw [c7.block d (Array.getElem?_eq_some_iff.1 HL6.out.cells).1 (fun h => hWd h.symm)]; exact HL6.out.cells
      have hpr7 : w7.rangeAt w'.heap.size 0 Pv := by
        intro j v hv
        have h1 := hpr6 j v hv
        rw [World.cell?_of_block (w := w6) (c7.block w'.heap.size (World.block_lt_of_cell? w6 _ h1) (fun h => by
          have h2 := HC.out.2.2.1 w'.heap.size (.inr (.inr (.inr h)))
          exact Nat.lt_irrefl _ h2))]
        exact h1
      refine hK _ _ hpr7 fun a'' ha => ?_
      clear hK
      simp only [Act.put, List.setIfInBounds_toArray, List.set_cons_zero, List.set_cons_succ] at ha
      subst ha
      (repeat (first | ((with_reducible refine sq (v := ?_) (a' := ?_) ?_ ?_ ?_); rotate_left 2; (focus (intro w' hS; go_simp; (first | done | with_reducible rfl | rfl))); (simp only [Act.put, List.setIfInBounds_toArray, List.set_cons_zero, List.set_cons_succ]; rfl)) | ((with_reducible refine sn (a' := ?_) ?_ ?_ ?_); rotate_left; (focus rfl); (simp only [Act.put, List.setIfInBounds_toArray, List.set_cons_zero, List.set_cons_succ]; rfl)) | ((with_reducible refine sf trivial (a' := ?_) ?_ ?_ ?_); rotate_left; (focus rfl); (simp only [Act.put, List.setIfInBounds_toArray, List.set_cons_zero, List.set_cons_succ]; rfl)) | ((with_reducible refine sqg (v := ?_) (a' := ?_) ?_ ?_ ?_ ?_); rotate_left 2; (focus rfl); (focus (intro w' hS; go_simp; (first | done | with_reducible rfl | rfl))); (simp only [Act.put, List.setIfInBounds_toArray, List.set_cons_zero, List.set_cons_succ]; rfl)))); (repeat ((go_bits; (first | ((with_reducible refine sq (v := ?_) (a' := ?_) ?_ ?_ ?_); rotate_left 2; (focus (intro w' hS; go_simp; (first | done | with_reducible rfl | rfl))); (simp only [Act.put, List.setIfInBounds_toArray, List.set_cons_zero, List.set_cons_succ]; rfl)) | ((with_reducible refine sn (a' := ?_) ?_ ?_ ?_); rotate_left; (focus rfl); (simp only [Act.put, List.setIfInBounds_toArray, List.set_cons_zero, List.set_cons_succ]; rfl)) | ((with_reducible refine sf trivial (a' := ?_) ?_ ?_ ?_); rotate_left; (focus rfl); (simp only [Act.put, List.setIfInBounds_toArray, List.set_cons_zero, List.set_cons_succ]; rfl)) | ((with_reducible refine sqg (v := ?_) (a' := ?_) ?_ ?_ ?_ ?_); rotate_left 2; (focus rfl); (focus (intro w' hS; go_simp; (first | done | with_reducible rfl | rfl))); (simp only [Act.put, List.setIfInBounds_toArray, List.set_cons_zero, List.set_cons_succ]; rfl)))); (repeat (first | ((with_reducible refine sq (v := ?_) (a' := ?_) ?_ ?_ ?_); rotate_left 2; (focus (intro w' hS; go_simp; (first | done | with_reducible rfl | rfl))); (simp only [Act.put, List.setIfInBounds_toArray, List.set_cons_zero, List.set_cons_succ]; rfl)) | ((with_reducible refine sn (a' := ?_) ?_ ?_ ?_); rotate_left; (focus rfl); (simp only [Act.put, List.setIfInBounds_toArray, List.set_cons_zero, List.set_cons_succ]; rfl)) | ((with_reducible refine sf trivial (a' := ?_) ?_ ?_ ?_); rotate_left; (focus rfl); (simp only [Act.put, List.setIfInBounds_toArray, List.set_cons_zero, List.set_cons_succ]; rfl)) | ((with_reducible refine sqg (v := ?_) (a' := ?_) ?_ ?_ ?_ ?_); rotate_left 2; (focus rfl); (focus (intro w' hS; go_simp; (first | done | with_reducible rfl | rfl))); (simp only [Act.put, List.setIfInBounds_toArray, List.set_cons_zero, List.set_cons_succ]; rfl)))))); (try go_bits)
      obtain ⟨A7, c7', hv7e, -, -, -, -⟩ := o7.slice
      have hcell7 : w7.cell? ⟨d, 2, none⟩ = some W := by rw [cell_of_row _ _ _ _ _ _ hd7]; rfl
      have hfz7 : w7.frozen? ⟨d, 2, none⟩ = false := frozen_of_row _ _ _ _ _ hd7
      have HO7 := Lib.hid (And.intro o7 (And.intro g7 (And.intro hv7 c7)))
      clear o7 g7 hv7 c7
      have HV7 := Lib.hid hv7e
      rw [hv7e]
      clear hv7e
      refine se' fun K hK => ?_
      go_simp
      have hne : w'.heap.size ≠ d := by omega
      refine hK _ _ ?_ fun a'' ha => ?_
      · intro j v hv
        have h1 := hpr7 j v hv
        rw [← h1]
        exact World.cell?_of_block (Below.heap_setCell _ _ _ _ hne)
      clear hK
      try (simp only [Act.put, List.setIfInBounds_toArray, List.set_cons_zero, List.set_cons_succ] at ha)
      subst ha
      refine sl_end ?_
      go_wp2
      go_ret
      have e7 := HV7.out
      refine ⟨rfl, blocks d S (.slice (some ⟨g, 0, none⟩) n c2') v7, ?_, ?_, ?_⟩
      · have hv7d : v7.ownBlock ≠ some d := by
          rcases HO7.out.2.2.1 with h2 | h2
          · rw [h2]; exact HL6.out.w0
          · rw [h2]
            intro h
            injection h with h
            have := (Array.getElem?_eq_some_iff.1 HL6.out.cells).1
            omega
        have hgr : v7.ownBlock = W.ownBlock ∨ ∃ g, v7.ownBlock = some g ∧ w6.heap.size ≤ g := HO7.out.2.2.1.imp id fun h => ⟨_, h, Nat.le_refl _⟩
        have e8 : (w7.setCell ⟨d, 2, none⟩ (.slice A7 (D.waits.length + 1) c7')) = w7.setCell ⟨d, 2, none⟩ v7 := by rw [e7]
        rw [e8]
        refine ⟨S, _, v7, ⟨?_, HL6.out.base, ?_, ?_, ?_, HL6.out.s0, HL6.out.e0, hv7d, HL6.out.se, ?_, ?_, ?_⟩, fun k => Iff.rfl⟩
        · exact heap_setCell_same w7 d 2 #[S, .slice (some ⟨g, 0, none⟩) n c2', W] 142 v7 hd7
        · exact (HL6.out.sure.kept HO7.out.2.2.2 (fun k hk h => HL6.out.sw k h.symm hk)).kept (Chg.setCell w7 ⟨d, 2, none⟩ v7) (fun k hk h => HL6.out.s0 (by rw [hk]; exact congrArg some h))
        · have h9 := (HL6.out.seen.kept HO7.out.2.2.2 (fun k hk h => HL6.out.ew k h.symm hk)).kept (Chg.setCell w7 ⟨d, 2, none⟩ v7) (fun k hk h => HL6.out.e0 (by rw [hk]; exact congrArg some h))
          show RowV _ _ _ _ _ (D.seen.set (i : Int).toNat (pad b)).length (pcs (D.seen.set (i : Int).toNat (pad b)))
          rw [Int.toNat_natCast, ← HP.out.2.2]
          exact h9
        · have h := HO7.out.1.kept (Chg.setCell w7 ⟨d, 2, none⟩ v7) (fun k hk h => hv7d (by rw [hk]; exact congrArg some h))
          show RowV _ _ _ _ _ (D.waits ++ [((i : Int), pad b)]).length (wcs (D.waits ++ [((i : Int), pad b)]))
          rw [wcs_append, List.length_append, ← HP.out.2.2, ← HP.out.1]
          exact h
        · exact HL6.out.sw.grow hgr (fun g hg => (HL6.out.sure.lt g hg).2)
        · exact HL6.out.ew.grow hgr (fun g hg => (HL6.out.seen.lt g hg).2)
        · exact H.out.ok.write (by rw [← HNn.out]; exact hx) (by rw [← HP.out.2.2]; exact HP.out.2.1)
      · refine ((HC6.out.then HO7.out.2.2.2).then (Chg.setCell w7 ⟨d, 2, none⟩ _)).mono fun k hk h => ?_
        rcases h with (h | h) | h
        · rcases h with (h | h) | h
          · omega
          · exact (HC.out.2.1 _).2 (.inr (.inr (.inl (by rw [h]; rfl))))
          · exact h.elim
        · exact (HC.out.2.1 _).2 (.inr (.inr (.inr h)))
        · exact (HC.out.2.1 _).2 (.inl h)
      · intro k hk
        rcases hk with rfl | h | h | h
        · exact .inl ((HC.out.2.1 _).2 (.inl rfl))
        · exact .inl ((HC.out.2.1 _).2 (.inr (.inl h)))
        · exact .inl ((HC.out.2.1 _).2 (.inr (.inr (.inl h))))
        · rcases HO7.out.2.2.1 with h2 | h2
          · rw [h2] at h; exact .inl ((HC.out.2.1 _).2 (.inr (.inr (.inr h))))
          · rw [h2] at h; injection h with h
            have := HC6.out.size
            exact .inr (by omega)
  · have hm : mayOk D.seen.length x = 1 := by unfold mayOk; rw [if_neg hx]
    have hc : writeCode D.seen.length x b = 1 := by unfold writeCode; rw [if_pos (.inl hm)]
    rw [hc]
    clear hc
    go_enter Tryz.func12, Tryz.ntmps12
    go_wp2_with fail
    refine (may H.out x).mono ?_
    rw [hm]
    clear hm
    rintro e w' ⟨rfl, h⟩
    subst h
    go_wp2
    go_ret
    exact ⟨rfl, F, H.out, Chg.refl _ _, fun k hk => .inl hk⟩
end Go.Proofs.YticnjkdaccacaaaGreatDoor.Disk
end
section
namespace Go.Proofs.YticnjkdaccacaaaGreatDoor.Disk
open Go.RowKit Base _root_.Go.Proofs.YticnjkdaccacaaaGreatDoor.Own OwnV Bytes
theorem fail_arg {w : World} {B d : Nat} {F : Nat → Prop} {D : Dk} (h : Disk w B d F D) (keep torn : Int) (ht : torn < -1) :
    Calls Tryz.prog 20 #[.pointer (some ⟨d, 0, none⟩), .int .u64 keep, .int .i64 torn] w fun e w' => e = .returned (.tuple #[.pointer none, .int .i64 1]) ∧ w' = w := by
  have hsz := size h
  have hpos := h.ok.pos
  obtain ⟨n, hn⟩ : ∃ n, n = D.seen.length := ⟨_, rfl⟩
  rw [← hn] at hsz hpos
  have hz : ((n : Int) == 0) = false := by rw [beq_eq_false_iff_ne]; omega
  have HZ := Lib.hid hsz
  clear hsz hn h
  go_enter Tryz.func20, Tryz.ntmps20
  go_wp2_with fail
  refine HZ.out.mono ?_
  rintro e w' ⟨rfl, h⟩
  subst h
  go_wp2
  go_ret2
  exact ⟨rfl, rfl⟩
theorem read_in {w : World} {B d : Nat} {F : Nat → Prop} {D : Dk} (h : Disk w B d F D) (i : Nat) (hi : i < D.seen.length) :
    Calls Tryz.prog 16 #[.pointer (some ⟨d, 0, none⟩), .int .i64 i] w fun e w' => (∃ v, e = .returned (.tuple #[v, .int .i64 0]) ∧ OwnI .u8 w' w.heap.size 5 v (D.seen.getD i [])) ∧ Below w.heap.size w w' := by
  have hm : mayOk D.seen.length (i : Int) = 0 := by unfold mayOk; rw [if_pos (by omega)]
  have h1 := read h (i : Int)
  rw [hm] at h1
  refine h1.mono ?_
  rintro e w' ⟨⟨v, rfl, _, h2⟩, hb⟩
  exact ⟨⟨v, rfl, h2 rfl⟩, hb⟩
theorem seen_pc {D : Dk} (h : D.ok) {i : Nat} (hi : i < D.seen.length) : Pc (D.seen.getD i []) := by
  rw [List.getD_eq_getElem?_getD, List.getElem?_eq_getElem hi]; exact h.seen _ (List.getElem_mem hi)
theorem write_in {w : World} {B d : Nat} {F : Nat → Prop} {D : Dk} (h : Disk w B d F D) (hB : B ≤ w.heap.size) (hwl : D.waits.length ≤ 1000000000) (i : Nat) (hi : i < D.seen.length) (A : Option Addr) (n c : Nat) (b : List Int) (hn : b.length = n) (hlb : n ≤ 64) (hb : Bts b) (hr : Rd .u8 w A b) :
    Calls Tryz.prog 12 #[.pointer (some ⟨d, 0, none⟩), .int .i64 i, .slice A n c] w fun e w' => e = .returned (.int .i64 0) ∧ ∃ F', Disk w' B d F' (D.write i (pad b)) ∧ Chg F w w' ∧ ∀ k, F' k → F k ∨ w.heap.size ≤ k := by
  subst hn
  have hm : mayOk D.seen.length (i : Int) = 0 := by unfold mayOk; rw [if_pos (by omega)]
  have hc : writeCode D.seen.length (i : Int) b = 0 := by unfold writeCode; rw [if_neg (by rw [hm]; simp; omega)]
  have h1 := write h hB hwl (i : Int) A c b (by omega) hb hr
  rw [hc] at h1
  refine h1.mono ?_
  rintro e w' ⟨rfl, F', h2, h3, h4⟩
  exact ⟨rfl, F', h2, h3, h4⟩
end Go.Proofs.YticnjkdaccacaaaGreatDoor.Disk
end
section
namespace Go.Proofs.YticnjkdaccacaaaGreatDoor.Sx
open Go Go.RowKit Base _root_.Go.Proofs.YticnjkdaccacaaaGreatDoor.Own Disk
def diskA (d : Nat) (D : Dk) : Asn where
  holds := fun w B F => Disk w B d F D
  keep := fun h hc hF _ => h.kept hc hF
  dom := fun h => h.lt
def _root_.Go.Proofs.YticnjkdaccacaaaGreatDoor.Disk.Dk.writeR (D : Dk) (x : Int) (b : List Int) : Dk := if writeCode D.seen.length x b = 0 then D.write x (pad b) else D
section
variable {w w0 : World} {d : Nat} {D : Dk} {R : List Asn}
theorem disk_size (S : Sat w0 w (diskA d D :: R)) : Calls Tryz.prog 79 #[.pointer (some ⟨d, 0, none⟩)] w fun e w' => e = .returned (.int .i64 D.seen.length) ∧ w' = w := by
  obtain ⟨F, h⟩ := S.hd
  exact Disk.size h
theorem disk_seen (S : Sat w0 w (diskA d D :: R)) : D.ok := by
  obtain ⟨F, h⟩ := S.hd
  exact Disk.Disk.ok h
theorem vok_small {n : Nat} (h : n ≤ 4096) : vok (.int .i64 (n : Int)) = true := vok_len (Nat.le_trans h (by decide))
theorem disk_waits (S : Sat w0 w (diskA d D :: R)) : Calls Tryz.prog 23 #[.pointer (some ⟨d, 0, none⟩)] w fun e w' => e = .returned (.int .i64 D.waits.length) ∧ vok (.int .i64 (D.waits.length : Int)) = true ∧ w' = w := by
  obtain ⟨F, h⟩ := S.hd
  refine (Disk.waits h).mono fun e w' ⟨h1, h2⟩ => ⟨h1, ?_, h2⟩
  obtain ⟨s, E, W, h3, _⟩ := h
  obtain ⟨A, c, e, h4, h5, -, -⟩ := h3.waits.slice
  exact vok_len (Nat.le_trans h4 h5)
theorem disk_write (S : Sat w0 w (diskA d D :: R)) (x : Int) {A : Option Addr} {c : Nat} {b : List Int} (hb : Rk .u8 w A b) (hl : D.waits.length ≤ 1000000000 ∧ b.length ≤ 1000000000) :
    Calls Tryz.prog 12 #[.pointer (some ⟨d, 0, none⟩), .int .i64 x, .slice A b.length c] w fun e w' => e = .returned (.int .i64 (writeCode D.seen.length x b)) ∧ vok (.int .i64 (writeCode D.seen.length x b)) = true ∧ Sat w0 w' (diskA d (D.writeR x b) :: R) := by
  obtain ⟨F, h, hF, hk⟩ := S.opened
  refine (Disk.write h S.below.size hl.1 x A c b hl.2 hb.bytes hb.rd).mono ?_
  rintro e w' ⟨rfl, F', h1, h2, h3⟩
  refine ⟨rfl, ?_, hk (A' := diskA d (D.writeR x b)) h1 h2 (fun k _ h => h) h3⟩
  unfold writeCode; split <;> rfl
theorem disk_sync (S : Sat w0 w (diskA d D :: R)) : Calls Tryz.prog 15 #[.pointer (some ⟨d, 0, none⟩)] w fun e w' => e = .returned (.int .i64 0) ∧ Sat w0 w' (diskA d D.sync :: R) := by
  obtain ⟨F, h, hF, hk⟩ := S.opened
  refine (Disk.sync h).mono ?_
  rintro e w' ⟨rfl, F', h1, h2, h3⟩
  exact ⟨rfl, hk (A' := diskA d D.sync) h1 h2 (fun k _ h => h) fun k h => .inl (h3 k h)⟩
theorem disk_new (S : Sat w0 w R) {x : Int} (hx : 1 ≤ x ∧ x ≤ 4096) : Calls Tryz.prog 9 #[.int .i64 x] w fun e w' => ∃ d, e = .returned (.tuple #[.pointer (some ⟨d, 0, none⟩), .int .i64 0]) ∧ Sat w0 w' (diskA d (Disk.blank x.toNat) :: R) := by
  have h := Disk.new x w
  simp only [if_pos hx] at h
  refine h.mono ?_
  rintro e w' ⟨⟨d, F, rfl, h1⟩, h2⟩
  exact ⟨d, rfl, S.add (F := F) h2 (Disk.Disk.lower h1 S.below.size) fun k hk => (Disk.Disk.lt h1 k hk).1⟩
theorem disk_new_no (S : Sat w0 w R) {x : Int} (hx : ¬ (1 ≤ x ∧ x ≤ 4096)) : Calls Tryz.prog 9 #[.int .i64 x] w fun e w' => e = .returned (.tuple #[.pointer none, .int .i64 1]) ∧ Sat w0 w' R := by
  have h := Disk.new x w
  simp only [if_neg hx] at h
  refine h.mono ?_
  rintro e w' ⟨rfl, h2⟩
  exact ⟨rfl, S.new h2⟩
theorem disk_fail (S : Sat w0 w (diskA d D :: R)) {keep torn : Int} (hk : (Lit.int .u64 keep).wf = true) (ht : (Lit.int .i64 torn).wf = true) (hl : D.waits.length ≤ 1000000 ∧ -1 ≤ torn) :
    Calls Tryz.prog 20 #[.pointer (some ⟨d, 0, none⟩), .int .u64 keep, .int .i64 torn] w fun e w' => ∃ d', e = .returned (.tuple #[.pointer (some ⟨d', 0, none⟩), .int .i64 0]) ∧ Sat w0 w' (diskA d' (D.fail keep torn) :: diskA d D :: R) := by
  obtain ⟨F, h⟩ := S.hd
  rw [wf_int] at hk ht
  have h1 : IntKind.u64.min = 0 := by decide
  have h2 : IntKind.u64.max = 18446744073709551615 := by decide
  have h3 : IntKind.i64.max = 9223372036854775807 := by decide
  refine (fail_ok h hl.1 keep torn (by omega) (by omega) hl.2 (by omega)).mono ?_
  rintro e w' ⟨⟨d', F', rfl, h4⟩, h5⟩
  exact ⟨d', rfl, S.add (F := F') h5 (Disk.Disk.lower h4 S.below.size) fun k hk => (Disk.Disk.lt h4 k hk).1⟩
theorem disk_fail_no (S : Sat w0 w (diskA d D :: R)) {keep torn : Int} (ht : torn < -1) :
    Calls Tryz.prog 20 #[.pointer (some ⟨d, 0, none⟩), .int .u64 keep, .int .i64 torn] w fun e w' => e = .returned (.tuple #[.pointer none, .int .i64 1]) ∧ w' = w := by
  obtain ⟨F, h⟩ := S.hd
  exact fail_arg h keep torn ht
theorem bts_wf {l : List Int} (h : ∀ z ∈ l, 0 ≤ z ∧ z < 256) : ∀ z ∈ l, (Lit.int .u8 z).wf = true := fun z hz => by
  have := h z hz
  rw [wf_int]
  have h1 : IntKind.u8.min = 0 := by decide
  have h2 : IntKind.u8.max = 255 := by decide
  omega
theorem disk_read (S : Sat w0 w (diskA d D :: R)) {x : Int} (hx : 0 ≤ x ∧ x < D.seen.length) :
    Calls Tryz.prog 16 #[.pointer (some ⟨d, 0, none⟩), .int .i64 x] w fun e w' => ∃ A c, e = .returned (.tuple #[.slice A (D.seen.getD x.toNat []).length c, .int .i64 0]) ∧ vok (.tuple #[.slice A (D.seen.getD x.toNat []).length c, .int .i64 0]) = true ∧ Sat w0 w' (ownA .u8 5 A c (D.seen.getD x.toNat []) :: diskA d D :: R) := by
  obtain ⟨F, h⟩ := S.hd
  have hok := disk_seen S
  obtain ⟨i, rfl⟩ : ∃ i : Nat, x = i := ⟨x.toNat, by omega⟩
  have hi : i < D.seen.length := by omega
  refine (read_in h i hi).mono ?_
  rintro e w' ⟨⟨v, rfl, h1⟩, h2⟩
  have hp := seen_pc hok hi
  obtain ⟨A, c, rfl, h3, h4⟩ := S.row (l := D.seen.getD i []) h2 h1 (bts_wf hp.2)
  exact ⟨A, c, rfl, by
    have h5 : vokC (.slice A (D.seen.getD (i : Int).toNat []).length c) = true := h3
    show [_, _].all vokC = true
    rw [List.all_cons, h5]; rfl, h4⟩
end
end Go.Proofs.YticnjkdaccacaaaGreatDoor.Sx
end
