/- The walks of package sums: the closure, the table, On, Of. -/
import Derived.Test.YticnjkdaccacaaaDoorProg
import Derived.Test.YticnjkdaccacaaaDoorCrc
import Derived.Test.YticnjkdaccacaaaDoorBase
import Derived.Test.YticnjkdaccacaaaDoorOwn
import Derived.ProofKit
import Derived.OpenShut
import Derived.KernelRfl
import Derived.Lib.Hide
import Derived.Deep.LoopGhost
import Derived.Laws.Tables
namespace Go.Proofs.YticnjkdaccacaaaDoor.Sums
open Go.RowKit Crc Base Own

theorem on1 (n : BitVec 32) (w : World) :
    Calls Tryd.prog 61 #[.int .u32 (num n)] w fun e w' => e = .returned (.int .u32 (num (stps 8 n))) ∧ w = w' := by
  go_enter Tryd.func61, Tryd.ntmps61
  go_wp2
  go_loop [0, 3] (fun v i => ∃ (k : Nat) (x : BitVec 32), k ≤ 8 ∧ i = .int .i64 k ∧ v = .int .u32 (num x) ∧ stps (8 - k) x = stps 8 n) (fun _ i => 8 - (intOf i).toNat)
  case atStart => exact ⟨0, n, by omega, rfl, rfl, rfl⟩
  case round =>
    obtain ⟨k, x, hk, rfl, rfl, hx⟩ := hrel
    have HX := Lib.hid hx
    clear hx
    go_wp2
    · go_round
      case rel =>
        have hk' : k < 8 := by omega
        exact ⟨k + 1, stp x, by omega, by go_num, by rw [stp_walk], by rw [← HX.out, show 8 - k = (8 - (k + 1)) + 1 by omega]; rfl⟩
      case measure => simp [intOf]; omega
    · go_ret
      have hk' : k = 8 := by omega
      subst hk'
      exact ⟨by rw [← HX.out]; rfl, rfl⟩

theorem on1' (k : Int) (h0 : 0 ≤ k) (h1 : k < 4294967296) (w : World) :
    Calls Tryd.prog 61 #[.int .u32 k] w fun e w' => e = .returned (.int .u32 (num (stps 8 (BitVec.ofInt 32 k)))) ∧ w = w' := by
  have h := on1 (BitVec.ofInt 32 k) w
  rwa [num_of h0 h1] at h

def tbl (i : Nat) : Value := .int .u32 (num (stps 8 (BitVec.ofInt 32 (i : Int))))
def cells (k : Nat) : Array Value := ((List.range 256).map fun i => if i < k then tbl i else .int .u32 0).toArray

theorem zeroT (w : World) : (zeroValue 55).run Tryd.prog w = .ok (.agg (cells 0)) w := by kernel_rfl
theorem cells_get (k j : Nat) (hj : j < 256) : (cells k)[j]? = some (if j < k then tbl j else .int .u32 0) := by
  simp [cells, hj]
theorem cells_size (k : Nat) : (cells k).size = 256 := by simp [cells]
theorem cells_one : ((cells 256).all fun x => x.oneCell') = true := by
  rw [Array.all_eq_true]
  intro i hi
  rw [cells_size] at hi
  have h := cells_get 256 i hi
  rw [Array.getElem?_eq_getElem (by rw [cells_size]; exact hi), if_pos hi] at h
  injection h with h
  rw [h]; rfl
theorem cells_set (k : Nat) (hk : k < 256) : (cells k).setIfInBounds k (tbl k) = cells (k + 1) := by
  apply Array.ext_getElem?
  intro i
  rw [Array.getElem?_setIfInBounds, cells_size]
  by_cases hi : i < 256
  · rw [cells_get _ _ hi, cells_get _ _ hi]
    by_cases e : k = i
    · subst e; simp [hk]
    · rw [if_neg e]
      congr 1
      by_cases h : i < k
      · rw [if_pos h, if_pos (by omega)]
      · rw [if_neg h, if_neg (by omega)]
  · have h1 : (cells k)[i]? = none := by rw [Array.getElem?_eq_none_iff, cells_size]; omega
    have h2 : (cells (k + 1))[i]? = none := by rw [Array.getElem?_eq_none_iff, cells_size]; omega
    rw [h1, h2, if_neg (by omega)]

set_option maxRecDepth 100000 in
theorem table (w : World) :
    Calls Tryd.prog 60 #[.func (.func 61) #[] #[]] w fun e w' => e = .returned (.agg (cells 256)) ∧ Below w.heap.size w w' := by
  have hz := zeroT
  go_enter Tryd.func60, Tryd.ntmps60
  go_wp2
  go_loopw [4] (fun i wr => ∃ k : Nat, k ≤ 256 ∧ i = .int .i64 k ∧ Below w.heap.size w wr ∧ wr.heap[w.heap.size]? = some (.cells (cells k) 55 (0, 0))) (fun i _ => 256 - (intOf i).toNat)
  case atStart => exact ⟨0, by omega, rfl, (Below.refl _ _).alloc (Nat.le_refl _) _, heap_alloc_new _ _⟩
  case round =>
    clear hz
    obtain ⟨k, hk, rfl, hb, hg⟩ := hrel
    by_cases hlt : k < 256
    · go_wp2_with fail
      refine (on1' _ (by omega) (by omega) _).mono ?_
      rintro e w' ⟨rfl, rfl⟩
      have hc : wr.cell? ⟨w.heap.size, k, none⟩ = some (.int .u32 0) := by rw [cell_of_row _ _ _ _ _ _ hg, cells_get _ _ hlt, if_neg (by omega)]
      have hf : wr.frozen? ⟨w.heap.size, k, none⟩ = false := frozen_of_row _ _ _ _ _ hg
      have HG := Lib.hid hg
      clear hg
      go_wp2
      go_roundw
      case rel => exact ⟨k + 1, by omega, by go_num, hb.setCell (Nat.le_refl _) _, by rw [heap_setCell_same _ _ _ _ _ _ HG.out]; rw [← cells_set k hlt]; rfl⟩
      case measure => simp [intOf]; omega
    · obtain rfl : k = 256 := by omega
      have hsz : (Tryd.prog.info? 55).map (·.size) = some (cells 256).size := by rw [cells_size]; kernel_rfl
      go_wp2_with (first | (refine wpList_load_row rfl 55 _ rfl _ rfl _ _ _ _ hg Tryd.underlying55 rfl hsz ?_) | (refine wpList_store_row rfl 55 _ _ rfl _ _ rfl rfl _ _ hg hsz rfl cells_one ?_))
      refine bodyPost_ret (results_cell_row rfl _ _ _ _ (cells 256) (0, 0) _ rfl (setRow_heap _ _ _ _ _ _ hg) Tryd.underlying55 rfl hsz) rfl ⟨rfl, ?_⟩
      exact hb.trans ⟨rfl, rfl, rfl, by simp, fun i hi => setRow_other _ _ _ _ (by omega)⟩

set_option maxRecDepth 100000 in
theorem on_nil_any (s : BitVec 32) (A : Option Addr) (c : Nat) (w : World) :
    Calls Tryd.prog 16 #[.int .u32 (num s), .slice A 0 c] w fun e w' => e = .returned (.int .u32 (num s)) ∧ Below w.heap.size w w' := by
  go_enter Tryd.func16, Tryd.ntmps16
  go_wp2
  go_ret
  exact ⟨rfl, Below.refl _ _⟩

/-- What a slice of bytes reads as. -/
def Bts (l : List Int) : Prop := ∀ x ∈ l, 0 ≤ x ∧ x < 256
theorem Bts.take {l : List Int} (h : Bts l) (k : Nat) : Bts (l.take k) := fun x hx => h x (List.mem_of_mem_take hx)
theorem Bts.drop {l : List Int} (h : Bts l) (k : Nat) : Bts (l.drop k) := fun x hx => h x (List.mem_of_mem_drop hx)
theorem Bts.append {l m : List Int} (h : Bts l) (h' : Bts m) : Bts (l ++ m) := fun x hx => (List.mem_append.1 hx).elim (h x) (h' x)
theorem Bts.getD {l : List Int} (h : Bts l) {j : Nat} (hj : j < l.length) : 0 ≤ l.getD j 0 ∧ l.getD j 0 < 256 := by
  rw [List.getD_eq_getElem?_getD, List.getElem?_eq_getElem hj]; exact h _ (List.getElem_mem hj)

set_option maxRecDepth 100000 in
theorem on_any (s : BitVec 32) (A : Option Addr) (c : Nat) (l : List Int) (w : World) (hl : l.length ≤ 9223372036854775807) (hb : Bts l) (hr : Rd .u8 w A l) :
    Calls Tryd.prog 16 #[.int .u32 (num s), .slice A l.length c] w fun e w' => e = .returned (.int .u32 (num (on s l))) ∧ Below w.heap.size w w' := by
  by_cases h0 : l = []
  · subst h0; rw [on_nil]; exact on_nil_any s A c w
  obtain ⟨ad, rfl, hb0, hc⟩ := hr h0
  obtain ⟨b, o, sp⟩ := ad
  have hb1 : b < w.heap.size := hb0
  have hpos : 0 < l.length := List.length_pos_iff.2 h0
  have hne : ((l.length : Int) == 0) = false := by rw [beq_eq_false_iff_ne]; omega
  have HC := Lib.hid hc
  have HB := Lib.hid hb
  clear hc hb h0
  have hz := zeroT
  have HW : w.heap.size ≤ w.heap.size := Nat.le_refl _
  have hsz : (Tryd.prog.info? 55).map (·.size) = some (cells 256).size := by rw [cells_size]; kernel_rfl
  go_enter Tryd.func16, Tryd.ntmps16
  go_wp2_with fail
  refine (table _).mono ?_
  rintro e w1 ⟨rfl, hq1⟩
  have hb2 : Below w.heap.size w (w1.alloc (.cells (cells 0) 55)) := hq1.alloc hq1.size _
  have hg2 : (w1.alloc (.cells (cells 0) 55)).heap[w1.heap.size]? = some (.cells (cells 0) 55 (0, 0)) := heap_alloc_new _ _
  have hs1 := hq1.size
  have HB1 := Lib.hid hq1
  have HS := Lib.hid hsz
  clear hq1 hsz
  have hsg : IntKind.u32.signed = false := rfl
  have hun := bits_not
  go_wp2_with (first | (refine wpList_store_row rfl 55 _ _ rfl _ _ rfl rfl _ _ hg2 HS.out rfl cells_one ?_))
  have hb3 : Below w.heap.size w ((w1.alloc (.cells (cells 0) 55)).setRow w1.heap.size (cells 256)) :=
    hb2.trans ⟨rfl, rfl, rfl, by simp, fun i hi => setRow_other _ _ _ _ (by omega)⟩
  have hg3 := setRow_heap _ _ _ (cells 256) _ _ hg2
  generalize (w1.alloc (.cells (cells 0) 55)).setRow w1.heap.size (cells 256) = w3 at hb3 hg3 ⊢
  clear hg2 hb2 HB1 HS hz HW
  have HG := Lib.hid hg3
  have H3 := Lib.hid hb3
  clear hg3 hb3
  go_loop [6, 18] (fun v i => ∃ (k : Nat) (x : BitVec 32), k ≤ l.length ∧ i = .int .i64 k ∧ v = .int .u32 (num x) ∧ x = raw (~~~ s) (l.take k)) (fun _ i => l.length - (intOf i).toNat)
  case atStart => exact ⟨0, _, by omega, rfl, rfl, rfl⟩
  case round =>
    obtain ⟨k, x, hk, rfl, rfl, hx⟩ := hrel
    have HX := Lib.hid hx
    clear hx
    by_cases hlt : k < l.length
    · have hc3 : w3.cell? ((⟨b, o, sp⟩ : Addr).add k) = some (.int .u8 (l.getD k 0)) := by
        rw [H3.out.cell (p := (⟨b, o, sp⟩ : Addr).add k) (by rw [add_block]; exact hb1)]; exact HC.out k hlt
      obtain ⟨y, hy⟩ : ∃ y, y = l.getD k 0 := ⟨_, rfl⟩
      rw [← hy] at hc3
      have hyr : 0 ≤ y ∧ y < 256 := by rw [hy]; exact HB.out.getD hlt
      have hy0 := hyr.1
      have hy1 := hyr.2
      have HY := Lib.hid hy
      clear hy hyr
      have hj := bits_ix x y hy0 hy1
      have hj0 := (ix_range x y).1
      have hj1 := (ix_range x y).2
      have hcj : w3.cell? ⟨w1.heap.size, (num (ix x y)).toNat, none⟩ = some (.int .u32 (num (stps 8 (ix x y)))) := by
        rw [cell_of_row _ _ _ _ _ _ HG.out, cells_get _ _ (by omega), if_pos (by omega)]
        unfold tbl
        rw [Int.toNat_of_nonneg hj0, of_num]
      have hbw := byt_walk x y hy0 hy1
      go_wp2
      go_round
      case rel => exact ⟨k + 1, byt x y, by omega, by go_num, rfl, by rw [HX.out, HY.out, List.take_succ_eq_append_getElem hlt, raw_append, List.getD_eq_getElem?_getD, List.getElem?_eq_getElem hlt]; rfl⟩
      case measure => simp [intOf]; omega
    · obtain rfl : k = l.length := by omega
      go_wp2
      go_ret
      exact ⟨by rw [HX.out, List.take_length]; rfl, H3.out⟩

set_option maxRecDepth 100000 in
theorem of_any (A : Option Addr) (c : Nat) (l : List Int) (w : World) (hl : l.length ≤ 9223372036854775807) (hb : Bts l) (hr : Rd .u8 w A l) :
    Calls Tryd.prog 17 #[.slice A l.length c] w fun e w' => e = .returned (.int .u32 (num (on 0#32 l))) ∧ Below w.heap.size w w' := by
  go_enter Tryd.func17, Tryd.ntmps17
  go_wp2_with fail
  refine (on_any 0#32 A c l w hl hb hr).mono ?_
  rintro e w1 ⟨rfl, hb⟩
  go_wp2
  go_ret
  exact ⟨rfl, hb⟩
/-- The same behind a start: what is read was there then. -/
theorem on_from {w0 w : World} (hw : Below w0.heap.size w0 w) (s : BitVec 32) (A : Option Addr) (c n : Nat) (l : List Int) (hn : l.length = n) (hl : n ≤ 9223372036854775807) (hb : Bts l) (hr : Rd .u8 w0 A l) :
    Calls Tryd.prog 16 #[.int .u32 (num s), .slice A n c] w fun e w' => e = .returned (.int .u32 (num (on s l))) ∧ Below w0.heap.size w0 w' := by
  subst hn
  exact (on_any s A c l w hl hb (hr.below hw)).mono fun e w' ⟨he, h⟩ => ⟨he, hw.trans (below_weak hw.size h)⟩
theorem of_from {w0 w : World} (hw : Below w0.heap.size w0 w) (A : Option Addr) (c n : Nat) (l : List Int) (hn : l.length = n) (hl : n ≤ 9223372036854775807) (hb : Bts l) (hr : Rd .u8 w0 A l) :
    Calls Tryd.prog 17 #[.slice A n c] w fun e w' => e = .returned (.int .u32 (num (on 0#32 l))) ∧ Below w0.heap.size w0 w' := by
  subst hn
  exact (of_any A c l w hl hb (hr.below hw)).mono fun e w' ⟨he, h⟩ => ⟨he, hw.trans (below_weak hw.size h)⟩
theorem rd_lit (w1 : World) (l : List Int) (cs : Array Value) (t : TypeId) (fr : Nat × Nat) (hc : cs = (l.map (Value.int .u8)).toArray) : Rd .u8 (w1.alloc (.cells cs t fr)) (some ⟨w1.heap.size, 0, none⟩) l := by
  refine Rd.block (heap_alloc_new _ _) (fun j hj => ?_)
  subst hc
  simp [List.getElem?_eq_getElem hj, List.getD_eq_getElem?_getD]
/-- Of a literal's bytes. -/
theorem on_lit {w0 w1 : World} (hw : Below w0.heap.size w0 w1) (s : BitVec 32) (l : List Int) (cs : Array Value) (t : TypeId) (fr : Nat × Nat) (n c : Nat) (hc : cs = (l.map (Value.int .u8)).toArray) (hn : l.length = n) (hl : n ≤ 9223372036854775807) (hb : Bts l) :
    Calls Tryd.prog 16 #[.int .u32 (num s), .slice (some ⟨w1.heap.size, 0, none⟩) n c] (w1.alloc (.cells cs t fr)) fun e w' => e = .returned (.int .u32 (num (on s l))) ∧ Below w0.heap.size w0 w' := by
  subst hn
  have h2 : Below w0.heap.size w0 (w1.alloc (.cells cs t fr)) := hw.alloc hw.size _
  exact (on_any s _ c l _ hl hb (rd_lit w1 l cs t fr hc)).mono fun e w' ⟨he, h⟩ => ⟨he, h2.trans (below_weak h2.size h)⟩
theorem of_lit {w0 w1 : World} (hw : Below w0.heap.size w0 w1) (l : List Int) (cs : Array Value) (t : TypeId) (fr : Nat × Nat) (n c : Nat) (hc : cs = (l.map (Value.int .u8)).toArray) (hn : l.length = n) (hl : n ≤ 9223372036854775807) (hb : Bts l) :
    Calls Tryd.prog 17 #[.slice (some ⟨w1.heap.size, 0, none⟩) n c] (w1.alloc (.cells cs t fr)) fun e w' => e = .returned (.int .u32 (num (on 0#32 l))) ∧ Below w0.heap.size w0 w' := by
  subst hn
  have h2 : Below w0.heap.size w0 (w1.alloc (.cells cs t fr)) := hw.alloc hw.size _
  exact (of_any _ c l _ hl hb (rd_lit w1 l cs t fr hc)).mono fun e w' ⟨he, h⟩ => ⟨he, h2.trans (below_weak h2.size h)⟩
theorem of_own {w0 w : World} {e : TypeId} {v : Value} {l : List Int} (bd : Below w0.heap.size w0 w) (hown : OwnI .u8 w w0.heap.size e v l) (hb : Bts l) (hl : l.length ≤ 9223372036854775807) :
    Calls Tryd.prog 17 #[v] w fun r w' => r = .returned (.int .u32 (num (on 0#32 l))) ∧ Below w0.heap.size w0 w' ∧ Below w.heap.size w w' := by
  obtain ⟨C, cc, rfl, _, _, hr, _⟩ := hown.slice
  exact (of_any C cc l w hl hb hr).mono fun r w' ⟨h1, h2⟩ => ⟨h1, bd.trans (below_weak bd.size h2), h2⟩
theorem on_own {w0 w : World} {e : TypeId} {v : Value} {l : List Int} (bd : Below w0.heap.size w0 w) (s : BitVec 32) (hown : OwnI .u8 w w0.heap.size e v l) (hb : Bts l) (hl : l.length ≤ 9223372036854775807) :
    Calls Tryd.prog 16 #[.int .u32 (num s), v] w fun r w' => r = .returned (.int .u32 (num (on s l))) ∧ Below w0.heap.size w0 w' ∧ Below w.heap.size w w' := by
  obtain ⟨C, cc, rfl, _, _, hr, _⟩ := hown.slice
  exact (on_any s C cc l w hl hb hr).mono fun r w' ⟨h1, h2⟩ => ⟨h1, bd.trans (below_weak bd.size h2), h2⟩
theorem tyB : RowTy Tryd.prog 22 5 .u8 := ⟨Tryd.underlying22, 1, by decide, by kernel_rfl⟩
theorem info1 : (Tryd.prog.info? 5).map (·.size) = some 1 := by kernel_rfl
end Go.Proofs.YticnjkdaccacaaaDoor.Sums
