/- Disks: what is refused; the first byte of a sector. -/
import Derived.Test.YtmpkoacpakepfaaDiskFail
import Derived.Test.YtmpkoacpakepfaaDiskNew
import Derived.Test.YtmpkoacpakepfaaDiskWrite
namespace Go.Proofs.Ytmpkoacpakepfaa.Disk
open Go.RowKit Base Own OwnV Bytes

theorem fail_arg {w : World} {B d : Nat} {F : Nat → Prop} {D : Dk} (h : Disk w B d F D) (keep torn : Int) (ht : torn < -1) :
    Calls Try.prog 18 #[.pointer (some ⟨d, 0, none⟩), .int .u64 keep, .int .i64 torn] w fun e w' => e = .returned (.tuple #[.pointer none, .int .i64 1]) ∧ w' = w := by
  have hsz := size h
  have hpos := h.ok.pos
  obtain ⟨n, hn⟩ : ∃ n, n = D.seen.length := ⟨_, rfl⟩
  rw [← hn] at hsz hpos
  have hz : ((n : Int) == 0) = false := by rw [beq_eq_false_iff_ne]; omega
  have HZ := Lib.hid hsz
  clear hsz hn h
  go_enter Try.func18, Try.ntmps18
  go_wp2_with fail
  refine HZ.out.mono ?_
  rintro e w' ⟨rfl, h⟩
  subst h
  go_wp2
  go_ret2
  exact ⟨rfl, rfl⟩
/-- A sector that may be asked for. -/
theorem read_in {w : World} {B d : Nat} {F : Nat → Prop} {D : Dk} (h : Disk w B d F D) (i : Nat) (hi : i < D.seen.length) :
    Calls Try.prog 23 #[.pointer (some ⟨d, 0, none⟩), .int .i64 i] w fun e w' => (∃ v, e = .returned (.tuple #[v, .int .i64 0]) ∧ OwnI .u8 w' w.heap.size 5 v (D.seen.getD i [])) ∧ Below w.heap.size w w' := by
  have hm : mayOk D.seen.length (i : Int) = 0 := by unfold mayOk; rw [if_pos (by omega)]
  have h1 := read h (i : Int)
  rw [hm] at h1
  refine h1.mono ?_
  rintro e w' ⟨⟨v, rfl, _, h2⟩, hb⟩
  exact ⟨⟨v, rfl, h2 rfl⟩, hb⟩
theorem seen_pc {D : Dk} (h : D.ok) {i : Nat} (hi : i < D.seen.length) : Pc (D.seen.getD i []) := by
  rw [List.getD_eq_getElem?_getD, List.getElem?_eq_getElem hi]; exact h.seen _ (List.getElem_mem hi)
/-- A write that may be. -/
theorem write_in {w : World} {B d : Nat} {F : Nat → Prop} {D : Dk} (h : Disk w B d F D) (hB : B ≤ w.heap.size) (hwl : D.waits.length ≤ 1000000000) (i : Nat) (hi : i < D.seen.length) (A : Option Addr) (n c : Nat) (b : List Int) (hn : b.length = n) (hlb : n ≤ 64) (hb : Bts b) (hr : Rd .u8 w A b) :
    Calls Try.prog 22 #[.pointer (some ⟨d, 0, none⟩), .int .i64 i, .slice A n c] w fun e w' => e = .returned (.int .i64 0) ∧ ∃ F', Disk w' B d F' (D.write i (pad b)) ∧ Chg F w w' ∧ ∀ k, F' k → F k ∨ w.heap.size ≤ k := by
  subst hn
  have hm : mayOk D.seen.length (i : Int) = 0 := by unfold mayOk; rw [if_pos (by omega)]
  have hc : writeCode D.seen.length (i : Int) b = 0 := by unfold writeCode; rw [if_neg (by rw [hm]; simp; omega)]
  have h1 := write h hB hwl (i : Int) A c b (by omega) hb hr
  rw [hc] at h1
  refine h1.mono ?_
  rintro e w' ⟨rfl, F', h2, h3, h4⟩
  exact ⟨rfl, F', h2, h3, h4⟩
end Go.Proofs.Ytmpkoacpakepfaa.Disk
