/- The chapter's fixed answers. -/
import Derived.Test.YtkokdpnnmkphmaaDiskMore
import Derived.Lib.SlBytesConst
namespace Go.Proofs.Ytkokdpnnmkphmaa.Disk
open Go.RowKit Base Own OwnV Bytes

/-- A disk of the call's own. -/
def St (w0 w : World) (d : Nat) (D : Dk) : Prop := (∃ F, Disk w w0.heap.size d F D) ∧ Below w0.heap.size w0 w
section
variable {w0 w w' : World} {d : Nat} {D : Dk}
theorem St.new (h : St w0 w d D) (hb : Below w.heap.size w w') : St w0 w' d D := ⟨h.1.imp fun _ h1 => h1.new hb, h.2.trans (below_weak h.2.size hb)⟩
theorem St.alloc (h : St w0 w d D) (o : Obj) : St w0 (w.alloc o) d D := h.new ((Below.refl _ _).alloc (Nat.le_refl _) o)
theorem St.ok (h : St w0 w d D) : D.ok := by obtain ⟨⟨F, h⟩, _⟩ := h; exact h.ok
theorem St.made (x : Int) (hx : 1 ≤ x ∧ x ≤ 4096) (hb : Below w0.heap.size w0 w) : Calls Try.prog 18 #[.int .i64 x] w fun e w' => ∃ d, e = .returned (.tuple #[.pointer (some ⟨d, 0, none⟩), .int .i64 0]) ∧ St w0 w' d (blank x.toNat) := by
  have h := Go.Proofs.Ytkokdpnnmkphmaa.Disk.new x w
  simp only [if_pos hx] at h
  refine h.mono ?_
  rintro e w' ⟨⟨d, F, rfl, h1⟩, h2⟩
  exact ⟨d, rfl, ⟨F, h1.lower hb.size⟩, hb.trans (below_weak hb.size h2)⟩
theorem St.write (h : St w0 w d D) (hwl : D.waits.length ≤ 1000000000) (i : Nat) (hi : i < D.seen.length) (A : Option Addr) (n c : Nat) (b : List Int) (hn : b.length = n) (hlb : n ≤ 64) (hb : Bts b) (hr : Rd .u8 w A b) :
    Calls Try.prog 12 #[.pointer (some ⟨d, 0, none⟩), .int .i64 i, .slice A n c] w fun e w' => e = .returned (.int .i64 0) ∧ St w0 w' d (D.write i (pad b)) := by
  obtain ⟨⟨F, h1⟩, h2⟩ := h
  refine (write_in h1 h2.size hwl i hi A n c b hn hlb hb hr).mono ?_
  rintro e w' ⟨rfl, F', h3, h4, _⟩
  exact ⟨rfl, ⟨F', h3⟩, h4.below h2 h2.size fun k hk => (h1.lt k hk).1⟩
theorem St.sync (h : St w0 w d D) : Calls Try.prog 13 #[.pointer (some ⟨d, 0, none⟩)] w fun e w' => e = .returned (.int .i64 0) ∧ St w0 w' d D.sync := by
  obtain ⟨⟨F, h1⟩, h2⟩ := h
  refine (Disk.sync h1).mono ?_
  rintro e w' ⟨rfl, F', h3, h4, _⟩
  exact ⟨rfl, ⟨F', h3⟩, h4.below h2 h2.size fun k hk => (h1.lt k hk).1⟩
theorem St.fail (h : St w0 w d D) (hwl : D.waits.length ≤ 1000000) (keep torn : Int) (hk0 : 0 ≤ keep) (hk1 : keep < 18446744073709551616) (ht : -1 ≤ torn) (ht2 : torn < 9223372036854775808) :
    Calls Try.prog 11 #[.pointer (some ⟨d, 0, none⟩), .int .u64 keep, .int .i64 torn] w fun e w' => ∃ d', e = .returned (.tuple #[.pointer (some ⟨d', 0, none⟩), .int .i64 0]) ∧ St w0 w' d' (D.fail keep torn) ∧ Below w.heap.size w w' := by
  obtain ⟨⟨F, h1⟩, h2⟩ := h
  refine (fail_ok h1 hwl keep torn hk0 hk1 ht ht2).mono ?_
  rintro e w' ⟨⟨d', F', rfl, h3⟩, h4⟩
  exact ⟨d', rfl, ⟨⟨F', h3.lower h2.size⟩, h2.trans (below_weak h2.size h4)⟩, h4⟩
end
theorem St.waits {w0 w : World} {d : Nat} {D : Dk} (h : St w0 w d D) : Calls Try.prog 15 #[.pointer (some ⟨d, 0, none⟩)] w fun e w' => e = .returned (.int .i64 D.waits.length) ∧ w' = w := by
  obtain ⟨⟨F, h1⟩, _⟩ := h
  exact Go.Proofs.Ytkokdpnnmkphmaa.Disk.waits h1
theorem St.size {w0 w : World} {d : Nat} {D : Dk} (h : St w0 w d D) : Calls Try.prog 14 #[.pointer (some ⟨d, 0, none⟩)] w fun e w' => e = .returned (.int .i64 D.seen.length) ∧ w' = w := by
  obtain ⟨⟨F, h1⟩, _⟩ := h
  exact Go.Proofs.Ytkokdpnnmkphmaa.Disk.size h1
theorem St.first {w0 w : World} {d : Nat} {D : Dk} (h : St w0 w d D) (i : Nat) (hi : i < D.seen.length) (y : Int) (hy : (D.seen.getD i []).getD 0 0 = y) :
    Calls Try.prog 20 #[.pointer (some ⟨d, 0, none⟩), .int .i64 i] w fun e w' => e = .returned (.int .u8 y) ∧ Below w.heap.size w w' := by
  obtain ⟨⟨F, h1⟩, _⟩ := h
  rw [← hy]
  exact Go.Proofs.Ytkokdpnnmkphmaa.Disk.first h1 i hi
theorem St.read {w0 w : World} {d : Nat} {D : Dk} (h : St w0 w d D) (i : Nat) (hi : i < D.seen.length) :
    Calls Try.prog 10 #[.pointer (some ⟨d, 0, none⟩), .int .i64 i] w fun e w' => (∃ v, e = .returned (.tuple #[v, .int .i64 0]) ∧ OwnI .u8 w' w.heap.size 5 v (D.seen.getD i [])) ∧ Below w.heap.size w w' := by
  obtain ⟨⟨F, h1⟩, _⟩ := h
  exact read_in h1 i hi
/-- A write that may not be. -/
theorem St.bad {w0 w : World} {d : Nat} {D : Dk} (h : St w0 w d D) (hwl : D.waits.length ≤ 1000000000) (x : Int) (A : Option Addr) (n c : Nat) (b : List Int) (hn : b.length = n) (hlb : n ≤ 1000000000) (hb : Bts b) (hr : Rd .u8 w A b) (hbad : writeCode D.seen.length x b = 1) :
    Calls Try.prog 12 #[.pointer (some ⟨d, 0, none⟩), .int .i64 x, .slice A n c] w fun e w' => e = .returned (.int .i64 1) ∧ St w0 w' d D := by
  obtain ⟨⟨F, h1⟩, h2⟩ := h
  subst hn
  have h5 := Go.Proofs.Ytkokdpnnmkphmaa.Disk.write h1 h2.size hwl x A c b hlb hb hr
  rw [hbad] at h5
  refine h5.mono ?_
  rintro e w' ⟨rfl, F', h3, h4, _⟩
  exact ⟨rfl, ⟨F', h3⟩, h4.below h2 h2.size fun k hk => (h1.lt k hk).1⟩
def v1 : Dk := ((blank 2).write (0 : Nat) (pad [97])).sync
def v2 : Dk := v1.write (0 : Nat) (pad [98])
def v3 : Dk := v2.write (1 : Nat) (pad [99])

set_option maxHeartbeats 1000000 in
set_option maxRecDepth 100000 in
theorem alive_any (w : World) : Calls Try.prog 16 #[] w fun e w' => e = .returned (.bool true) ∧ Below w.heap.size w w' := by
  have kc := fun (w : World) (C : Array Value) (n c : Nat) => Lib.run_convert_bytes_const (P := Try.prog) w 22 5 C n c Try.underlying22 Try.underlying5
  go_enter Try.func16, Try.ntmps16
  go_wp2_with fail
  refine (St.made (w0 := w) 2 (by decide) (Below.refl _ _)).mono ?_
  rintro e w1 ⟨d, rfl, s1⟩
  have S1 := Lib.hid s1
  clear s1
  go_wp2_with fail
  have hn := Go.Proofs.Ytkokdpnnmkphmaa.Disk.new 4097 w1
  simp only [if_neg (show ¬ ((1 : Int) ≤ 4097 ∧ (4097 : Int) ≤ 4096) by decide)] at hn
  refine hn.mono ?_
  clear hn
  rintro e w2 ⟨rfl, b2⟩
  have S2 := Lib.hid (S1.out.new b2)
  clear b2 S1
  go_wp2_with fail
  refine ((S2.out.alloc _).write (by decide) 0 (by decide) _ 1 1 [97] rfl (by decide) (bts_of rfl) (Rd.lit w2 .u8 [97] _ _ _ rfl)).mono ?_
  rintro e w3 ⟨rfl, s3⟩
  have S3 := Lib.hid s3
  clear s3 S2
  go_wp2_with fail
  refine S3.out.sync.mono ?_
  rintro e w4 ⟨rfl, s4⟩
  have S4 := Lib.hid (show St w w4 d v1 from s4)
  clear s4 S3
  go_wp2_with fail
  refine ((S4.out.alloc _).write (by decide) 0 (by decide) _ 1 1 [98] rfl (by decide) (bts_of rfl) (Rd.lit w4 .u8 [98] _ _ _ rfl)).mono ?_
  rintro e w5 ⟨rfl, s5⟩
  have S5 := Lib.hid (show St w w5 d v2 from s5)
  clear s5 S4
  go_wp2_with fail
  refine ((S5.out.alloc _).write (by decide) 1 (by decide) _ 1 1 [99] rfl (by decide) (bts_of rfl) (Rd.lit w5 .u8 [99] _ _ _ rfl)).mono ?_
  rintro e w6 ⟨rfl, s6⟩
  have S6 := Lib.hid (show St w w6 d v3 from s6)
  clear s6 S5
  go_wp2_with fail
  refine S6.out.waits.mono ?_
  rintro e w7 ⟨rfl, h⟩
  subst h
  go_wp2_with fail
  refine (S6.out.first 0 (by decide) 98 (by decide +kernel)).mono ?_
  rintro e w8 ⟨rfl, b8⟩
  have S8 := Lib.hid (S6.out.new b8)
  clear b8 S6
  go_wp2_with fail
  refine (S8.out.bad (by decide) 2 none 0 0 [] rfl (by decide) (bts_of rfl) Rd.nil (by decide +kernel)).mono ?_
  rintro e w9 ⟨rfl, s9⟩
  have S9 := Lib.hid s9
  clear s9 S8
  have hmk := mk 65 65 (by decide) (by decide)
  go_wp2_with fail
  have o9 := made_own 65 w9.heap.size w9 (Nat.le_refl _) (by decide)
  refine ((S9.out.alloc _).bad (by decide) 0 (some ⟨w9.heap.size, 0, none⟩) 65 65 (List.replicate 65 0) (by decide) (by decide) (Bts.zeros _) (by obtain ⟨A', c', e, -, -, hr, -⟩ := OwnI.slice (l := List.replicate 65 0) o9; injection e with e1; rw [e1]; exact hr) (by decide +kernel)).mono ?_
  rintro e w10 ⟨rfl, s10⟩
  have S10 := Lib.hid s10
  clear s10 S9 o9 hmk kc
  go_wp2_with fail
  refine (S10.out.fail (by decide) 2 (-1) (by decide) (by decide) (by decide) (by decide)).mono ?_
  rintro e w11 ⟨da, rfl, sa, b11⟩
  have SA := Lib.hid (And.intro sa (S10.out.new b11))
  clear sa b11 S10
  go_wp2_with fail
  refine (SA.out.2.fail (by decide) 3 0 (by decide) (by decide) (by decide) (by decide)).mono ?_
  rintro e w12 ⟨db, rfl, sb, b12⟩
  have SB := Lib.hid (And.intro (SA.out.1.new b12) (And.intro sb (SA.out.2.new b12)))
  clear sb b12 SA
  go_wp2_with fail
  refine (SB.out.2.2.fail (by decide) 0 0 (by decide) (by decide) (by decide) (by decide)).mono ?_
  rintro e w13 ⟨dc, rfl, sc, b13⟩
  have SC := Lib.hid (And.intro (SB.out.1.new b13) (And.intro (SB.out.2.1.new b13) (And.intro sc (SB.out.2.2.new b13))))
  clear sc b13 SB
  go_wp2_with fail
  obtain ⟨⟨F14, hF14⟩, -⟩ := SC.out.2.2.2
  refine (fail_arg hF14 0 (-2) (by decide)).mono ?_
  rintro e w14 ⟨rfl, h⟩
  subst h
  clear hF14
  go_wp2_with fail
  refine (SC.out.1.first 0 (by decide +kernel) 97 (by decide +kernel)).mono ?_
  rintro e x1 ⟨rfl, b⟩
  have S1 := Lib.hid (And.intro (SC.out.1.new b) (And.intro (SC.out.2.1.new b) (And.intro (SC.out.2.2.1.new b) (SC.out.2.2.2.new b))))
  clear b SC
  go_wp2_with fail
  refine (S1.out.1.first 1 (by decide +kernel) 99 (by decide +kernel)).mono ?_
  rintro e x2 ⟨rfl, b⟩
  have S2 := Lib.hid (And.intro (S1.out.1.new b) (And.intro (S1.out.2.1.new b) (And.intro (S1.out.2.2.1.new b) (S1.out.2.2.2.new b))))
  clear b S1
  go_wp2_with fail
  refine (S2.out.2.1.first 0 (by decide +kernel) 98 (by decide +kernel)).mono ?_
  rintro e x3 ⟨rfl, b⟩
  have S3 := Lib.hid (And.intro (S2.out.1.new b) (And.intro (S2.out.2.1.new b) (And.intro (S2.out.2.2.1.new b) (S2.out.2.2.2.new b))))
  clear b S2
  go_wp2_with fail
  refine (S3.out.2.1.first 1 (by decide +kernel) 99 (by decide +kernel)).mono ?_
  rintro e x4 ⟨rfl, b⟩
  have S4 := Lib.hid (And.intro (S3.out.1.new b) (And.intro (S3.out.2.1.new b) (And.intro (S3.out.2.2.1.new b) (S3.out.2.2.2.new b))))
  clear b S3
  go_wp2_with fail
  refine (S4.out.2.2.1.first 0 (by decide +kernel) 97 (by decide +kernel)).mono ?_
  rintro e x5 ⟨rfl, b⟩
  have S5 := Lib.hid (And.intro (S4.out.1.new b) (And.intro (S4.out.2.1.new b) (And.intro (S4.out.2.2.1.new b) (S4.out.2.2.2.new b))))
  clear b S4
  go_wp2_with fail
  refine (S5.out.2.2.1.first 1 (by decide +kernel) 0 (by decide +kernel)).mono ?_
  rintro e x6 ⟨rfl, b⟩
  have S6 := Lib.hid (And.intro (S5.out.1.new b) (And.intro (S5.out.2.1.new b) (And.intro (S5.out.2.2.1.new b) (S5.out.2.2.2.new b))))
  clear b S5
  go_wp2_with fail
  refine S6.out.2.2.2.waits.mono ?_
  rintro e x7 ⟨rfl, h⟩
  subst h
  go_wp2_with fail
  refine S6.out.1.waits.mono ?_
  rintro e x8 ⟨rfl, h⟩
  subst h
  go_wp2
  go_ret
  exact ⟨rfl, S6.out.1.2⟩
end Go.Proofs.Ytkokdpnnmkphmaa.Disk
