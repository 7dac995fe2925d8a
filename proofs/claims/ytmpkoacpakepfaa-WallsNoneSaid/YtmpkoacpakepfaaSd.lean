/- Disks among the things in memory. -/
import Derived.Test.YtmpkoacpakepfaaSm
import Derived.Test.YtmpkoacpakepfaaDiskMore
namespace Go.Proofs.Ytmpkoacpakepfaa.Sx
open Go Go.RowKit Base Own Disk

def diskA (d : Nat) (D : Dk) : Asn where
  holds := fun w B F => Disk w B d F D
  keep := fun h hc hF _ => h.kept hc hF
  dom := fun h => h.lt
def _root_.Go.Proofs.Ytmpkoacpakepfaa.Disk.Dk.writeR (D : Dk) (x : Int) (b : List Int) : Dk := if writeCode D.seen.length x b = 0 then D.write x (pad b) else D
section
variable {w w0 : World} {d : Nat} {D : Dk} {R : List Asn}
theorem disk_size (S : Sat w0 w (diskA d D :: R)) : Calls Try.prog 28 #[.pointer (some ⟨d, 0, none⟩)] w fun e w' => e = .returned (.int .i64 D.seen.length) ∧ w' = w := by
  obtain ⟨F, h⟩ := S.hd
  exact Disk.size h
theorem disk_seen (S : Sat w0 w (diskA d D :: R)) : D.ok := by
  obtain ⟨F, h⟩ := S.hd
  exact Disk.Disk.ok h
theorem vok_small {n : Nat} (h : n ≤ 4096) : vok (.int .i64 (n : Int)) = true := vok_len (Nat.le_trans h (by decide))
theorem disk_waits (S : Sat w0 w (diskA d D :: R)) : Calls Try.prog 21 #[.pointer (some ⟨d, 0, none⟩)] w fun e w' => e = .returned (.int .i64 D.waits.length) ∧ vok (.int .i64 (D.waits.length : Int)) = true ∧ w' = w := by
  obtain ⟨F, h⟩ := S.hd
  refine (Disk.waits h).mono fun e w' ⟨h1, h2⟩ => ⟨h1, ?_, h2⟩
  obtain ⟨s, E, W, h3, _⟩ := h
  obtain ⟨A, c, e, h4, h5, -, -⟩ := h3.waits.slice
  exact vok_len (Nat.le_trans h4 h5)
theorem disk_write (S : Sat w0 w (diskA d D :: R)) (x : Int) {A : Option Addr} {c : Nat} {b : List Int} (hb : Rk .u8 w A b) (hl : D.waits.length ≤ 1000000000 ∧ b.length ≤ 1000000000) :
    Calls Try.prog 22 #[.pointer (some ⟨d, 0, none⟩), .int .i64 x, .slice A b.length c] w fun e w' => e = .returned (.int .i64 (writeCode D.seen.length x b)) ∧ vok (.int .i64 (writeCode D.seen.length x b)) = true ∧ Sat w0 w' (diskA d (D.writeR x b) :: R) := by
  obtain ⟨F, h, hF, hk⟩ := S.opened
  refine (Disk.write h S.below.size hl.1 x A c b hl.2 hb.bytes hb.rd).mono ?_
  rintro e w' ⟨rfl, F', h1, h2, h3⟩
  refine ⟨rfl, ?_, hk (A' := diskA d (D.writeR x b)) h1 h2 (fun k _ h => h) h3⟩
  unfold writeCode; split <;> rfl
theorem disk_sync (S : Sat w0 w (diskA d D :: R)) : Calls Try.prog 27 #[.pointer (some ⟨d, 0, none⟩)] w fun e w' => e = .returned (.int .i64 0) ∧ Sat w0 w' (diskA d D.sync :: R) := by
  obtain ⟨F, h, hF, hk⟩ := S.opened
  refine (Disk.sync h).mono ?_
  rintro e w' ⟨rfl, F', h1, h2, h3⟩
  exact ⟨rfl, hk (A' := diskA d D.sync) h1 h2 (fun k _ h => h) fun k h => .inl (h3 k h)⟩
theorem disk_new (S : Sat w0 w R) {x : Int} (hx : 1 ≤ x ∧ x ≤ 4096) : Calls Try.prog 17 #[.int .i64 x] w fun e w' => ∃ d, e = .returned (.tuple #[.pointer (some ⟨d, 0, none⟩), .int .i64 0]) ∧ Sat w0 w' (diskA d (Disk.blank x.toNat) :: R) := by
  have h := Disk.new x w
  simp only [if_pos hx] at h
  refine h.mono ?_
  rintro e w' ⟨⟨d, F, rfl, h1⟩, h2⟩
  exact ⟨d, rfl, S.add (F := F) h2 (Disk.Disk.lower h1 S.below.size) fun k hk => (Disk.Disk.lt h1 k hk).1⟩
theorem disk_new_no (S : Sat w0 w R) {x : Int} (hx : ¬ (1 ≤ x ∧ x ≤ 4096)) : Calls Try.prog 17 #[.int .i64 x] w fun e w' => e = .returned (.tuple #[.pointer none, .int .i64 1]) ∧ Sat w0 w' R := by
  have h := Disk.new x w
  simp only [if_neg hx] at h
  refine h.mono ?_
  rintro e w' ⟨rfl, h2⟩
  exact ⟨rfl, S.new h2⟩
theorem disk_fail (S : Sat w0 w (diskA d D :: R)) {keep torn : Int} (hk : (Lit.int .u64 keep).wf = true) (ht : (Lit.int .i64 torn).wf = true) (hl : D.waits.length ≤ 1000000 ∧ -1 ≤ torn) :
    Calls Try.prog 18 #[.pointer (some ⟨d, 0, none⟩), .int .u64 keep, .int .i64 torn] w fun e w' => ∃ d', e = .returned (.tuple #[.pointer (some ⟨d', 0, none⟩), .int .i64 0]) ∧ Sat w0 w' (diskA d' (D.fail keep torn) :: diskA d D :: R) := by
  obtain ⟨F, h⟩ := S.hd
  rw [wf_int] at hk ht
  have h1 : IntKind.u64.min = 0 := by decide
  have h2 : IntKind.u64.max = 18446744073709551615 := by decide
  have h3 : IntKind.i64.max = 9223372036854775807 := by decide
  refine (fail_ok h hl.1 keep torn (by omega) (by omega) hl.2 (by omega)).mono ?_
  rintro e w' ⟨⟨d', F', rfl, h4⟩, h5⟩
  exact ⟨d', rfl, S.add (F := F') h5 (Disk.Disk.lower h4 S.below.size) fun k hk => (Disk.Disk.lt h4 k hk).1⟩
theorem disk_fail_no (S : Sat w0 w (diskA d D :: R)) {keep torn : Int} (ht : torn < -1) :
    Calls Try.prog 18 #[.pointer (some ⟨d, 0, none⟩), .int .u64 keep, .int .i64 torn] w fun e w' => e = .returned (.tuple #[.pointer none, .int .i64 1]) ∧ w' = w := by
  obtain ⟨F, h⟩ := S.hd
  exact fail_arg h keep torn ht
theorem bts_wf {l : List Int} (h : ∀ z ∈ l, 0 ≤ z ∧ z < 256) : ∀ z ∈ l, (Lit.int .u8 z).wf = true := fun z hz => by
  have := h z hz
  rw [wf_int]
  have h1 : IntKind.u8.min = 0 := by decide
  have h2 : IntKind.u8.max = 255 := by decide
  omega
theorem disk_read (S : Sat w0 w (diskA d D :: R)) {x : Int} (hx : 0 ≤ x ∧ x < D.seen.length) :
    Calls Try.prog 23 #[.pointer (some ⟨d, 0, none⟩), .int .i64 x] w fun e w' => ∃ A c, e = .returned (.tuple #[.slice A (D.seen.getD x.toNat []).length c, .int .i64 0]) ∧ vok (.tuple #[.slice A (D.seen.getD x.toNat []).length c, .int .i64 0]) = true ∧ Sat w0 w' (ownA .u8 5 A c (D.seen.getD x.toNat []) :: diskA d D :: R) := by
  obtain ⟨F, h⟩ := S.hd
  have hok := disk_seen S
  obtain ⟨i, rfl⟩ : ∃ i : Nat, x = i := ⟨x.toNat, by omega⟩
  have hi : i < D.seen.length := by omega
  refine (read_in h i hi).mono ?_
  rintro e w' ⟨⟨v, rfl, h1⟩, h2⟩
  have hp := seen_pc hok hi
  obtain ⟨A, c, rfl, h3, h4⟩ := S.row (l := D.seen.getD i []) h2 h1 (bts_wf hp.2)
  exact ⟨A, c, rfl, by
    have h5 : vokC (.slice A (D.seen.getD (i : Int).toNat []).length c) = true := h3
    show [_, _].all vokC = true
    rw [List.all_cons, h5]; rfl, h4⟩
end
end Go.Proofs.Ytmpkoacpakepfaa.Sx
