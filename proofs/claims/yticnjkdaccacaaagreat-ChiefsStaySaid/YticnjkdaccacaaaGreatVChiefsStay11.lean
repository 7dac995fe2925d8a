/- Texts of this work, one behind the other. -/
import Derived.Test.YticnjkdaccacaaaGreatVChiefsStay10
import Derived.Lib.SliceRun
import Derived.Laws.BytesArg
import Derived.IntWalk
import Derived.Lib.AppendZerosOnto
set_option maxRecDepth 100000
set_option maxHeartbeats 16000000
section
namespace Go.Proofs.YticnjkdaccacaaaGreat.Same
open Go.RowKit Base Oq Sums
theorem take_next {a b : List Int} {k : Nat} (hl : a.length = b.length) (hk : k < a.length) (h : a.take k = b.take k) (he : a.getD k 0 = b.getD k 0) : a.take (k + 1) = b.take (k + 1) := by
 rw [List.take_succ_eq_append_getElem hk, List.take_succ_eq_append_getElem (by omega), h]
 rw [List.getD_eq_getElem?_getD, List.getD_eq_getElem?_getD, List.getElem?_eq_getElem hk, List.getElem?_eq_getElem (by omega)] at he
 simp only [Option.getD_some] at he
 rw [he]
theorem ne_of_cell {a b : List Int} {k : Nat} (he : ¬ a.getD k 0 = b.getD k 0) : decide (a = b) = false := by
 rw [decide_eq_false_iff_not]
 rintro rfl
 exact he rfl
theorem conv_str (P : Program) (w : World) (src e : TypeId) (hs : P.underlying src = some (.slice e)) (he : P.underlying e = some (.int .u8)) (A : Option Addr) (n c : Nat) (l : List Int) (hn : l.length = n) (h : Rd .u8 w A l) (dst : TypeId) (hd : P.underlying dst = some .string) :
  (convert src dst (.slice A n c)).run P w = .ok (.string (strOfNums l)) w := by
 cases A with
 | none =>
  obtain rfl := h.empty rfl
  exact run_convert_bytes_nil w src e hs he n c dst hd
 | some ad =>
  have hl : (loadCells ad n).run P w = .ok (l.map (Value.int .u8)).toArray w := by
   have := run_loadCells_list (P := P) w ad (l.map (Value.int .u8)) (fun j v hj => by
    have hjl : j < l.length := by
     rcases Nat.lt_or_ge j l.length with h | h
     ·exact h
     ·simp [List.getElem?_eq_none (show (l.map (Value.int .u8)).length ≤ j by simpa using h)] at hj
    obtain ⟨ad', e', _, hc⟩ := h.cell hjl
    cases e'
    rw [hc]
    simp [List.getElem?_eq_getElem hjl] at hj
    subst hj
    simp [List.getD, List.getElem?_eq_getElem hjl])
   simpa [hn] using this
  rw [run_convert_bytes_string w src dst e _ n c hs he hd, run_bytesToString w _ n c l hl, foldl_push_bytes]
  simp [strOfNums, ByteArray.empty, ByteArray.emptyWithCapacity]
  rfl
theorem str_inj : ∀ (l m : List Int), Bts l → Bts m → strOfNums l = strOfNums m → l = m := by
 intro l m hl hm h
 have h1 := congrArg (fun s : ByteArray => s.data.toList) h
 simp only [strOfNums_data] at h1
 clear h
 induction l generalizing m with
 | nil => cases m with
  | nil => rfl
  | cons y m => simp at h1
 | cons x l ih => cases m with
  | nil => simp at h1
  | cons y m =>
   simp only [List.map_cons, List.cons.injEq] at h1
   have hx := hl x (List.mem_cons_self)
   have hy := hm y (List.mem_cons_self)
   have h2 := congrArg UInt8.toNat h1.1
   rw [UInt8.toNat_ofNat', UInt8.toNat_ofNat'] at h2
   rw [ih m (fun z hz => hl z (List.mem_cons_of_mem _ hz)) (fun z hz => hm z (List.mem_cons_of_mem _ hz)) h1.2]
   congr 1
   omega
theorem equal (A B : Option Addr) (ca cb : Nat) (a b : List Int) (w : World) (hla : a.length ≤ 1000000000) (hlb : b.length ≤ 1000000000) (ha : Rd .u8 w A a) (hb : Rd .u8 w B b) :
  Calls Tryz.prog 118 #[.slice A a.length ca, .slice B b.length cb] w fun e w' => e = .returned (.bool (decide (a = b))) ∧ Below w.heap.size w w' := by
 have HA := Lib.hid ha
 have HB := Lib.hid hb
 clear ha hb
 by_cases hlen : a.length = b.length
 ·have hz : ((a.length : Int) == b.length) = true := by rw [beq_iff_eq]; omega
  have HL := Lib.hid hlen
  obtain ⟨n, hn⟩ : ∃ n, n = a.length := ⟨_, rfl⟩
  have HN := Lib.hid hn
  rw [← hlen, ← hn]
  rw [← hn] at hla
  clear hlen hlb hz hn
  go_enter Tryz.func118, Tryz.ntmps118
  go_wp2
  go_loopw [13] (fun i wr => ∃ k : Nat, k ≤ n ∧ i = .int .i64 k ∧ Hid (a.take k = b.take k) ∧ Hid (Below w.heap.size w wr)) (fun i _ => n - (intOf i).toNat)
  case atStart => exact ⟨0, by omega, rfl, by simp [Hid], Below.refl _ _⟩
  case round =>
   obtain ⟨k, hk, rfl, hat, hbd⟩ := hrel
   by_cases hlt : k < n
   ·obtain ⟨x, rfl, hxb, hxc⟩ := (HA.out.below hbd.out).cell (j := k) (by rw [← HN.out]; exact hlt)
    obtain ⟨y, rfl, hyb, hyc⟩ := (HB.out.below hbd.out).cell (j := k) (by rw [← HL.out, ← HN.out]; exact hlt)
    by_cases he : a.getD k 0 = b.getD k 0
    ·have HE := Lib.hid he
     rw [← he] at hyc
     clear he
     obtain ⟨z, hz⟩ : ∃ z, z = a.getD k 0 := ⟨_, rfl⟩
     rw [← hz] at hxc hyc
     clear hz
     go_wp2
     refine wp_region_sl [u_ 0 16, u_ 1 17, u_ 2 18, u_ 3 19, u_ 4 20, u_ 5 21, u_ 6 22, u_ 7 23, u_ 8 24]
        [m_ 16 0 92,
        m_ 17 5 3,
        i_ 18 92 16 17,
        l_ 19 5 18,
        m_ 20 1 92,
        m_ 21 5 3,
        i_ 22 92 20 21,
        l_ 23 5 22,
        .one ⟨true, some 24, (.binOp .neq 5 (.tmp 19) (.tmp 23) 5), 4, none⟩]
        (fun w' => w'.cell? (x.add k) = some (.int .u8 z) ∧ w'.cell? (y.add k) = some (.int .u8 z)) rfl (by kernel_rfl) (by kernel_rfl) ?_ ?_
     ·exact ⟨hxc, hyc⟩
     (repeat (first | ((first | ((with_reducible refine sq (v := ?_) (a' := ?_) ?_ ?_ ?_); rotate_left 2; (focus (intro w' hS; go_simp; (first | done | with_reducible rfl | rfl)))) | ((with_reducible refine sn (a' := ?_) ?_ ?_ ?_); rotate_left; (focus rfl)) | ((with_reducible refine sf trivial (a' := ?_) ?_ ?_ ?_); rotate_left; (focus rfl)) | ((with_reducible refine sqg (v := ?_) (a' := ?_) ?_ ?_ ?_ ?_); rotate_left 2; (focus rfl); (focus (intro w' hS; go_simp; (first | done | with_reducible rfl | rfl))))); (simp only [Act.put, List.setIfInBounds_toArray, List.set_cons_zero, List.set_cons_succ]; rfl)) | go_bits))
     refine sl_end ?_
     go_wp2
     go_roundw
     case rel => exact ⟨k + 1, by omega, rfl, take_next HL.out (by rw [← HN.out]; exact hlt) hat.out HE.out, hbd.out.drew⟩
     case measure => simp [intOf]; omega
    ·have HE := Lib.hid he
     obtain ⟨z, hz⟩ : ∃ z, z = a.getD k 0 := ⟨_, rfl⟩
     obtain ⟨z2, hz2⟩ : ∃ z, z = b.getD k 0 := ⟨_, rfl⟩
     rw [← hz, ← hz2] at he
     rw [← hz] at hxc
     rw [← hz2] at hyc
     clear hz hz2
     have hne : (z == z2) = false := by rw [beq_eq_false_iff_ne]; exact he
     clear he
     go_wp2
     refine wp_region_sl [u_ 0 16, u_ 1 17, u_ 2 18, u_ 3 19, u_ 4 20, u_ 5 21, u_ 6 22, u_ 7 23, u_ 8 24]
        [m_ 16 0 92,
        m_ 17 5 3,
        i_ 18 92 16 17,
        l_ 19 5 18,
        m_ 20 1 92,
        m_ 21 5 3,
        i_ 22 92 20 21,
        l_ 23 5 22,
        .one ⟨true, some 24, (.binOp .neq 5 (.tmp 19) (.tmp 23) 5), 4, none⟩]
        (fun w' => w'.cell? (x.add k) = some (.int .u8 z) ∧ w'.cell? (y.add k) = some (.int .u8 z2)) rfl (by kernel_rfl) (by kernel_rfl) ?_ ?_
     ·exact ⟨hxc, hyc⟩
     (repeat (first | ((first | ((with_reducible refine sq (v := ?_) (a' := ?_) ?_ ?_ ?_); rotate_left 2; (focus (intro w' hS; go_simp; (first | done | with_reducible rfl | rfl)))) | ((with_reducible refine sn (a' := ?_) ?_ ?_ ?_); rotate_left; (focus rfl)) | ((with_reducible refine sf trivial (a' := ?_) ?_ ?_ ?_); rotate_left; (focus rfl)) | ((with_reducible refine sqg (v := ?_) (a' := ?_) ?_ ?_ ?_ ?_); rotate_left 2; (focus rfl); (focus (intro w' hS; go_simp; (first | done | with_reducible rfl | rfl))))); (simp only [Act.put, List.setIfInBounds_toArray, List.set_cons_zero, List.set_cons_succ]; rfl)) | go_bits))
     refine sl_end ?_
     go_wp2
     go_ret
     exact ⟨by rw [ne_of_cell HE.out]; rfl, hbd.out.drew⟩
   ·obtain rfl : k = n := by omega
    go_wp2
    go_ret
    have e : a = b := by
     have h := hat.out
     rw [HN.out, List.take_length, HL.out, List.take_length] at h
     exact h
    exact ⟨by rw [decide_eq_true e]; rfl, hbd.out⟩
 ·have hz : ((a.length : Int) == b.length) = false := by rw [beq_eq_false_iff_ne]; omega
  have e : decide (a = b) = false := by rw [decide_eq_false_iff_not]; rintro rfl; exact hlen rfl
  rw [e]
  go_enter Tryz.func118, Tryz.ntmps118
  go_wp2
  go_ret
  exact ⟨rfl, Below.refl _ _⟩
theorem equal_m (A B : Option Addr) (n m ca cb : Nat) (a b : List Int) (w : World) (hn : a.length = n) (hm : b.length = m) (hla : n ≤ 1000000000) (hlb : m ≤ 1000000000) (ha : Rd .u8 w A a) (hb : Rd .u8 w B b) :
  Calls Tryz.prog 118 #[.slice A n ca, .slice B m cb] w fun e w' => e = .returned (.bool (decide (a = b))) ∧ Below w.heap.size w w' := by
 subst hn hm
 exact equal A B ca cb a b w hla hlb ha hb
theorem clone (A : Option Addr) (n c : Nat) (l : List Int) (w : World) (hn : l.length = n) (hl : n ≤ 1000000000) (hA : A ≠ none ∨ n = 0 ∧ c = 0) (hr : Rd .u8 w A l) :
  Calls Tryz.prog 98 #[.slice A n c] w fun e w' => ∃ v, e = .returned v ∧ OwnI .u8 w' w.heap.size 5 v l ∧ Below w.heap.size w w' := by
 have hq : ∀ (W : World) (a : Option Addr) (n c n' c' : Nat), (binOp .eql 92 (.slice a n c) (.slice none n' c')).run Tryz.prog W = .ok (.bool a.isNone) W := fun W a n c n' c' => Lib.run_eql_slice_nil W _ _ a n c n' c' Tryz.underlying92
 cases A with
 | none =>
  obtain rfl := hr.empty rfl
  obtain ⟨rfl, rfl⟩ : n = 0 ∧ c = 0 := hA.elim (fun h => absurd rfl h) id
  go_enter Tryz.func98, Tryz.ntmps98
  go_wp2
  go_ret
  exact ⟨_, rfl, OwnI.nil _ _ _ _, Below.refl _ _⟩
 | some ad =>
  have HR := Lib.hid hr
  clear hr
  go_enter Tryz.func98, Tryz.ntmps98
  have H0 := Lib.hid (show Below w.heap.size w (w.alloc (.cells #[] 5)) ∧ OwnI .u8 (w.alloc (.cells #[] 5)) w.heap.size 5 (.slice (some ⟨w.heap.size, 0, none⟩) 0 0) [] from
   ⟨(Below.refl _ _).alloc (Nat.le_refl _) _, OwnI.made w .u8 [] 5 #[] rfl (Nat.le_refl _) (Nat.zero_le _)⟩)
  go_wp2_with (at_builtin; refine ap_list rfl Sums.tyB H0.out.1 H0.out.2 (HR.out.below H0.out.1) (fun e => by cases e) (by simp; omega) (.tmp 5) (.tmp 6) n c rfl rfl rfl hn ?_; intro v2 w2 own2 bd2 _ _; have H2 := Lib.hid (And.intro own2 bd2); clear own2 bd2)
  go_ret
  refine ⟨_, rfl, ?_, H2.out.2⟩
  have h := H2.out.1
  rwa [List.nil_append] at h
end Go.Proofs.YticnjkdaccacaaaGreat.Same
end
section
namespace Go.Proofs.YticnjkdaccacaaaGreat.Frames
open Go.RowKit Crc Sums Base Oq
def val (b : List Int) : Nat → Int
 | 0 => 0
 | k + 1 => val b k * 256 + b.getD k 0
theorem val_range {b : List Int} (hb : Bts b) : ∀ k, k ≤ b.length → 0 ≤ val b k ∧ val b k < 256 ^ k := by
 intro k
 induction k with
 | zero => intro _; exact ⟨Int.le_refl _, by unfold val; decide⟩
 | succ k ih =>
  intro hk
  have h1 := ih (by omega)
  have h2 := hb.getD (j := k) (by omega)
  unfold val
  rw [Int.pow_succ]
  omega
def get (b : List Int) : Option (List Int × Nat) :=
 if b.length < 8 then none else
 if 16384 < val b 4 then none else
 if b.length < nsec (val b 4).toNat * 64 then none else
 if put ((b.drop 8).take (val b 4).toNat) = b.take (nsec (val b 4).toNat * 64) then some ((b.drop 8).take (val b 4).toNat, nsec (val b 4).toNat) else none
def Got (w' : World) (B : Nat) (e : Ending) : Option (List Int × Nat) → Prop
 | none => e = .returned (.tuple #[.slice none 0 0, .int .i64 0, .int .i64 4])
 | some (r, k) => ∃ v, e = .returned (.tuple #[v, .int .i64 k, .int .i64 0]) ∧ OwnI .u8 w' B 5 v r
theorem or_low (n y : Int) (h0 : 0 ≤ n) (h1 : n < 16777216) (h2 : 0 ≤ y) (h3 : y < 256) : bits .or .u32 (n * 256) y = n * 256 + y := by
 have e1 : ∀ x : Int, 0 ≤ x → x < 4294967296 → (BitVec.ofInt 32 x).toNat = x.toNat := fun x a b => by rw [BitVec.toNat_ofInt]; simp; omega
 have h5 := Nat.shiftLeft_add_eq_or_of_lt (show y.toNat < 2 ^ 8 by omega) n.toNat
 unfold bits; show IntKind.u32.wrap ((BitVec.ofInt 32 (n * 256) ||| BitVec.ofInt 32 y).toNat : Int) = _
 rw [BitVec.toNat_or, e1 _ (by omega) (by omega), e1 _ (by omega) (by omega), show (n * 256).toNat = n.toNat <<< 8 by rw [Nat.shiftLeft_eq]; omega, ← h5, IntKind.wrap_u32', Nat.shiftLeft_eq]
 omega
theorem get_any (A : Option Addr) (c : Nat) (b : List Int) (w : World) (hl : b.length ≤ 100000000) (hb : Bts b) (hr : Rd .u8 w A b) (hc : b.length ≤ c) :
  Calls Tryz.prog 100 #[.slice A b.length c] w fun e w' => Got w' w.heap.size e (get b) ∧ Below w.heap.size w w' := by
 by_cases h8 : b.length < 8
 ·have : get b = none := by unfold get; rw [if_pos h8]
  rw [this]
  go_enter Tryz.func100, Tryz.ntmps100
  go_wp2
  go_ret3
  exact ⟨rfl, Below.refl _ _⟩
 ·have HR := Lib.hid hr
  have HB := Lib.hid hb
  clear hr hb
  have h4 : (4 : Int) ≤ c := by omega
  have h4' : 4 ≤ c := by omega
  go_enter Tryz.func100, Tryz.ntmps100
  go_wp2
  go_loopw [5, 17] (fun n i wr => ∃ (k : Nat) (N : Int), k ≤ 4 ∧ i = .int .i64 k ∧ n = .int .u32 N ∧ Hid (N = val b k) ∧ Hid (Below w.heap.size w wr)) (fun _ i _ => 4 - (intOf i).toNat)
  case atStart => exact ⟨0, 0, by omega, rfl, rfl, rfl, Below.refl _ _⟩
  case round =>
   obtain ⟨k, N, hk, rfl, rfl, hN, hbd⟩ := hrel
   by_cases hlt : k < 4
   ·obtain ⟨x, rfl, hxb, hxc⟩ := (HR.out.below hbd.out).cell (j := k) (by omega)
    have hv := val_range HB.out k (by omega)
    have hy := HB.out.getD (j := k) (by omega)
    have hN1 : 0 ≤ N ∧ N < 16777216 := by
     rw [hN.out]
     have : (256 : Int) ^ k ≤ 16777216 := by
      rcases (show k = 0 ∨ k = 1 ∨ k = 2 ∨ k = 3 by omega) with rfl | rfl | rfl | rfl <;> decide
     omega
    clear hv
    obtain ⟨y, hye⟩ : ∃ y, y = b.getD k 0 := ⟨_, rfl⟩
    rw [← hye] at hxc hy
    have HY := Lib.hid hye
    clear hye
    go_wp2
    go_roundw
    case rel =>
     refine ⟨k + 1, N * 256 + y, by omega, rfl, by rw [or_low N y hN1.1 hN1.2 hy.1 hy.2], ?_, hbd⟩
     show _ = val b k * 256 + b.getD k 0
     rw [hN.out, HY.out]
    case measure => simp [intOf]; omega
   ·obtain rfl : k = 4 := by omega
    have hNr : 0 ≤ N := by rw [hN.out]; exact (val_range HB.out 4 (by omega)).1
    by_cases hbig : 16384 < N
    ·have : get b = none := by unfold get; rw [if_neg h8, if_pos (by rw [← hN.out]; exact hbig)]
     have HG := Lib.hid this
     clear this
     go_wp2
     go_ret3
     exact ⟨by rw [HG.out]; rfl, hbd.out⟩
    ·obtain ⟨n, rfl⟩ : ∃ n : Nat, N = n := ⟨N.toNat, by omega⟩
     have hn : n ≤ 16384 := by omega
     have hval : (val b 4).toNat = n := by rw [← hN.out]; simp
     have hval2 : ¬ 16384 < val b 4 := by rw [← hN.out]; exact hbig
     have HVA := Lib.hid (And.intro hval hval2)
     clear hval hval2 hN hNr
     go_wp2_with fail
     refine (sectors n (by omega) _).mono ?_
     rintro e w1 ⟨rfl, h⟩
     subst h
     have hSb : nsec n ≤ 258 ∧ n + 8 ≤ nsec n * 64 := by unfold nsec; omega
     by_cases hlen : b.length < nsec n * 64
     ·have : get b = none := by unfold get; rw [if_neg h8, if_neg (Int.not_lt.2 HVA.out.2), HVA.out.1, if_pos hlen]
      have HG := Lib.hid this
      clear this HVA
      obtain ⟨S, hS⟩ : ∃ S, S = nsec n := ⟨_, rfl⟩
      rw [← hS] at hlen hSb ⊢
      have hS2 : (S : Int) ≤ 258 := by omega
      have hlt : (b.length : Int) < S * 64 := by omega
      clear hS hSb
      go_wp2
      go_ret3
      exact ⟨by rw [HG.out]; rfl, hbd.out⟩
     ·obtain ⟨S, hS⟩ : ∃ S, S = nsec n := ⟨_, rfl⟩
      have HS := Lib.hid hS
      rw [← hS] at hlen hSb ⊢
      clear hS
      have hS2 : (S : Int) ≤ 258 := by omega
      have hlt : ¬ (b.length : Int) < S * 64 := by omega
      have hcut := sl_cut (P := Tryz.prog) 92 5 .i64 .i64 .i64 Tryz.underlying92 Sums.info1 A b.length c 8 (8 + n) (8 + n) 8 (8 + (n : Int)) (8 + (n : Int)) (by omega) (by omega) (by omega) (by omega) (by omega) (by omega)
      rw [show 8 + n - 8 = n by omega] at hcut
      go_wp2_with fail
      have hrr : Rd .u8 w1 (dropA A (8 + n) 8) ((b.drop 8).take n) := by
       have h1 := (((HR.out.below hbd.out).take (8 + n)).drop (n := 8) (c := 8 + n) (by rw [List.length_take]; omega))
       rwa [List.drop_take, show 8 + n - 8 = n by omega] at h1
      refine (Same.clone (dropA A (8 + n) 8) n n ((b.drop 8).take n) w1 (by rw [List.length_take, List.length_drop]; omega) (by omega) ?_ hrr).mono ?_
      ·left; obtain ⟨x, rfl, _⟩ := HR.out.cell (j := 0) (by omega); unfold dropA; split <;> simp
      rintro e w2 ⟨v, rfl, own2, bd2⟩
      obtain ⟨r, hrE⟩ : ∃ r, r = (b.drop 8).take n := ⟨_, rfl⟩
      have HRE := Lib.hid hrE
      rw [← hrE] at own2
      clear hrr hrE
      have hrl : r.length = n := by rw [HRE.out, List.length_take, List.length_drop]; omega
      have hrb : Bts r := by rw [HRE.out]; exact (HB.out.drop 8).take n
      have H2 := Lib.hid (And.intro own2 (And.intro bd2 (And.intro hrl hrb)))
      clear own2 bd2 hrl hrb
      go_wp2_with fail
      refine (put_own H2.out.1 (by rw [H2.out.2.2.1]; omega) H2.out.2.2.2).mono ?_
      rintro e w3 ⟨v3, rfl, own3, bd3⟩
      have hput := put_length r
      rw [H2.out.2.2.1, ← HS.out] at hput
      have HP := Lib.hid hput
      have H3 := Lib.hid (And.intro own3 (And.intro bd3 (H2.out.1.new bd3)))
      clear own3 bd3 hput hcut
      have hcut2 : ∀ W, (Instr.slice 92 (.slice A b.length c) none (some (.int .i64 ((S : Int) * 64))) none).run Tryz.prog W = .ok (.slice A (S * 64) c) W := by
       have h := sl_take (P := Tryz.prog) 92 5 .i64 Tryz.underlying92 Sums.info1 A b.length c (S * 64) (by omega)
       rwa [show ((S * 64 : Nat) : Int) = (S : Int) * 64 by omega] at h
      obtain ⟨A3, c3, hv3, _, _, hr3, _⟩ := H3.out.1.slice
      rw [HP.out] at hv3
      subst hv3
      have HR3 := Lib.hid hr3
      clear hr3
      go_wp2_with fail
      have hbd3 : Below w1.heap.size w1 w3 := H2.out.2.1.trans (below_weak H2.out.2.1.size H3.out.2.1)
      have hbd4 := hbd.out.trans (below_weak hbd.out.size hbd3)
      have HB4 := Lib.hid hbd4
      refine (Same.equal_m A3 A (S * 64) (S * 64) c3 c (put r) (b.take (S * 64)) w3 HP.out (by rw [List.length_take]; omega) (by omega) (by omega) HR3.out ((HR.out.below hbd4).take _)).mono ?_
      clear hbd3 hbd4
      rintro e w4 ⟨rfl, bd4⟩
      have HB5 := Lib.hid (HB4.out.trans (below_weak HB4.out.size bd4))
      have H5 := Lib.hid (H3.out.2.2.new bd4)
      clear bd4
      by_cases heq : put r = b.take (S * 64)
      ·have hg : get b = some (r, S) := by
        unfold get; rw [if_neg h8, if_neg (Int.not_lt.2 HVA.out.2), HVA.out.1, ← HS.out, if_neg hlen, ← HRE.out, if_pos heq]
       have HG := Lib.hid hg
       rw [decide_eq_true heq]
       clear hg heq
       go_wp2
       go_ret3
       exact ⟨by rw [HG.out]; exact ⟨_, rfl, H5.out.lower hbd.out.size⟩, HB5.out⟩
      ·have hg : get b = none := by
        unfold get; rw [if_neg h8, if_neg (Int.not_lt.2 HVA.out.2), HVA.out.1, ← HS.out, if_neg hlen, ← HRE.out, if_neg heq]
       have HG := Lib.hid hg
       rw [decide_eq_false heq]
       clear hg heq
       go_wp2
       go_ret3
       exact ⟨by rw [HG.out]; rfl, HB5.out⟩
theorem head_eq (n : Int) : head n = [n / 16777216 % 256, n / 65536 % 256, n / 256 % 256, n % 256] := by
 unfold head
 rw [byte3]
 simp [byte]
theorem nsec_ge (n : Nat) : n + 8 ≤ nsec n * 64 := by unfold nsec; omega
theorem put_eq (r : List Int) : put r = head r.length ++ (head (num (on (on 0#32 (head r.length)) r)) ++ (r ++ List.replicate (nsec r.length * 64 - 8 - r.length) 0)) := by
 have h := nsec_ge r.length
 obtain ⟨M, hM⟩ : ∃ M, nsec r.length * 64 = 8 + M := ⟨nsec r.length * 64 - 8, by omega⟩
 unfold put
 rw [hM]
 have e : List.replicate (8 + M) (0 : Int) = 0 :: 0 :: 0 :: 0 :: 0 :: 0 :: 0 :: 0 :: List.replicate M 0 := by
  rw [Nat.add_comm]; rfl
 rw [e]
 simp only [told, Nat.zero_add, List.set_cons_zero, List.set_cons_succ, splice, Nat.reduceAdd]
 have e2 : ∀ (a b c d e f g h : Int) (l : List Int) (k : Nat), (a :: b :: c :: d :: e :: f :: g :: h :: l).drop (8 + k) = l.drop k := by
  intro a b c d e f g h l k
  rw [show 8 + k = k + 8 by omega]; rfl
 rw [e2, show 8 + M - 8 - r.length = M - r.length by omega, List.drop_replicate]
 rfl
theorem val_head (n : Int) (l : List Int) (h0 : 0 ≤ n) (h1 : n < 4294967296) : val (head n ++ l) 4 = n := by
 rw [head_eq]
 simp only [val, List.cons_append, List.getD_cons_zero, List.getD_cons_succ]
 omega
theorem drop8 (m n : Int) (l : List Int) : (head m ++ (head n ++ l)).drop 8 = l := rfl
theorem put_bts {r : List Int} (hb : Bts r) : Bts (put r) := by
 rw [put_eq]
 refine (head_bts _).append ((head_bts _).append (hb.append ?_))
 intro x hx
 rw [List.eq_of_mem_replicate hx]; decide
theorem put_drop (r m : List Int) : ((put r ++ m).drop 8).take r.length = r := by
 rw [put_eq, List.append_assoc, List.append_assoc, drop8, List.append_assoc, List.take_left]
theorem put_val (r m : List Int) (hr : r.length ≤ 16384) : val (put r ++ m) 4 = r.length := by
 rw [put_eq, List.append_assoc]
 exact val_head _ _ (by omega) (by omega)
theorem get_put (r m : List Int) (hr : r.length ≤ 16384) : get (put r ++ m) = some (r, nsec r.length) := by
 have h := put_length r
 have h2 := nsec_ge r.length
 unfold get
 rw [if_neg (by rw [List.length_append]; omega), put_val r m hr, if_neg (by omega), Int.toNat_natCast, if_neg (by rw [List.length_append]; omega), put_drop, if_pos (by rw [← h, List.take_left])]
theorem get_some {b r : List Int} {k : Nat} (h : get b = some (r, k)) : k = nsec r.length ∧ r.length ≤ 16384 ∧ put r = b.take (k * 64) ∧ k * 64 ≤ b.length ∧ r = (b.drop 8).take r.length := by
 unfold get at h
 split at h
 ·cases h
 split at h
 ·cases h
 split at h
 ·cases h
 split at h
 ·rename_i h1 h2 h3 h4
  simp only [Option.some.injEq, Prod.mk.injEq] at h
  obtain ⟨hr, hk⟩ := h
  have h5 := nsec_ge (val b 4).toNat
  have h6 : r.length = (val b 4).toNat := by rw [← hr, List.length_take, List.length_drop]; omega
  rw [hr] at h4
  refine ⟨by rw [h6, hk], by omega, by rw [h4, hk], by omega, by rw [h6, hr]⟩
 ·cases h
end Go.Proofs.YticnjkdaccacaaaGreat.Frames
end
section
namespace Go.Proofs.YticnjkdaccacaaaGreat.Sx
open Go Go.RowKit Base Oq Disk
def orcL : Orc := ⟨[(3, .int .i64), (5, .int .u8), (4, .bool), (92, .slice 5), (23, .pointer 121), (73, .pointer 150), (179, .pointer 148), (28, .int .i64), (124, .slice 92), (148, .struct #[Go.Field.mk "disk" 23 0 false "" "concordat/walls" 0, Go.Field.mk "at" 3 1 false "" "concordat/walls" 8]), (150, .struct #[Go.Field.mk "place" 148 0 true "" "concordat/walls" 0])],
 [(3, 1), (5, 1), (92, 1), (23, 1), (73, 1), (124, 1), (148, 2)]⟩
theorem oL_ : orcL.Ok Tryz.prog := ⟨⟨Tryz.underlying3, Tryz.underlying5, Tryz.underlying4, Tryz.underlying92, Tryz.underlying23, Tryz.underlying73, Tryz.underlying179, Tryz.underlying28, Tryz.underlying124, Tryz.underlying148, Tryz.underlying150, trivial⟩, ⟨by kernel_rfl, by kernel_rfl, by kernel_rfl, by kernel_rfl, by kernel_rfl, by kernel_rfl, by kernel_rfl, trivial⟩⟩
theorem enThere : Enters Tryz.prog 67 := fun _ _ => by kernel_rfl
theorem enLeft : Enters Tryz.prog 69 := fun _ _ => by kernel_rfl
theorem enPut : Enters Tryz.prog 68 := fun _ _ => by kernel_rfl
theorem enGet : Enters Tryz.prog 100 := fun _ _ => by kernel_rfl
theorem enSize : Enters Tryz.prog 48 := fun _ _ => by kernel_rfl
theorem enRead : Enters Tryz.prog 82 := fun _ _ => by kernel_rfl
theorem enWrite : Enters Tryz.prog 70 := fun _ _ => by kernel_rfl
theorem enSync : Enters Tryz.prog 71 := fun _ _ => by kernel_rfl
theorem enEqual : Enters Tryz.prog 84 := fun _ _ => by kernel_rfl
theorem enFound : Enters Tryz.prog 83 := fun _ _ => by kernel_rfl
theorem enFound1 : Enters Tryz.prog 99 := fun _ _ => by kernel_rfl
theorem litB : RowTy Tryz.prog 92 5 .u8 := ⟨Tryz.underlying92, 1, by decide, by kernel_rfl⟩
theorem infoB : (Tryz.prog.info? 5).map (·.size) = some 1 := by kernel_rfl
def logA (g d : Nat) (x : Int) : Asn := stA 150 g [.pointer (some ⟨d, 0, none⟩), .int .i64 x]
section
variable {w w0 : World} {g d : Nat} {x : Int} {D : Dk} {R : List Asn}
theorem there_call (S : Sat w0 w (logA g d x :: R)) : Calls Tryz.prog 67 #[.pointer (some ⟨g, 0, none⟩)] w fun e w' => e = .returned (.bool true) ∧ w' = w := by
 refine calls_start (N := 13) [.pointer (some ⟨g, 0, none⟩)] Tryz.func67 rfl rfl rfl (vok_c rfl rfl) fun a fr => ?_
 refine r_ rfl ?_
 refine wl_run oL_ 1 rfl fr fun a fr => ?_
 refine er_ rfl rfl ?_
 refine wl_run oL_ 7 rfl fr fun a fr => ?_
 refine wl_ldf oL_ (Sat.stAt S 0 rfl (j := 0) rfl) fr rfl rfl rfl rfl rfl rfl rfl fun a fr => ?_
 refine wl_run oL_ 3 rfl fr fun a fr => ?_
 first | refine e_ ?_ | refine wpList_nil ?_
 refine wp_ret ?_
 refine ret1 fr rfl rfl ?_
 exact ⟨rfl, rfl⟩
theorem left_call (S : Sat w0 w (logA g d x :: diskA d D :: R)) (hx : 0 ≤ x ∧ x ≤ 1000000) : Calls Tryz.prog 69 #[.pointer (some ⟨g, 0, none⟩)] w fun e w' => e = .returned (.int .i64 ((D.seen.length : Int) - x)) ∧ Sat w0 w' (logA g d x :: diskA d D :: R) := by
 have hm := (disk_seen (S.frontAt 1 rfl)).most
 refine calls_start (N := 13) [.pointer (some ⟨g, 0, none⟩)] Tryz.func69 rfl rfl rfl (vok_c rfl rfl) fun a fr => ?_
 refine r_ rfl ?_
 refine wl_run oL_ 1 rfl fr fun a fr => ?_
 refine eq_ rfl rfl ?_
 refine wp_region_sl [u_ 0 3, u_ 1 4, u_ 2 5, u_ 3 6, u_ 5 8, u_ 6 9, u_ 7 10, u_ 8 11, .one (4, false, some 7), u_ 9 12, u_ 10 2]
        [m_ 3 0 179,
        c_ 4 3,
        f_ 5 148 4 0,
        l_ 6 23 5,
        m_ 8 0 179,
        c_ 9 8,
        f_ 10 148 9 1,
        l_ 11 3 10,
        .one ⟨false, some 7, (.call { callee := (.value (.func 48)), args := #[(.tmp 6)], argTypes := #[23] }), 3, none⟩,
        .one ⟨true, some 12, (.binOp .sub 3 (.tmp 7) (.tmp 11) 3), 3, none⟩,
        .one ⟨true, some 2, (.assign (.tmp 12)), 3, none⟩]
        (fun w' => Sat w0 w' (logA g d x :: diskA d D :: R)) rfl (by kernel_rfl) (by kernel_rfl) ?_ ?_
 ·exact S.drew
 have S := S.drew
 refine sl_run oL_ 3 rfl fr fun a fr => ?_
 refine sl_ldf oL_ (fun w' S => Sat.stAt S 0 rfl (j := 0) rfl) fr rfl rfl rfl rfl rfl rfl rfl rfl S fun a fr => ?_
 refine sl_run oL_ 3 rfl fr fun a fr => ?_
 refine sl_ldf oL_ (fun w' S => Sat.stAt S 0 rfl (j := 1) rfl) fr rfl rfl rfl rfl rfl rfl rfl rfl S fun a fr => ?_
 refine sl_call fr rfl rfl rfl rfl rfl enSize (disk_size (S.frontAt 1 rfl)) ?_
 rintro _ w ⟨rfl, hw⟩
 subst hw
 refine ⟨_, rfl, vok_small hm, S, fun a fr => ?_⟩
 refine sl_run oL_ 2 rfl fr fun a fr => ?_
 refine sl_end ?_
 have fr := fr.spell (d := 2) rfl (congrArg (Value.int .i64) (show IntKind.wrap .i64 ((D.seen.length : Int) - x) = (D.seen.length : Int) - x from IntWalk.i64_in _ ⟨by omega, by omega⟩))
 refine wp_ret ?_
 refine ret1 fr rfl rfl ?_
 exact ⟨rfl, S⟩
theorem force_call (S : Sat w0 w (logA g d x :: diskA d D :: R)) : Calls Tryz.prog 35 #[.pointer (some ⟨g, 0, none⟩)] w fun e w' => e = .returned (.int .i64 0) ∧ Sat w0 w' (logA g d x :: diskA d D.sync :: R) := by
 refine calls_start (N := 12) [.pointer (some ⟨g, 0, none⟩)] Tryz.func35 rfl rfl rfl (vok_c rfl rfl) fun a fr => ?_
 refine r_ rfl ?_
 refine wl_run oL_ 1 rfl fr fun a fr => ?_
 refine er_ rfl rfl ?_
 refine wl_run oL_ 1 rfl fr fun a fr => ?_
 refine wl_call fr rfl rfl rfl rfl enThere (there_call S) ?_
 rintro _ w ⟨rfl, hw⟩
 subst hw
 refine ⟨_, rfl, rfl, fun a fr => ?_⟩
 refine wl_run oL_ 1 rfl fr fun a fr => ?_
 refine eq_ rfl rfl ?_
 refine cw_f fr rfl ?_
 refine wp_skip ?_
 refine r_ rfl ?_
 refine wl_run oL_ 4 rfl fr fun a fr => ?_
 refine wl_ldf oL_ (Sat.stAt S 0 rfl (j := 0) rfl) fr rfl rfl rfl rfl rfl rfl rfl fun a fr => ?_
 refine wl_call fr rfl rfl rfl rfl enSync (disk_sync (S.frontAt 1 rfl)) ?_
 rintro _ w ⟨rfl, S⟩
 refine ⟨_, rfl, rfl, fun a fr => ?_⟩
 refine wl_run oL_ 1 rfl fr fun a fr => ?_
 first | refine e_ ?_ | refine wpList_nil ?_
 refine wp_ret ?_
 refine ret1 fr rfl rfl ?_
 exact ⟨rfl, S.frontAt 1 rfl⟩
theorem bts_rk {w : World} {A : Option Addr} {l : List Int} (h : Rk .u8 w A l) : Sums.Bts l := h.bytes
theorem put_call {A : Option Addr} {c : Nat} {l : List Int} (rk : Rk .u8 w A l) (hl : l.length ≤ 16384) (S : Sat w0 w R) :
  Calls Tryz.prog 68 #[.slice A l.length c] w fun e w' => ∃ A' c', e = .returned (.tuple #[.slice A' (Frames.put l).length c', .int .i64 0]) ∧ vok (.tuple #[.slice A' (Frames.put l).length c', .int .i64 0]) = true ∧ Sat w0 w' (ownA .u8 5 A' c' (Frames.put l) :: R) := by
 refine (Frames.put_any A c l w hl (bts_rk rk) rk.rd).mono ?_
 rintro e w' ⟨v, rfl, h1, h2⟩
 obtain ⟨A', c', rfl, h3, h4⟩ := S.row h2 h1 (bts_wf (Frames.put_bts (bts_rk rk)))
 exact ⟨A', c', rfl, by
  have h5 : vokC (.slice A' (Frames.put l).length c') = true := h3
  show [_, _].all vokC = true
  rw [List.all_cons, h5]; rfl, h4⟩
theorem put_no {A : Option Addr} {c n : Nat} (hl : 16384 < n) (h2 : n ≤ 1000000000) (S : Sat w0 w R) :
  Calls Tryz.prog 68 #[.slice A n c] w fun e w' => e = .returned (.tuple #[.slice none 0 0, .int .i64 3]) ∧ Sat w0 w' R :=
 (Frames.put_big A n c w hl h2).mono fun e w' ⟨h1, h2⟩ => ⟨h1, S.new h2⟩
def wrs (D : Dk) (x : Nat) : Nat → List Int → Dk
 | 0, _ => D
 | k + 1, b => wrs (D.writeR x (b.take 64)) (x + 1) k (b.drop 64)
def addE (D : Dk) (x : Nat) (l : List Int) : Int := if 16384 < l.length then 3 else if D.seen.length < x + Frames.nsec l.length then 5 else 0
def addX (D : Dk) (x : Nat) (l : List Int) : Nat := if addE D x l = 0 then x + Frames.nsec l.length else x
def addD (D : Dk) (x : Nat) (l : List Int) : Dk := if addE D x l = 0 then wrs D x (Frames.nsec l.length) (Frames.put l) else D
theorem writeR_waits (D : Dk) (x : Int) (b : List Int) : (D.writeR x b).waits.length ≤ D.waits.length + 1 := by
 unfold Dk.writeR
 split
 ·simp [Dk.write]
 ·omega
theorem add_call {x : Nat} (S : Sat w0 w (logA g d x :: diskA d D :: R)) {A : Option Addr} {c : Nat} {l : List Int} (rk : Rk .u8 w A l) (hm : l.length ≤ c ∧ c ≤ maxLen) (hl : l.length ≤ 1000000000) (hx : x ≤ 4096) (hw : D.waits.length ≤ 100000000) :
  Calls Tryz.prog 33 #[.pointer (some ⟨g, 0, none⟩), .slice A l.length c] w fun e w' => e = .returned (.int .i64 (addE D x l)) ∧ Sat w0 w' (logA g d (addX D x l) :: diskA d (addD D x l) :: R) := by
 have hsm := (disk_seen (S.frontAt 1 rfl)).most
 refine calls_start (N := 55) [.pointer (some ⟨g, 0, none⟩), .slice A l.length c] Tryz.func33 rfl rfl rfl (vok_c rfl (vok_c (vok_sl hm) rfl)) fun a fr => ?_
 refine r_ rfl ?_
 refine wl_run oL_ 1 rfl fr fun a fr => ?_
 refine er_ rfl rfl ?_
 refine wl_run oL_ 1 rfl fr fun a fr => ?_
 refine wl_call fr rfl rfl rfl rfl enThere (there_call S) ?_
 rintro _ w ⟨rfl, hw⟩
 subst hw
 refine ⟨_, rfl, rfl, fun a fr => ?_⟩
 refine wl_run oL_ 1 rfl fr fun a fr => ?_
 refine eq_ rfl rfl ?_
 refine cw_f fr rfl ?_
 refine wp_skip ?_
 with_reducible refine then_n ?_
 by_cases hbig : 16384 < l.length
 ·have e3 : addE D x l = 3 := if_pos hbig
  refine r_ rfl ?_
  refine wl_run oL_ 1 rfl fr fun a fr => ?_
  refine wl_call fr rfl rfl rfl rfl enPut (put_no hbig hl S) ?_
  rintro _ w ⟨rfl, S⟩
  refine ⟨_, rfl, rfl, fun a fr => ?_⟩
  refine wl_run oL_ 5 rfl fr fun a fr => ?_
  refine eq_ rfl rfl ?_
  refine wp_block ?_
  refine r_ rfl ?_
  refine wl_run oL_ 3 rfl fr fun a fr => ?_
  refine eq_ rfl rfl ?_
  refine cw_t fr rfl ?_
  refine r_ rfl ?_
  refine wl_run oL_ 2 rfl fr fun a fr => ?_
  first | refine e_ ?_ | refine wpList_nil ?_
  refine wp_ret ?_
  try simp only [Exit.then, Exit.inBlock]
  refine ret1 fr rfl rfl ?_
  unfold addX addD
  rw [e3, if_neg (by decide), if_neg (by decide)]
  exact ⟨rfl, S⟩
 refine r_ rfl ?_
 refine wl_run oL_ 1 rfl fr fun a fr => ?_
 refine wl_call fr rfl rfl rfl rfl enPut (put_call rk (by omega) S) ?_
 rintro _ w ⟨A0, c0, rfl, hv, S⟩
 refine ⟨_, rfl, hv, fun a fr => ?_⟩
 refine wl_run oL_ 5 rfl fr fun a fr => ?_
 first | refine e_ ?_ | refine wpList_nil ?_
 have hpl := Frames.put_length l
 have hns : Frames.nsec l.length ≤ 300 := by unfold Frames.nsec; omega
 refine q_ rfl ?_
 refine wp_block ?_
 refine r_ rfl ?_
 refine wl_run oL_ 3 rfl fr fun a fr => ?_
 refine eq_ rfl rfl ?_
 refine cw_f fr rfl ?_
 have S : Sat w0 w (logA g d x :: diskA d D :: ownA .u8 5 A0 c0 (Frames.put l) :: R) := (S.frontAt 2 rfl).frontAt 2 rfl
 refine r_ rfl ?_
 refine wl_run oL_ 5 rfl fr fun a fr => ?_
 refine wl_call fr rfl rfl rfl rfl enLeft (left_call S ⟨by omega, by omega⟩) ?_
 rintro _ w ⟨rfl, S⟩
 refine ⟨_, rfl, by
  show (Lit.int .i64 _).wf = true
  rw [wf_int]
  have h2 : IntKind.i64.min = -9223372036854775808 := by decide
  have h3 : IntKind.i64.max = 9223372036854775807 := by decide
  omega, fun a fr => ?_⟩
 have hwr : IntKind.wrap .i64 (((D.seen.length : Int) - x) * 64) = ((D.seen.length : Int) - x) * 64 := IntWalk.i64_in _ ⟨by omega, by omega⟩
 refine wl_run oL_ 3 rfl fr fun a fr => ?_
 first | refine e_ ?_ | refine wpList_nil ?_
 by_cases hfull : D.seen.length < x + Frames.nsec l.length
 ·have e5 : addE D x l = 5 := by unfold addE; rw [if_neg hbig, if_pos hfull]
  have fr := fr.bool (d := 19) rfl (decide_eq_true (show ((Frames.put l).length : Int) > IntKind.wrap .i64 (((D.seen.length : Int) - x) * 64) by rw [hwr, hpl]; omega))
  refine q_ rfl ?_
  refine cw_t fr rfl ?_
  refine r_ rfl ?_
  refine wl_run oL_ 1 rfl fr fun a fr => ?_
  first | refine e_ ?_ | refine wpList_nil ?_
  refine wp_ret ?_
  try simp only [Exit.then, Exit.inBlock]
  refine ret1 fr rfl rfl ?_
  unfold addX addD
  rw [e5, if_neg (by decide), if_neg (by decide)]
  exact ⟨rfl, S.mask [true, true, false]⟩
 have e0 : addE D x l = 0 := by unfold addE; rw [if_neg hbig, if_neg hfull]
 unfold addX addD
 rw [e0, if_pos rfl, if_pos rfl]
 have fr := fr.bool (d := 19) rfl (decide_eq_false (show ¬ ((Frames.put l).length : Int) > IntKind.wrap .i64 (((D.seen.length : Int) - x) * 64) by rw [hwr, hpl]; omega))
 refine q_ rfl ?_
 refine cw_f fr rfl ?_
 refine wp_skip ?_
 (repeat (first | (with_reducible refine then_n ?_) | (with_reducible refine blk_n ?_) | (with_reducible refine ng_n ?_)))
 refine q_ rfl ?_
 refine wp_block ?_
 obtain ⟨n, hn⟩ : ∃ n, n = Frames.nsec l.length := ⟨_, rfl⟩
 rw [← hn] at hpl hns hfull ⊢
 refine cw_loop (fun q a w => ∃ (k j : Nat) (D1 : Dk) (A1 : Option Addr) (c1 : Nat) (b : List Int), k + 1 = q ∧ j + k = n ∧ b.length = k * 64 ∧ wrs D1 (x + j) k b = wrs D x n (Frames.put l) ∧ D1.waits.length ≤ 100000000 + j ∧
   (∀ w, Rk .u8 w A0 (Frames.put l) → Rk .u8 w A1 b) ∧ (b.length ≤ c1 ∧ c1 ≤ maxLen) ∧
   Fr 55 a [(0, .pointer (some ⟨g, 0, none⟩)), (5, .slice A1 b.length c1)] ∧
   Sat w0 w (logA g d ((x + j : Nat) : Int) :: diskA d D1 :: ownA .u8 5 A0 c0 (Frames.put l) :: R)) (n + 1)
  ⟨n, 0, D, A0, c0, Frames.put l, rfl, by omega, hpl, rfl, by omega, fun _ h => h, (S.frontAt 2 rfl).own.2, fr.sub ⟨rfl, rfl, trivial⟩, S⟩ ?_ ?_
 ·rintro a w ⟨k, j, D1, A1, c1, b, h, -⟩
  omega
 clear fr S
 rintro q a w ⟨k, j, D1, A1, c1, b, hk, hj, hb, hgo, hwt, hrd, hmc, fr, S⟩
 obtain rfl : q = k := by omega
 refine r_ rfl ?_
 refine wl_run oL_ 3 rfl fr fun a fr => ?_
 first | refine e_ ?_ | refine wpList_nil ?_
 cases q with
 | zero =>
  have fr := fr.bool (d := 30) rfl (decide_eq_false (show ¬ ((b.length : Nat) : Int) > 0 by omega))
  refine q_ rfl ?_
  refine cw_f fr rfl ?_
  refine wp_exit ?_
  refine xr_ rfl rfl ?_
  refine wl_run oL_ 1 rfl fr fun a fr => ?_
  first | refine e_ ?_ | refine wpList_nil ?_
  refine wp_ret ?_
  try simp only [Exit.then, Exit.inBlock]
  refine ret1 fr rfl rfl ?_
  obtain rfl : j = n := by omega
  rw [← hgo]
  exact ⟨rfl, S.mask [true, true, false]⟩
 | succ k =>
  have fr := fr.bool (d := 30) rfl (decide_eq_true (show ((b.length : Nat) : Int) > 0 by omega))
  refine q_ rfl ?_
  refine cw_t fr rfl ?_
  refine wp_skip ?_
  refine q_ rfl ?_
  refine wp_block ?_
  refine q_ rfl ?_
  refine wp_region_sl [u_ 0 33, u_ 1 34, u_ 2 35, u_ 3 36, u_ 4 37, u_ 5 38, u_ 6 39, u_ 7 40, u_ 8 41, u_ 9 42, u_ 10 43, u_ 11 44, .one (12, false, some 45)]
        [m_ 33 0 73,
        c_ 34 33,
        f_ 35 150 34 0,
        f_ 36 148 35 0,
        l_ 37 23 36,
        m_ 38 0 73,
        c_ 39 38,
        f_ 40 150 39 0,
        f_ 41 148 40 1,
        l_ 42 3 41,
        m_ 43 5 92,
        .one ⟨true, some 44, (.slice 92 (.tmp 43) none (some (.const (.int .i64 64))) none), 92, none⟩,
        .one ⟨false, some 45, (.call { callee := (.value (.func 70)), args := #[(.tmp 37), (.tmp 42), (.tmp 44)], argTypes := #[23, 3, 92] }), 28, none⟩]
        (fun w' => Sat w0 w' [logA g d ((x + j : Nat) : Int)]) rfl (by kernel_rfl) (by kernel_rfl) ?_ ?_
  ·exact S.drew.firsts [_]
  have S := S.drew
  refine sl_run oL_ 4 rfl fr fun a fr => ?_
  refine sl_ldf oL_ (fun w' S => Sat.stAt S 0 rfl (j := 0) rfl) fr rfl rfl rfl rfl rfl rfl rfl rfl (S.firsts [_]) fun a fr => ?_
  refine sl_run oL_ 4 rfl fr fun a fr => ?_
  refine sl_ldf oL_ (fun w' S => Sat.stAt S 0 rfl (j := 1) rfl) fr rfl rfl rfl rfl rfl rfl rfl rfl (S.firsts [_]) fun a fr => ?_
  refine sl_run oL_ 1 rfl fr fun a fr => ?_
  refine sl_takeq oL_ fr rfl rfl rfl rfl rfl rfl rfl rfl rfl rfl ⟨by omega, by omega⟩ fun a fr => ?_
  have hS1 := S.frontAt 1 rfl
  refine sl_call fr rfl rfl rfl rfl rfl enWrite (disk_write hS1 _ ((hrd _ (Sat.ownAt S 2 rfl)).take 64) ⟨by omega, by rw [List.length_take]; omega⟩) ?_
  rintro _ w ⟨rfl, hv, S⟩
  have S : Sat w0 w (logA g d ((x + j : Nat) : Int) :: diskA d (D1.writeR ((x + j : Nat) : Int) (b.take 64)) :: ownA .u8 5 A0 c0 (Frames.put l) :: R) := S.frontAt 1 rfl
  refine ⟨_, rfl, hv, S.firsts [_], fun a fr => ?_⟩
  refine sl_end ?_
  refine r_ rfl ?_
  refine wl_run oL_ 4 rfl fr fun a fr => ?_
  refine wl_ldf oL_ (Sat.stAt S 0 rfl (j := 1) rfl) fr rfl rfl rfl rfl rfl rfl rfl fun a fr => ?_
  refine wl_run oL_ 4 rfl fr fun a fr => ?_
  have fr := fr.spell (d := 51) rfl (congrArg (Value.int .i64) (show IntKind.wrap .i64 (((x + j : Nat) : Int) + 1) = ((x + (j + 1) : Nat) : Int) by rw [show IntKind.wrap .i64 (((x + j : Nat) : Int) + 1) = ((x + j : Nat) : Int) + 1 from IntWalk.i64_in _ ⟨by omega, by omega⟩]; omega))
  refine wl_stf oL_ fr rfl rfl rfl (j := 1) rfl rfl rfl rfl rfl S rfl ?_
  intro w S
  first | refine e_ ?_ | refine wpList_nil ?_
  (repeat (first | (with_reducible refine then_n ?_) | (with_reducible refine blk_n ?_) | (with_reducible refine ng_n ?_)))
  refine r_ rfl ?_
  refine wl_run oL_ 1 rfl fr fun a fr => ?_
  refine wl_drop oL_ fr rfl rfl rfl rfl rfl rfl rfl infoB rfl ⟨by omega, by omega⟩ fun a fr => ?_
  refine wl_run oL_ 1 rfl fr fun a fr => ?_
  first | refine e_ ?_ | refine wpList_nil ?_
  have hw1 := writeR_waits D1 ((x + j : Nat) : Int) (b.take 64)
  have h64 : Int.toNat 64 = 64 := rfl
  refine ⟨k, j + 1, D1.writeR ((x + j : Nat) : Int) (b.take 64), dropA A1 c1 64, c1 - 64, b.drop 64, rfl, by omega, by rw [List.length_drop]; omega, hgo, by omega, fun w hw => (hrd w hw).drop hmc.1, ⟨by rw [List.length_drop]; omega, by omega⟩, fr.sub ⟨rfl, rfl, trivial⟩, S⟩
end
end Go.Proofs.YticnjkdaccacaaaGreat.Sx
end
section
namespace Go.Proofs.YticnjkdaccacaaaGreat.Sx
open Go Go.RowKit Base Oq OwnV
def orcCt : Orc := ⟨[(3, .int .i64), (4, .bool), (5, .int .u8), (31, .int .u32), (72, .slice 31), (36, .int .u8), (107, .slice 36), (92, .slice 5), (124, .slice 92)],
 [(3, 1), (4, 1), (5, 1), (31, 1), (72, 1), (36, 1), (107, 1), (92, 1), (124, 1)]⟩
theorem oCt_ : orcCt.Ok Tryz.prog := ⟨⟨Tryz.underlying3, Tryz.underlying4, Tryz.underlying5, Tryz.underlying31, Tryz.underlying72, Tryz.underlying36, Tryz.underlying107, Tryz.underlying92, Tryz.underlying124, trivial⟩, ⟨by kernel_rfl, by kernel_rfl, by kernel_rfl, by kernel_rfl, by kernel_rfl, by kernel_rfl, by kernel_rfl, by kernel_rfl, by kernel_rfl, trivial⟩⟩
def hasI (l : List Int) (y : Int) : Bool := l.any fun z => y == z
theorem enIdxU32 : Enters Tryz.prog 59 := fun _ _ => by kernel_rfl
theorem enHasU32 : Enters Tryz.prog 26 := fun _ _ => by kernel_rfl
theorem idxU32_call {w : World} {A : Option Addr} {c : Nat} {l : List Int} {y : Int} (hr : Rk .u32 w A l) (hm : l.length ≤ c ∧ c ≤ maxLen) (hy : (Lit.int .u32 y).wf = true) : Calls Tryz.prog 59 #[.slice A l.length c, .int .u32 y] w fun e w' => ∃ r : Int, e = .returned (.int .i64 r) ∧ vok (.int .i64 r) = true ∧ (decide (r ≥ 0) = hasI l y) ∧ w' = w := by
 refine calls_start (N := 19) [.slice A l.length c, .int .u32 y] Tryz.func59 rfl rfl rfl (vok_c (vok_sl hm) (vok_c hy rfl)) fun a fr => ?_
 refine r_ rfl ?_
 repeat refine w_ oCt_ rfl fr fun a fr => ?_
 refine er_ rfl rfl ?_
 repeat refine w_ oCt_ rfl fr fun a fr => ?_
 refine eq_ rfl rfl ?_
 refine wp_block ?_
 refine cw_loop (fun q a w2 => ∃ i : Nat, i + q = l.length + 1 ∧ i ≤ l.length ∧ (∀ j (hj : j < l.length), j < i → (y == l[j]) = false) ∧ Fr 19 a [(0, .slice A l.length c), (1, .int .u32 y), (7, .int .i64 (l.length : Int)), (8, .int .i64 (i : Int))] ∧ w2 = w) (l.length + 1)
  ⟨0, by omega, by omega, fun j _ hj => by omega, fr.sub ⟨rfl, rfl, rfl, rfl, trivial⟩, rfl⟩ ?_ ?_
 ·rintro a w2 ⟨i, h, h', -⟩
  omega
 clear fr
 rintro q a w2 ⟨i, hi, hi', hno, fr, hw2⟩
 subst w2
 refine r_ rfl ?_
 repeat refine w_ oCt_ rfl fr fun a fr => ?_
 first | refine e_ ?_ | refine wpList_nil ?_
 by_cases hlt : i < l.length
 rotate_left
 ·have fr := fr.bool (d := 9) rfl (decide_eq_false (show ¬ (i : Int) < (l.length : Int) by omega))
  refine q_ rfl ?_
  refine cw_f fr rfl ?_
  refine wp_exit ?_
  refine xr_ rfl rfl ?_
  repeat refine w_ oCt_ rfl fr fun a fr => ?_
  first | refine e_ ?_ | refine wpList_nil ?_
  refine wp_ret ?_
  refine ret1 fr rfl rfl ⟨-1, rfl, rfl, ?_, rfl⟩
  have : hasI l y = false := List.any_eq_false.2 fun x hx => by
   obtain ⟨j, hj, rfl⟩ := List.mem_iff_getElem.1 hx
   rw [hno j hj (by omega)]; decide
  rw [this]; rfl
 have fr := fr.bool (d := 9) rfl (decide_eq_true (show (i : Int) < (l.length : Int) by omega))
 refine q_ rfl ?_
 refine cw_t fr rfl ?_
 refine wp_skip ?_
 with_reducible refine then_n ?_
 have hge : l.getD i 0 = l[i] := by rw [List.getD_eq_getElem?_getD, List.getElem?_eq_getElem hlt]; rfl
 refine q_ rfl ?_
 refine wp_block ?_
 refine r_ rfl ?_
 repeat refine w_ oCt_ rfl fr fun a fr => ?_
 refine er_ rfl rfl ?_
 repeat refine w_ oCt_ rfl fr fun a fr => ?_
 refine wl_ld oCt_ hr fr rfl rfl rfl rfl rfl rfl rfl rfl rfl rfl rfl rfl rfl rfl rfl rfl ⟨by omega, by omega⟩ fun a fr => ?_
 rw [Int.toNat_natCast, hge] at fr
 repeat refine w_ oCt_ rfl fr fun a fr => ?_
 first | refine e_ ?_ | refine wpList_nil ?_
 refine bs 16 fr rfl (fun h1 fr => ?_) (fun h1 fr => ?_)
 ·refine q_ rfl ?_
  refine cw_t fr rfl ?_
  refine r_ rfl ?_
  repeat refine w_ oCt_ rfl fr fun a fr => ?_
  first | refine e_ ?_ | refine wpList_nil ?_
  refine wp_ret ?_
  try simp only [Exit.then, Exit.inBlock]
  refine ret1 fr rfl rfl ⟨i, rfl, fr.vok (d := 4) rfl, ?_, rfl⟩
  have : hasI l y = true := List.any_eq_true.2 ⟨l[i], List.getElem_mem hlt, h1⟩
  rw [this, decide_eq_true]; omega
 ·refine q_ rfl ?_
  refine cw_f fr rfl ?_
  refine wp_skip ?_
  refine blk_n ?_
  refine r_ rfl ?_
  repeat refine w_ oCt_ rfl fr fun a fr => ?_
  first | refine e_ ?_ | refine wpList_nil ?_
  have fr := fr.spell (d := 8) rfl (congrArg (Value.int .i64) (i64_next hlt (by have h9 := hm.2; unfold maxLen at h9; omega)))
  refine ⟨i + 1, by omega, by omega, fun j hj hj2 => ?_, fr.sub ⟨rfl, rfl, rfl, rfl, trivial⟩, rfl⟩
  by_cases he : j = i
  ·subst he; exact h1
  ·exact hno j hj (by omega)
theorem hasU32_call {w : World} {A : Option Addr} {c : Nat} {l : List Int} {y : Int} (hr : Rk .u32 w A l) (hm : l.length ≤ c ∧ c ≤ maxLen) (hy : (Lit.int .u32 y).wf = true) : Calls Tryz.prog 26 #[.slice A l.length c, .int .u32 y] w fun e w' => e = .returned (.bool (hasI l y)) ∧ w' = w := by
 refine calls_start (N := 9) [.slice A l.length c, .int .u32 y] Tryz.func26 rfl rfl rfl (vok_c (vok_sl hm) (vok_c hy rfl)) fun a fr => ?_
 refine r_ rfl ?_
 repeat refine w_ oCt_ rfl fr fun a fr => ?_
 refine er_ rfl rfl ?_
 repeat refine w_ oCt_ rfl fr fun a fr => ?_
 refine wl_call fr rfl rfl rfl rfl enIdxU32 (idxU32_call hr hm hy) ?_
 rintro _ w2 ⟨r, rfl, hv, hd, hw⟩
 subst w2
 refine ⟨_, rfl, hv, fun a fr => ?_⟩
 repeat refine w_ oCt_ rfl fr fun a fr => ?_
 first | refine e_ ?_ | refine wpList_nil ?_
 refine wp_ret ?_
 refine ret1 fr rfl rfl ⟨by rw [hd], rfl⟩
theorem enIdxSay : Enters Tryz.prog 72 := fun _ _ => by kernel_rfl
theorem enHasSay : Enters Tryz.prog 40 := fun _ _ => by kernel_rfl
theorem idxSay_call {w : World} {A : Option Addr} {c : Nat} {l : List Int} {y : Int} (hr : Rk .u8 w A l) (hm : l.length ≤ c ∧ c ≤ maxLen) (hy : (Lit.int .u8 y).wf = true) : Calls Tryz.prog 72 #[.slice A l.length c, .int .u8 y] w fun e w' => ∃ r : Int, e = .returned (.int .i64 r) ∧ vok (.int .i64 r) = true ∧ (decide (r ≥ 0) = hasI l y) ∧ w' = w := by
 refine calls_start (N := 19) [.slice A l.length c, .int .u8 y] Tryz.func72 rfl rfl rfl (vok_c (vok_sl hm) (vok_c hy rfl)) fun a fr => ?_
 refine r_ rfl ?_
 repeat refine w_ oCt_ rfl fr fun a fr => ?_
 refine er_ rfl rfl ?_
 repeat refine w_ oCt_ rfl fr fun a fr => ?_
 refine eq_ rfl rfl ?_
 refine wp_block ?_
 refine cw_loop (fun q a w2 => ∃ i : Nat, i + q = l.length + 1 ∧ i ≤ l.length ∧ (∀ j (hj : j < l.length), j < i → (y == l[j]) = false) ∧ Fr 19 a [(0, .slice A l.length c), (1, .int .u8 y), (7, .int .i64 (l.length : Int)), (8, .int .i64 (i : Int))] ∧ w2 = w) (l.length + 1)
  ⟨0, by omega, by omega, fun j _ hj => by omega, fr.sub ⟨rfl, rfl, rfl, rfl, trivial⟩, rfl⟩ ?_ ?_
 ·rintro a w2 ⟨i, h, h', -⟩
  omega
 clear fr
 rintro q a w2 ⟨i, hi, hi', hno, fr, hw2⟩
 subst w2
 refine r_ rfl ?_
 repeat refine w_ oCt_ rfl fr fun a fr => ?_
 first | refine e_ ?_ | refine wpList_nil ?_
 by_cases hlt : i < l.length
 rotate_left
 ·have fr := fr.bool (d := 9) rfl (decide_eq_false (show ¬ (i : Int) < (l.length : Int) by omega))
  refine q_ rfl ?_
  refine cw_f fr rfl ?_
  refine wp_exit ?_
  refine xr_ rfl rfl ?_
  repeat refine w_ oCt_ rfl fr fun a fr => ?_
  first | refine e_ ?_ | refine wpList_nil ?_
  refine wp_ret ?_
  refine ret1 fr rfl rfl ⟨-1, rfl, rfl, ?_, rfl⟩
  have : hasI l y = false := List.any_eq_false.2 fun x hx => by
   obtain ⟨j, hj, rfl⟩ := List.mem_iff_getElem.1 hx
   rw [hno j hj (by omega)]; decide
  rw [this]; rfl
 have fr := fr.bool (d := 9) rfl (decide_eq_true (show (i : Int) < (l.length : Int) by omega))
 refine q_ rfl ?_
 refine cw_t fr rfl ?_
 refine wp_skip ?_
 with_reducible refine then_n ?_
 have hge : l.getD i 0 = l[i] := by rw [List.getD_eq_getElem?_getD, List.getElem?_eq_getElem hlt]; rfl
 refine q_ rfl ?_
 refine wp_block ?_
 refine r_ rfl ?_
 repeat refine w_ oCt_ rfl fr fun a fr => ?_
 refine er_ rfl rfl ?_
 repeat refine w_ oCt_ rfl fr fun a fr => ?_
 refine wl_ld oCt_ hr fr rfl rfl rfl rfl rfl rfl rfl rfl rfl rfl rfl rfl rfl rfl rfl rfl ⟨by omega, by omega⟩ fun a fr => ?_
 rw [Int.toNat_natCast, hge] at fr
 repeat refine w_ oCt_ rfl fr fun a fr => ?_
 first | refine e_ ?_ | refine wpList_nil ?_
 refine bs 16 fr rfl (fun h1 fr => ?_) (fun h1 fr => ?_)
 ·refine q_ rfl ?_
  refine cw_t fr rfl ?_
  refine r_ rfl ?_
  repeat refine w_ oCt_ rfl fr fun a fr => ?_
  first | refine e_ ?_ | refine wpList_nil ?_
  refine wp_ret ?_
  try simp only [Exit.then, Exit.inBlock]
  refine ret1 fr rfl rfl ⟨i, rfl, fr.vok (d := 4) rfl, ?_, rfl⟩
  have : hasI l y = true := List.any_eq_true.2 ⟨l[i], List.getElem_mem hlt, h1⟩
  rw [this, decide_eq_true]; omega
 ·refine q_ rfl ?_
  refine cw_f fr rfl ?_
  refine wp_skip ?_
  refine blk_n ?_
  refine r_ rfl ?_
  repeat refine w_ oCt_ rfl fr fun a fr => ?_
  first | refine e_ ?_ | refine wpList_nil ?_
  have fr := fr.spell (d := 8) rfl (congrArg (Value.int .i64) (i64_next hlt (by have h9 := hm.2; unfold maxLen at h9; omega)))
  refine ⟨i + 1, by omega, by omega, fun j hj hj2 => ?_, fr.sub ⟨rfl, rfl, rfl, rfl, trivial⟩, rfl⟩
  by_cases he : j = i
  ·subst he; exact h1
  ·exact hno j hj (by omega)
theorem hasSay_call {w : World} {A : Option Addr} {c : Nat} {l : List Int} {y : Int} (hr : Rk .u8 w A l) (hm : l.length ≤ c ∧ c ≤ maxLen) (hy : (Lit.int .u8 y).wf = true) : Calls Tryz.prog 40 #[.slice A l.length c, .int .u8 y] w fun e w' => e = .returned (.bool (hasI l y)) ∧ w' = w := by
 refine calls_start (N := 9) [.slice A l.length c, .int .u8 y] Tryz.func40 rfl rfl rfl (vok_c (vok_sl hm) (vok_c hy rfl)) fun a fr => ?_
 refine r_ rfl ?_
 repeat refine w_ oCt_ rfl fr fun a fr => ?_
 refine er_ rfl rfl ?_
 repeat refine w_ oCt_ rfl fr fun a fr => ?_
 refine wl_call fr rfl rfl rfl rfl enIdxSay (idxSay_call hr hm hy) ?_
 rintro _ w2 ⟨r, rfl, hv, hd, hw⟩
 subst w2
 refine ⟨_, rfl, hv, fun a fr => ?_⟩
 repeat refine w_ oCt_ rfl fr fun a fr => ?_
 first | refine e_ ?_ | refine wpList_nil ?_
 refine wp_ret ?_
 refine ret1 fr rfl rfl ⟨by rw [hd], rfl⟩
theorem enGrow : Enters Tryz.prog 116 := fun _ _ => by kernel_rfl
theorem enConcat : Enters Tryz.prog 96 := fun _ _ => by kernel_rfl
section
variable {P : Program} {T : Orc} {ops : Array Oper} {Q : Exit → Act → World → Prop} {Df : List Deferred} {N : Nat} {a : Act} {w w0 : World} {L : Env} {R : List Asn} {A : Option Addr} {n c : Nat}
theorem wl_cap (hT : T.Ok P) {o : Oper} {rest : List Oper} {x : Operand} {t e : TypeId} {d : Nat} (fr : FrD Df N a L) (hw : wantL ops L o = some true) (ho : o.op = .call { callee := .builtin .cap, args := #[x], argTypes := #[t] }) (hd : o.dst = some d) (hlt : Nat.blt d N = true) (hx : ev L x = some (.slice A n c)) (ht : T.ty.lookup t = some (.slice e)) (hc : c ≤ maxLen)
  (h : ∀ a', FrD Df N a' ((d, .int .i64 (c : Int)) :: L) → wpList P ops Q rest a' w) : wpList P ops Q (o :: rest) a w := by
 refine wl_val fr hw hd hlt (w' := w) ?_ (vok_len hc) h
 unfold execOp
 simp only [ho, resolve]
 rw [Sem.run_bind, Sem.run_pure, Result.andThen_ok]
 have e : (#[x] : Array Operand).map a.eval = #[Value.slice A n c] := by simp [(fr.ev hx).1]
 simp only [invoke, e]
 show (do pure (Next.value (← Builtin.cap_ #[t] o.type #[.slice A n c])) : Sem Next).run P w = _
 have e2 : (Builtin.cap_ #[t] o.type #[Value.slice A n c]).run P w = .ok (.int .i64 (c : Int)) w := by
  simp only [Builtin.cap_, List.getElem?_toArray, List.getElem?_cons_zero]
  rw [Sem.run_bind, run_underlying (hT.und ht), Result.andThen_ok]
  rfl
 rw [Sem.run_bind, e2]; rfl
theorem wl_appz {t tn e : TypeId} (RT : RowTy P t e .u8) (htn : P.underlying tn = some (.int .i64)) {o : Oper} {rest : List Oper} {d : Nat} {x y : Operand} {k : Nat} (fr : FrD Df N a L) (hw : wantL ops L o = some true) (hd : o.dst = some d) (hlt : Nat.blt d N = true) (ho : o.op = .call { callee := .builtin .append, args := #[x, y], argTypes := #[t, tn] })
  (hx : ev L x = some (.slice none 0 0)) (hy : ev L y = some (.int .i64 (k : Int))) (h0 : 0 < k) (hk : k ≤ 1000000) (S : Sat w0 w R)
  (h : ∀ w' A c, (0 ≤ c ∧ c ≤ maxLen) → Sat w0 w' (ownA .u8 e A c [] :: R) → ∀ a', FrD Df N a' ((d, .slice A k c) :: L) → wpList P ops Q rest a' w') : wpList P ops Q (o :: rest) a w := by
 obtain ⟨bytes, hle, hinfo⟩ := RT.hi
 obtain ⟨ie, hie, hzz⟩ := Option.map_eq_some_iff.1 hinfo
 simp only [Prod.mk.injEq] at hzz
 obtain ⟨hz, hs, hb⟩ := hzz
 have hcap : Builtin.nextslicecap (0 + k) 0 = k := by unfold Builtin.nextslicecap; rw [if_pos (by omega)]; omega
 have hkb : k * ie.bytes ≤ 281474976710656 := by rw [hb]; exact Nat.le_trans (Nat.mul_le_mul_left k hle) (by omega)
 have hg := grownCap_ge w (0 + k) 0 e
 have hg2 := grownCap_le_maxLen w (0 + k) 0 e (by unfold maxLen; omega)
 have hrun := Go.Lib.run_append_grow_zeros (P := P) w t tn o.type e ie (.int .u8 0) .i64 .i64 RT.ht htn hie hz none 0 0 [] (by rw [hs]; rfl) k h0 (by rw [hs]; omega) (by omega) (by omega) hkb (by rw [hcap]; exact hkb)
 generalize hG : grownCap w (0 + k) 0 e = G at *
 have hcur : ∀ cur : Array Value, cur.size = G * 1 → RowV (w.drew.alloc (.cells cur e)) w0.heap.size e 1 (.slice (some ⟨w.heap.size, 0, none⟩) 0 G) 0 [] := fun cur hc => ⟨rfl, .inr ⟨w.heap.size, G, cur, rfl, S.below.size, heap_alloc_new _ _, Nat.zero_le _, hg2, hc, rfl⟩⟩
 have hcur := hcur ((([] : List Value).toArray ++ Builtin.zeroCells (Value.int .u8 0).cells k) ++ Builtin.zeroCells (Value.int .u8 0).cells (G - (0 + k))) (by
  simp only [Array.size_append, size_zeroCells, Value.cells]
  simp
  omega)
 generalize (([] : List Value).toArray ++ Builtin.zeroCells (Value.int .u8 0).cells k) ++ Builtin.zeroCells (Value.int .u8 0).cells (G - (0 + k)) = cur at *
 refine wl_val (v := .slice (some ⟨w.heap.size, 0, none⟩) (0 + k) G) (w' := w.drew.alloc (.cells cur e)) fr hw hd hlt ?_ (vok_sl ⟨hg, hg2⟩) ?_
 ·unfold execOp
  simp only [ho, resolve]
  rw [Sem.run_bind, Sem.run_pure, Result.andThen_ok]
  have e : (#[x, y] : Array Operand).map a.eval = #[Value.slice none 0 0, .int .i64 (k : Int)] := by simp [(fr.ev hx).1, (fr.ev hy).1]
  simp only [invoke, e]
  show (do pure (Next.value (← Builtin.append_ #[t, tn] o.type _)) : Sem Next).run P w = _
  rw [Sem.run_bind, hrun]; rfl
 ·intro a' fr'
  rw [Nat.zero_add] at fr'
  refine h _ _ _ ⟨Nat.zero_le _, hg2⟩ ?_ a' fr'
  refine S.add (F := fun g => g = w.heap.size) ((Below.refl _ _).drew.alloc (Nat.le_refl _) _) ⟨hcur, (fun z hz => (nomatch hz)), fun g => ?_⟩ fun g hg => Nat.le_of_eq hg.symm
  simp [Value.ownBlock, eq_comm]
end
theorem grow_call {w0 w : World} {R : List Asn} {k : Nat} (h0 : 0 < k) (hk : k ≤ 1000000) (S : Sat w0 w R) : Calls Tryz.prog 116 #[.slice none 0 0, .int .i64 (k : Int)] w fun e w' => ∃ A c, e = .returned (.slice A 0 c) ∧ vok (.slice A 0 c) = true ∧ Sat w0 w' (ownA .u8 5 A c [] :: R) := by
 have hkw : (Lit.int .i64 (k : Int)).wf = true := by
  rw [wf_int]
  have h1 : IntKind.i64.min = -9223372036854775808 := by decide
  have h2 : IntKind.i64.max = 9223372036854775807 := by decide
  omega
 refine calls_start (N := 27) [.slice none 0 0, .int .i64 (k : Int)] Tryz.func116 rfl rfl rfl (vok_c rfl (vok_c hkw rfl)) fun a fr => ?_
 refine r_ rfl ?_
 repeat refine w_ oCt_ rfl fr fun a fr => ?_
 refine er_ rfl rfl ?_
 repeat refine w_ oCt_ rfl fr fun a fr => ?_
 first | refine e_ ?_ | refine wpList_nil ?_
 have fr := fr.bool (d := 6) rfl (decide_eq_false (show ¬ (k : Int) < 0 by omega))
 refine q_ rfl ?_
 refine cw_f fr rfl ?_
 refine wp_skip ?_
 refine r_ rfl ?_
 repeat refine w_ oCt_ rfl fr fun a fr => ?_
 refine wl_cap oCt_ fr rfl rfl rfl rfl rfl rfl (Nat.zero_le _) fun a fr => ?_
 repeat refine w_ oCt_ rfl fr fun a fr => ?_
 first | refine e_ ?_ | refine wpList_nil ?_
 have fr := fr.spell (d := 1) rfl (show Value.int .i64 (IntKind.wrap .i64 ((k : Int) - IntKind.wrap .i64 (((0 : Nat) : Int) - ((0 : Nat) : Int)))) = .int .i64 (k : Int) by
  congr 1
  rw [show IntKind.wrap .i64 (((0 : Nat) : Int) - ((0 : Nat) : Int)) = 0 from rfl, Int.sub_zero]
  exact IntWalk.i64_in _ ⟨by omega, by omega⟩)
 refine r_ rfl ?_
 repeat refine w_ oCt_ rfl fr fun a fr => ?_
 first | refine e_ ?_ | refine wpList_nil ?_
 have fr := fr.bool (d := 16) rfl (decide_eq_true (show (k : Int) > 0 by omega))
 refine cw_at (fun a w2 => ∃ A c, (0 ≤ c ∧ c ≤ maxLen) ∧ Fr 27 a [(0, .slice A 0 c)] ∧ Sat w0 w2 (ownA .u8 5 A c [] :: R)) ?_ ?_
 ·refine cw_t fr rfl ?_
  refine r_ rfl ?_
  repeat refine w_ oCt_ rfl fr fun a fr => ?_
  refine wl_cap oCt_ fr rfl rfl rfl rfl rfl rfl (Nat.zero_le _) fun a fr => ?_
  refine wl_takev (i := 0) oCt_ fr rfl rfl rfl rfl rfl rfl rfl rfl (Nat.le_refl _) fun a fr => ?_
  repeat refine w_ oCt_ rfl fr fun a fr => ?_
  refine wl_appz litB Tryz.underlying3 fr rfl rfl rfl rfl rfl rfl h0 hk S ?_
  intro w1 A c hc S a fr
  repeat refine w_ oCt_ rfl fr fun a fr => ?_
  refine wl_takev (i := 0) oCt_ fr rfl rfl rfl rfl rfl rfl rfl rfl (Nat.zero_le _) fun a fr => ?_
  repeat refine w_ oCt_ rfl fr fun a fr => ?_
  first | refine e_ ?_ | refine wpList_nil ?_
  exact ⟨A, c, hc, fr.sub ⟨rfl, trivial⟩, S⟩
 clear fr S
 rintro a w2 ⟨A, c, hc, fr, S⟩
 refine r_ rfl ?_
 repeat refine w_ oCt_ rfl fr fun a fr => ?_
 first | refine e_ ?_ | refine wpList_nil ?_
 refine wp_ret ?_
 exact ret1 fr rfl rfl ⟨A, c, rfl, fr.vok (d := 4) rfl, S⟩
structure RdSl (w : World) (A : Option Addr) (rs : List Rw) : Prop where
 cell : ∀ i (hi : i < rs.length), (∃ ad, A = some ad ∧ w.cell? (ad.add (i * 1)) = some (rwV rs[i])) ∧ vok (rwV rs[i]) = true ∧ Rk .u8 w rs[i].1 rs[i].2.2
def sumR (rs : List Rw) : Nat := (rs.map fun r => r.2.2.length).sum
theorem sumR_take {rs : List Rw} {i : Nat} (hi : i < rs.length) : sumR (rs.take (i + 1)) = sumR (rs.take i) + rs[i].2.2.length := by
 unfold sumR
 rw [List.take_succ_eq_append_getElem hi, List.map_append, List.sum_append]
 simp
theorem sumR_le (rs : List Rw) (i : Nat) : sumR (rs.take i) ≤ sumR rs := by
 have h : sumR rs = sumR (rs.take i) + sumR (rs.drop i) := by
  unfold sumR
  rw [← List.sum_append, ← List.map_append, List.take_append_drop]
 omega
theorem joinR_take {rs : List Rw} {i : Nat} (hi : i < rs.length) : (rs.take (i + 1)).flatMap (·.2.2) = (rs.take i).flatMap (·.2.2) ++ rs[i].2.2 := by
 rw [List.take_succ_eq_append_getElem hi, List.flatMap_append]
 simp
theorem joinR_len (rs : List Rw) : (rs.flatMap (·.2.2)).length = sumR rs := by
 unfold sumR
 rw [List.length_flatMap]
theorem concat_call {w0 w : World} {R : List Asn} {A : Option Addr} {c : Nat} {rs : List Rw} (hR : ∀ w', Sat w0 w' R → RdSl w' A rs) (hm : rs.length ≤ c ∧ c ≤ maxLen) (h0 : 0 < sumR rs) (hs : sumR rs ≤ 1000000) (S : Sat w0 w R) :
  Calls Tryz.prog 96 #[.slice A rs.length c] w fun e w' => ∃ A' c', e = .returned (.slice A' (rs.flatMap (·.2.2)).length c') ∧ vok (.slice A' (rs.flatMap (·.2.2)).length c') = true ∧ Sat w0 w' (ownA .u8 5 A' c' (rs.flatMap (·.2.2)) :: R) := by
 refine calls_start (N := 36) [.slice A rs.length c] Tryz.func96 rfl rfl rfl (vok_c (vok_sl hm) rfl) fun a fr => ?_
 refine r_ rfl ?_
 repeat refine w_ oCt_ rfl fr fun a fr => ?_
 refine er_ rfl rfl ?_
 repeat refine w_ oCt_ rfl fr fun a fr => ?_
 refine er_ rfl rfl ?_
 repeat refine w_ oCt_ rfl fr fun a fr => ?_
 refine eq_ rfl rfl ?_
 refine cw_at (fun a w2 => Fr 36 a [(0, .slice A rs.length c), (3, .int .i64 (sumR rs : Int))] ∧ Sat w0 w2 R) ?_ ?_
 ·refine wp_block ?_
  refine cw_loop (fun q a w2 => ∃ i : Nat, i + q = rs.length + 1 ∧ i ≤ rs.length ∧ Fr 36 a [(0, .slice A rs.length c), (3, .int .i64 (sumR (rs.take i) : Int)), (9, .slice A rs.length c), (10, .int .i64 (rs.length : Int)), (11, .int .i64 (i : Int))] ∧ Sat w0 w2 R) (rs.length + 1)
   ⟨0, by omega, by omega, fr.sub ⟨rfl, rfl, rfl, rfl, rfl, trivial⟩, S⟩ ?_ ?_
  ·rintro a w2 ⟨i, h, h', -⟩
   omega
  clear fr S
  rintro q a w2 ⟨i, hi, hi', fr, S⟩
  refine r_ rfl ?_
  repeat refine w_ oCt_ rfl fr fun a fr => ?_
  first | refine e_ ?_ | refine wpList_nil ?_
  by_cases hlt : i < rs.length
  rotate_left
  ·have fr := fr.bool (d := 12) rfl (decide_eq_false (show ¬ (i : Int) < (rs.length : Int) by omega))
   obtain rfl : i = rs.length := by omega
   rw [List.take_length] at fr
   refine q_ rfl ?_
   refine cw_f fr rfl ?_
   refine wp_exit ?_
   skip; (repeat (first | (with_reducible refine then_e ?_) | (with_reducible refine ng_e ?_) | (with_reducible refine blk_e (by decide) ?_))); (with_reducible refine blk_y ?_); (repeat (with_reducible refine then_n ?_))
   exact ⟨fr.sub ⟨rfl, rfl, trivial⟩, S⟩
  have fr := fr.bool (d := 12) rfl (decide_eq_true (show (i : Int) < (rs.length : Int) by omega))
  refine q_ rfl ?_
  refine cw_t fr rfl ?_
  refine wp_skip ?_
  with_reducible refine then_n ?_
  obtain ⟨hcell, hv, hrk⟩ := (hR _ S).cell i hlt
  refine q_ rfl ?_
  refine wp_block ?_
  refine r_ rfl ?_
  refine wl_ldc oCt_ (i := (i : Int)) (v := .slice rs[i].1 rs[i].2.2.length rs[i].2.1) hcell hv fr rfl rfl rfl rfl rfl rfl rfl rfl rfl rfl rfl rfl rfl rfl rfl ⟨by omega, by omega⟩ fun a fr => ?_
  repeat refine w_ oCt_ rfl fr fun a fr => ?_
  first | refine e_ ?_ | refine wpList_nil ?_
  have hst := sumR_take hlt
  have hsl := sumR_le rs (i + 1)
  refine r_ rfl ?_
  repeat refine w_ oCt_ rfl fr fun a fr => ?_
  first | refine e_ ?_ | refine wpList_nil ?_
  have fr := fr.spell (d := 3) rfl (show Value.int .i64 (IntKind.wrap .i64 ((sumR (rs.take i) : Int) + (rs[i].2.2.length : Int))) = .int .i64 (sumR (rs.take (i + 1)) : Int) by
   rw [hst, show IntKind.wrap .i64 ((sumR (rs.take i) : Int) + (rs[i].2.2.length : Int)) = (sumR (rs.take i) : Int) + (rs[i].2.2.length : Int) from IntWalk.i64_in _ ⟨by omega, by omega⟩]
   congr 1)
  refine r_ rfl ?_
  repeat refine w_ oCt_ rfl fr fun a fr => ?_
  first | refine e_ ?_ | refine wpList_nil ?_
  have fr := fr.bool (d := 20) rfl (decide_eq_false (show ¬ (sumR (rs.take (i + 1)) : Int) < 0 by omega))
  refine q_ rfl ?_
  refine cw_f fr rfl ?_
  refine wp_skip ?_
  refine blk_n ?_
  refine r_ rfl ?_
  repeat refine w_ oCt_ rfl fr fun a fr => ?_
  first | refine e_ ?_ | refine wpList_nil ?_
  have fr := fr.spell (d := 11) rfl (congrArg (Value.int .i64) (i64_next hlt (by have h9 := hm; unfold maxLen at h9; omega)))
  exact ⟨i + 1, by omega, by omega, fr.sub ⟨rfl, rfl, rfl, rfl, rfl, trivial⟩, S⟩
 clear fr S
 rintro a w2 ⟨fr, S⟩
 refine r_ rfl ?_
 repeat refine w_ oCt_ rfl fr fun a fr => ?_
 refine wl_call fr rfl rfl rfl rfl enGrow (grow_call h0 hs S) ?_
 rintro _ w3 ⟨A3, c3, rfl, hv3, S⟩
 refine ⟨_, rfl, hv3, fun a fr => ?_⟩
 repeat refine w_ oCt_ rfl fr fun a fr => ?_
 refine er_ rfl rfl ?_
 repeat refine w_ oCt_ rfl fr fun a fr => ?_
 refine eq_ rfl rfl ?_
 refine wp_block ?_
 refine cw_loop (fun q a w2 => ∃ (i : Nat) (A3 : Option Addr) (c3 : Nat) (l : List Int), l = (rs.take i).flatMap (·.2.2) ∧ i + q = rs.length + 1 ∧ i ≤ rs.length ∧ Fr 36 a [(6, .slice A3 l.length c3), (25, .slice A rs.length c), (26, .int .i64 (rs.length : Int)), (27, .int .i64 (i : Int))] ∧ Sat w0 w2 (ownA .u8 5 A3 c3 l :: R)) (rs.length + 1)
  ⟨0, A3, c3, [], rfl, by omega, by omega, fr.sub ⟨rfl, rfl, rfl, rfl, trivial⟩, S⟩ ?_ ?_
 ·rintro a w2 ⟨i, _, _, _, _, h, h', -⟩
  omega
 clear fr S
 rintro q a w4 ⟨i, A4, c4, l, hl, hi, hi', fr, S⟩
 refine r_ rfl ?_
 repeat refine w_ oCt_ rfl fr fun a fr => ?_
 first | refine e_ ?_ | refine wpList_nil ?_
 by_cases hlt : i < rs.length
 rotate_left
 ·have fr := fr.bool (d := 28) rfl (decide_eq_false (show ¬ (i : Int) < (rs.length : Int) by omega))
  obtain rfl : i = rs.length := by omega
  rw [List.take_length] at hl
  subst hl
  refine q_ rfl ?_
  refine cw_f fr rfl ?_
  refine wp_exit ?_
  refine xr_ rfl rfl ?_
  repeat refine w_ oCt_ rfl fr fun a fr => ?_
  first | refine e_ ?_ | refine wpList_nil ?_
  refine wp_ret ?_
  exact ret1 fr rfl rfl ⟨A4, c4, rfl, fr.vok (d := 2) rfl, S⟩
 have fr := fr.bool (d := 28) rfl (decide_eq_true (show (i : Int) < (rs.length : Int) by omega))
 refine q_ rfl ?_
 refine cw_t fr rfl ?_
 refine wp_skip ?_
 with_reducible refine then_n ?_
 obtain ⟨hcell, hv, hrk⟩ := (hR _ S.tl).cell i hlt
 refine q_ rfl ?_
 refine wp_block ?_
 refine r_ rfl ?_
 refine wl_ldc oCt_ (i := (i : Int)) (v := .slice rs[i].1 rs[i].2.2.length rs[i].2.1) hcell hv fr rfl rfl rfl rfl rfl rfl rfl rfl rfl rfl rfl rfl rfl rfl rfl ⟨by omega, by omega⟩ fun a fr => ?_
 repeat refine w_ oCt_ rfl fr fun a fr => ?_
 first | refine e_ ?_ | refine wpList_nil ?_
 have hst := sumR_take hlt
 have hsl := sumR_le rs (i + 1)
 have hll : l.length = sumR (rs.take i) := by rw [hl, joinR_len]
 refine r_ rfl ?_
 repeat refine w_ oCt_ rfl fr fun a fr => ?_
 refine wl_app litB fr rfl rfl rfl rfl rfl rfl rfl rfl hrk (by omega) S ?_
 intro w5 A5 c5 S a fr
 repeat refine w_ oCt_ rfl fr fun a fr => ?_
 first | refine e_ ?_ | refine wpList_nil ?_
 refine blk_n ?_
 refine r_ rfl ?_
 repeat refine w_ oCt_ rfl fr fun a fr => ?_
 first | refine e_ ?_ | refine wpList_nil ?_
 have fr := fr.spell (d := 27) rfl (congrArg (Value.int .i64) (i64_next hlt (by have h9 := hm; unfold maxLen at h9; omega)))
 exact ⟨i + 1, A5, c5, l ++ rs[i].2.2, by rw [joinR_take hlt, hl], by omega, by omega, fr.sub ⟨rfl, rfl, rfl, rfl, trivial⟩, S⟩
end Go.Proofs.YticnjkdaccacaaaGreat.Sx
end
