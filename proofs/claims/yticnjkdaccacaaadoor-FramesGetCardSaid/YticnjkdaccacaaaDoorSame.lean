/- Are two lists the same: slices.Equal, SameBytes; slices.Clone. -/
import Derived.Test.YticnjkdaccacaaaDoorSums
import Derived.Test.YticnjkdaccacaaaDoorTwinBytes
import Derived.Lib.SliceRun
import Derived.Laws.BytesArg
namespace Go.Proofs.YticnjkdaccacaaaDoor.Same
open Go.RowKit Base Own Sums

theorem take_next {a b : List Int} {k : Nat} (hl : a.length = b.length) (hk : k < a.length) (h : a.take k = b.take k) (he : a.getD k 0 = b.getD k 0) : a.take (k + 1) = b.take (k + 1) := by
  rw [List.take_succ_eq_append_getElem hk, List.take_succ_eq_append_getElem (by omega), h]
  rw [List.getD_eq_getElem?_getD, List.getD_eq_getElem?_getD, List.getElem?_eq_getElem hk, List.getElem?_eq_getElem (by omega)] at he
  simp only [Option.getD_some] at he
  rw [he]
theorem ne_of_cell {a b : List Int} {k : Nat} (he : ¬ a.getD k 0 = b.getD k 0) : decide (a = b) = false := by
  rw [decide_eq_false_iff_not]
  rintro rfl
  exact he rfl

theorem conv_str (P : Program) (w : World) (src e : TypeId) (hs : P.underlying src = some (.slice e)) (he : P.underlying e = some (.int .u8)) (A : Option Addr) (n c : Nat) (l : List Int) (hn : l.length = n) (h : Rd .u8 w A l) (dst : TypeId) (hd : P.underlying dst = some .string) :
    (convert src dst (.slice A n c)).run P w = .ok (.string (strOfNums l)) w := by
  cases A with
  | none =>
    obtain rfl := h.empty rfl
    exact run_convert_bytes_nil w src e hs he n c dst hd
  | some ad =>
    have hl : (loadCells ad n).run P w = .ok (l.map (Value.int .u8)).toArray w := by
      have := run_loadCells_list (P := P) w ad (l.map (Value.int .u8)) (fun j v hj => by
        have hjl : j < l.length := by
          rcases Nat.lt_or_ge j l.length with h | h
          · exact h
          · simp [List.getElem?_eq_none (show (l.map (Value.int .u8)).length ≤ j by simpa using h)] at hj
        obtain ⟨ad', e', _, hc⟩ := h.cell hjl
        cases e'
        rw [hc]
        simp [List.getElem?_eq_getElem hjl] at hj
        subst hj
        simp [List.getD, List.getElem?_eq_getElem hjl])
      simpa [hn] using this
    rw [run_convert_bytes_string w src dst e _ n c hs he hd, run_bytesToString w _ n c l hl, foldl_push_bytes]
    simp [strOfNums, ByteArray.empty, ByteArray.emptyWithCapacity]
    rfl
theorem str_inj : ∀ (l m : List Int), Bts l → Bts m → strOfNums l = strOfNums m → l = m := by
  intro l m hl hm h
  have h1 := congrArg (fun s : ByteArray => s.data.toList) h
  simp only [strOfNums_data] at h1
  clear h
  induction l generalizing m with
  | nil => cases m with
    | nil => rfl
    | cons y m => simp at h1
  | cons x l ih => cases m with
    | nil => simp at h1
    | cons y m =>
      simp only [List.map_cons, List.cons.injEq] at h1
      have hx := hl x (List.mem_cons_self)
      have hy := hm y (List.mem_cons_self)
      have h2 := congrArg UInt8.toNat h1.1
      rw [UInt8.toNat_ofNat', UInt8.toNat_ofNat'] at h2
      rw [ih m (fun z hz => hl z (List.mem_cons_of_mem _ hz)) (fun z hz => hm z (List.mem_cons_of_mem _ hz)) h1.2]
      congr 1
      omega
set_option maxRecDepth 100000 in
theorem sameBytes (A B : Option Addr) (ca cb : Nat) (a b : List Int) (w : World) (hla : a.length ≤ 1000000000) (hlb : b.length ≤ 1000000000) (ha : Rd .u8 w A a) (hb : Rd .u8 w B b) :
    Calls Tryd.prog 8 #[.slice A a.length ca, .slice B b.length cb] w fun e w' => e = .returned (.bool (decide (a = b))) ∧ Below w.heap.size w w' := by
  have HA := Lib.hid ha
  have HB := Lib.hid hb
  clear ha hb
  by_cases hlen : a.length = b.length
  · have hz : ((a.length : Int) == b.length) = true := by rw [beq_iff_eq]; omega
    have HL := Lib.hid hlen
    obtain ⟨n, hn⟩ : ∃ n, n = a.length := ⟨_, rfl⟩
    have HN := Lib.hid hn
    rw [← hlen, ← hn]
    rw [← hn] at hla
    clear hlen hlb hz hn
    go_enter Tryd.func8, Tryd.ntmps8
    go_wp2
    go_loopw [5] (fun i wr => ∃ k : Nat, k ≤ n ∧ i = .int .i64 k ∧ Hid (a.take k = b.take k) ∧ Hid (Below w.heap.size w wr)) (fun i _ => n - (intOf i).toNat)
    case atStart => exact ⟨0, by omega, rfl, by simp [Hid], Below.refl _ _⟩
    case round =>
      obtain ⟨k, hk, rfl, hat, hbd⟩ := hrel
      by_cases hlt : k < n
      · obtain ⟨x, rfl, hxb, hxc⟩ := (HA.out.below hbd.out).cell (j := k) (by rw [← HN.out]; exact hlt)
        obtain ⟨y, rfl, hyb, hyc⟩ := (HB.out.below hbd.out).cell (j := k) (by rw [← HL.out, ← HN.out]; exact hlt)
        by_cases he : a.getD k 0 = b.getD k 0
        · have HE := Lib.hid he
          rw [← he] at hyc
          clear he
          obtain ⟨z, hz⟩ : ∃ z, z = a.getD k 0 := ⟨_, rfl⟩
          rw [← hz] at hxc hyc
          clear hz
          go_wp2
          refine wp_region_sl [.one (0, true, some 17), .one (1, true, some 18), .one (2, true, some 19), .one (3, true, some 20), .one (4, true, some 21), .one (5, true, some 22), .one (6, true, some 23), .one (7, true, some 24), .one (8, true, some 25)]
                [.one ⟨true, some 17, (Go.Op.move (Go.Operand.tmp 0)), 22, none⟩,
                .one ⟨true, some 18, (Go.Op.move (Go.Operand.tmp 5)), 3, none⟩,
                .one ⟨true, some 19, (Go.Op.indexAddr 22 (Go.Operand.tmp 17) (Go.Operand.tmp 18)), 0, none⟩,
                .one ⟨true, some 20, (Go.Op.load 5 (Go.Operand.tmp 19)), 5, none⟩,
                .one ⟨true, some 21, (Go.Op.move (Go.Operand.tmp 1)), 22, none⟩,
                .one ⟨true, some 22, (Go.Op.move (Go.Operand.tmp 5)), 3, none⟩,
                .one ⟨true, some 23, (Go.Op.indexAddr 22 (Go.Operand.tmp 21) (Go.Operand.tmp 22)), 0, none⟩,
                .one ⟨true, some 24, (Go.Op.load 5 (Go.Operand.tmp 23)), 5, none⟩,
                .one ⟨true, some 25, (Go.Op.binOp Go.BinOp.neq 5 (Go.Operand.tmp 20) (Go.Operand.tmp 24) 5), 4, none⟩]
                (fun w' => w'.cell? (x.add k) = some (.int .u8 z) ∧ w'.cell? (y.add k) = some (.int .u8 z)) rfl (by kernel_rfl) (by kernel_rfl) ?_ ?_
          · exact ⟨hxc, hyc⟩
          (repeat (first | ((with_reducible refine sq (v := ?_) (a' := ?_) ?_ ?_ ?_); rotate_left 2; (focus (intro w' hS; go_simp; (first | done | with_reducible rfl | rfl))); (simp only [Act.put, List.setIfInBounds_toArray, List.set_cons_zero, List.set_cons_succ]; rfl)) | ((with_reducible refine sn (a' := ?_) ?_ ?_ ?_); rotate_left; (focus rfl); (simp only [Act.put, List.setIfInBounds_toArray, List.set_cons_zero, List.set_cons_succ]; rfl)) | ((with_reducible refine sf trivial (a' := ?_) ?_ ?_ ?_); rotate_left; (focus rfl); (simp only [Act.put, List.setIfInBounds_toArray, List.set_cons_zero, List.set_cons_succ]; rfl)) | ((with_reducible refine sqg (v := ?_) (a' := ?_) ?_ ?_ ?_ ?_); rotate_left 2; (focus rfl); (focus (intro w' hS; go_simp; (first | done | with_reducible rfl | rfl))); (simp only [Act.put, List.setIfInBounds_toArray, List.set_cons_zero, List.set_cons_succ]; rfl)))); (repeat ((go_bits; (first | ((with_reducible refine sq (v := ?_) (a' := ?_) ?_ ?_ ?_); rotate_left 2; (focus (intro w' hS; go_simp; (first | done | with_reducible rfl | rfl))); (simp only [Act.put, List.setIfInBounds_toArray, List.set_cons_zero, List.set_cons_succ]; rfl)) | ((with_reducible refine sn (a' := ?_) ?_ ?_ ?_); rotate_left; (focus rfl); (simp only [Act.put, List.setIfInBounds_toArray, List.set_cons_zero, List.set_cons_succ]; rfl)) | ((with_reducible refine sf trivial (a' := ?_) ?_ ?_ ?_); rotate_left; (focus rfl); (simp only [Act.put, List.setIfInBounds_toArray, List.set_cons_zero, List.set_cons_succ]; rfl)) | ((with_reducible refine sqg (v := ?_) (a' := ?_) ?_ ?_ ?_ ?_); rotate_left 2; (focus rfl); (focus (intro w' hS; go_simp; (first | done | with_reducible rfl | rfl))); (simp only [Act.put, List.setIfInBounds_toArray, List.set_cons_zero, List.set_cons_succ]; rfl)))); (repeat (first | ((with_reducible refine sq (v := ?_) (a' := ?_) ?_ ?_ ?_); rotate_left 2; (focus (intro w' hS; go_simp; (first | done | with_reducible rfl | rfl))); (simp only [Act.put, List.setIfInBounds_toArray, List.set_cons_zero, List.set_cons_succ]; rfl)) | ((with_reducible refine sn (a' := ?_) ?_ ?_ ?_); rotate_left; (focus rfl); (simp only [Act.put, List.setIfInBounds_toArray, List.set_cons_zero, List.set_cons_succ]; rfl)) | ((with_reducible refine sf trivial (a' := ?_) ?_ ?_ ?_); rotate_left; (focus rfl); (simp only [Act.put, List.setIfInBounds_toArray, List.set_cons_zero, List.set_cons_succ]; rfl)) | ((with_reducible refine sqg (v := ?_) (a' := ?_) ?_ ?_ ?_ ?_); rotate_left 2; (focus rfl); (focus (intro w' hS; go_simp; (first | done | with_reducible rfl | rfl))); (simp only [Act.put, List.setIfInBounds_toArray, List.set_cons_zero, List.set_cons_succ]; rfl)))))); (try go_bits)
          refine sl_end ?_
          go_wp2
          go_roundw
          case rel => exact ⟨k + 1, by omega, rfl, take_next HL.out (by rw [← HN.out]; exact hlt) hat.out HE.out, hbd.out.drew⟩
          case measure => simp [intOf]; omega
        · have HE := Lib.hid he
          obtain ⟨z, hz⟩ : ∃ z, z = a.getD k 0 := ⟨_, rfl⟩
          obtain ⟨z2, hz2⟩ : ∃ z, z = b.getD k 0 := ⟨_, rfl⟩
          rw [← hz, ← hz2] at he
          rw [← hz] at hxc
          rw [← hz2] at hyc
          clear hz hz2
          have hne : (z == z2) = false := by rw [beq_eq_false_iff_ne]; exact he
          clear he
          go_wp2
          refine wp_region_sl [.one (0, true, some 17), .one (1, true, some 18), .one (2, true, some 19), .one (3, true, some 20), .one (4, true, some 21), .one (5, true, some 22), .one (6, true, some 23), .one (7, true, some 24), .one (8, true, some 25)]
                [.one ⟨true, some 17, (Go.Op.move (Go.Operand.tmp 0)), 22, none⟩,
                .one ⟨true, some 18, (Go.Op.move (Go.Operand.tmp 5)), 3, none⟩,
                .one ⟨true, some 19, (Go.Op.indexAddr 22 (Go.Operand.tmp 17) (Go.Operand.tmp 18)), 0, none⟩,
                .one ⟨true, some 20, (Go.Op.load 5 (Go.Operand.tmp 19)), 5, none⟩,
                .one ⟨true, some 21, (Go.Op.move (Go.Operand.tmp 1)), 22, none⟩,
                .one ⟨true, some 22, (Go.Op.move (Go.Operand.tmp 5)), 3, none⟩,
                .one ⟨true, some 23, (Go.Op.indexAddr 22 (Go.Operand.tmp 21) (Go.Operand.tmp 22)), 0, none⟩,
                .one ⟨true, some 24, (Go.Op.load 5 (Go.Operand.tmp 23)), 5, none⟩,
                .one ⟨true, some 25, (Go.Op.binOp Go.BinOp.neq 5 (Go.Operand.tmp 20) (Go.Operand.tmp 24) 5), 4, none⟩]
                (fun w' => w'.cell? (x.add k) = some (.int .u8 z) ∧ w'.cell? (y.add k) = some (.int .u8 z2)) rfl (by kernel_rfl) (by kernel_rfl) ?_ ?_
          · exact ⟨hxc, hyc⟩
          (repeat (first | ((with_reducible refine sq (v := ?_) (a' := ?_) ?_ ?_ ?_); rotate_left 2; (focus (intro w' hS; go_simp; (first | done | with_reducible rfl | rfl))); (simp only [Act.put, List.setIfInBounds_toArray, List.set_cons_zero, List.set_cons_succ]; rfl)) | ((with_reducible refine sn (a' := ?_) ?_ ?_ ?_); rotate_left; (focus rfl); (simp only [Act.put, List.setIfInBounds_toArray, List.set_cons_zero, List.set_cons_succ]; rfl)) | ((with_reducible refine sf trivial (a' := ?_) ?_ ?_ ?_); rotate_left; (focus rfl); (simp only [Act.put, List.setIfInBounds_toArray, List.set_cons_zero, List.set_cons_succ]; rfl)) | ((with_reducible refine sqg (v := ?_) (a' := ?_) ?_ ?_ ?_ ?_); rotate_left 2; (focus rfl); (focus (intro w' hS; go_simp; (first | done | with_reducible rfl | rfl))); (simp only [Act.put, List.setIfInBounds_toArray, List.set_cons_zero, List.set_cons_succ]; rfl)))); (repeat ((go_bits; (first | ((with_reducible refine sq (v := ?_) (a' := ?_) ?_ ?_ ?_); rotate_left 2; (focus (intro w' hS; go_simp; (first | done | with_reducible rfl | rfl))); (simp only [Act.put, List.setIfInBounds_toArray, List.set_cons_zero, List.set_cons_succ]; rfl)) | ((with_reducible refine sn (a' := ?_) ?_ ?_ ?_); rotate_left; (focus rfl); (simp only [Act.put, List.setIfInBounds_toArray, List.set_cons_zero, List.set_cons_succ]; rfl)) | ((with_reducible refine sf trivial (a' := ?_) ?_ ?_ ?_); rotate_left; (focus rfl); (simp only [Act.put, List.setIfInBounds_toArray, List.set_cons_zero, List.set_cons_succ]; rfl)) | ((with_reducible refine sqg (v := ?_) (a' := ?_) ?_ ?_ ?_ ?_); rotate_left 2; (focus rfl); (focus (intro w' hS; go_simp; (first | done | with_reducible rfl | rfl))); (simp only [Act.put, List.setIfInBounds_toArray, List.set_cons_zero, List.set_cons_succ]; rfl)))); (repeat (first | ((with_reducible refine sq (v := ?_) (a' := ?_) ?_ ?_ ?_); rotate_left 2; (focus (intro w' hS; go_simp; (first | done | with_reducible rfl | rfl))); (simp only [Act.put, List.setIfInBounds_toArray, List.set_cons_zero, List.set_cons_succ]; rfl)) | ((with_reducible refine sn (a' := ?_) ?_ ?_ ?_); rotate_left; (focus rfl); (simp only [Act.put, List.setIfInBounds_toArray, List.set_cons_zero, List.set_cons_succ]; rfl)) | ((with_reducible refine sf trivial (a' := ?_) ?_ ?_ ?_); rotate_left; (focus rfl); (simp only [Act.put, List.setIfInBounds_toArray, List.set_cons_zero, List.set_cons_succ]; rfl)) | ((with_reducible refine sqg (v := ?_) (a' := ?_) ?_ ?_ ?_ ?_); rotate_left 2; (focus rfl); (focus (intro w' hS; go_simp; (first | done | with_reducible rfl | rfl))); (simp only [Act.put, List.setIfInBounds_toArray, List.set_cons_zero, List.set_cons_succ]; rfl)))))); (try go_bits)
          refine sl_end ?_
          go_wp2
          go_ret
          exact ⟨by rw [ne_of_cell HE.out]; rfl, hbd.out.drew⟩
      · obtain rfl : k = n := by omega
        go_wp2
        go_ret
        have e : a = b := by
          have h := hat.out
          rw [HN.out, List.take_length, HL.out, List.take_length] at h
          exact h
        exact ⟨by rw [decide_eq_true e]; rfl, hbd.out⟩
  · have hz : ((a.length : Int) == b.length) = false := by rw [beq_eq_false_iff_ne]; omega
    have e : decide (a = b) = false := by rw [decide_eq_false_iff_not]; rintro rfl; exact hlen rfl
    rw [e]
    go_enter Tryd.func8, Tryd.ntmps8
    go_wp2
    go_ret
    exact ⟨rfl, Below.refl _ _⟩
theorem sameBytes_m (A B : Option Addr) (n m ca cb : Nat) (a b : List Int) (w : World) (hn : a.length = n) (hm : b.length = m) (hla : n ≤ 1000000000) (hlb : m ≤ 1000000000) (ha : Rd .u8 w A a) (hb : Rd .u8 w B b) :
    Calls Tryd.prog 8 #[.slice A n ca, .slice B m cb] w fun e w' => e = .returned (.bool (decide (a = b))) ∧ Below w.heap.size w w' := by
  subst hn hm
  exact sameBytes A B ca cb a b w hla hlb ha hb
set_option maxRecDepth 100000 in
theorem equal (A B : Option Addr) (ca cb : Nat) (a b : List Int) (w : World) (hla : a.length ≤ 1000000000) (hlb : b.length ≤ 1000000000) (ha : Rd .u8 w A a) (hb : Rd .u8 w B b) :
    Calls Tryd.prog 58 #[.slice A a.length ca, .slice B b.length cb] w fun e w' => e = .returned (.bool (decide (a = b))) ∧ Below w.heap.size w w' := by
  have HA := Lib.hid ha
  have HB := Lib.hid hb
  clear ha hb
  by_cases hlen : a.length = b.length
  · have hz : ((a.length : Int) == b.length) = true := by rw [beq_iff_eq]; omega
    have HL := Lib.hid hlen
    obtain ⟨n, hn⟩ : ∃ n, n = a.length := ⟨_, rfl⟩
    have HN := Lib.hid hn
    rw [← hlen, ← hn]
    rw [← hn] at hla
    clear hlen hlb hz hn
    go_enter Tryd.func58, Tryd.ntmps58
    go_wp2
    go_loopw [13] (fun i wr => ∃ k : Nat, k ≤ n ∧ i = .int .i64 k ∧ Hid (a.take k = b.take k) ∧ Hid (Below w.heap.size w wr)) (fun i _ => n - (intOf i).toNat)
    case atStart => exact ⟨0, by omega, rfl, by simp [Hid], Below.refl _ _⟩
    case round =>
      obtain ⟨k, hk, rfl, hat, hbd⟩ := hrel
      by_cases hlt : k < n
      · obtain ⟨x, rfl, hxb, hxc⟩ := (HA.out.below hbd.out).cell (j := k) (by rw [← HN.out]; exact hlt)
        obtain ⟨y, rfl, hyb, hyc⟩ := (HB.out.below hbd.out).cell (j := k) (by rw [← HL.out, ← HN.out]; exact hlt)
        by_cases he : a.getD k 0 = b.getD k 0
        · have HE := Lib.hid he
          rw [← he] at hyc
          clear he
          obtain ⟨z, hz⟩ : ∃ z, z = a.getD k 0 := ⟨_, rfl⟩
          rw [← hz] at hxc hyc
          clear hz
          go_wp2
          refine wp_region_sl [.one (0, true, some 16), .one (1, true, some 17), .one (2, true, some 18), .one (3, true, some 19), .one (4, true, some 20), .one (5, true, some 21), .one (6, true, some 22), .one (7, true, some 23), .one (8, true, some 24)]
                [.one ⟨true, some 16, (Go.Op.move (Go.Operand.tmp 0)), 22, none⟩,
                .one ⟨true, some 17, (Go.Op.move (Go.Operand.tmp 5)), 3, none⟩,
                .one ⟨true, some 18, (Go.Op.indexAddr 22 (Go.Operand.tmp 16) (Go.Operand.tmp 17)), 0, none⟩,
                .one ⟨true, some 19, (Go.Op.load 5 (Go.Operand.tmp 18)), 5, none⟩,
                .one ⟨true, some 20, (Go.Op.move (Go.Operand.tmp 1)), 22, none⟩,
                .one ⟨true, some 21, (Go.Op.move (Go.Operand.tmp 5)), 3, none⟩,
                .one ⟨true, some 22, (Go.Op.indexAddr 22 (Go.Operand.tmp 20) (Go.Operand.tmp 21)), 0, none⟩,
                .one ⟨true, some 23, (Go.Op.load 5 (Go.Operand.tmp 22)), 5, none⟩,
                .one ⟨true, some 24, (Go.Op.binOp Go.BinOp.neq 5 (Go.Operand.tmp 19) (Go.Operand.tmp 23) 5), 4, none⟩]
                (fun w' => w'.cell? (x.add k) = some (.int .u8 z) ∧ w'.cell? (y.add k) = some (.int .u8 z)) rfl (by kernel_rfl) (by kernel_rfl) ?_ ?_
          · exact ⟨hxc, hyc⟩
          (repeat (first | ((with_reducible refine sq (v := ?_) (a' := ?_) ?_ ?_ ?_); rotate_left 2; (focus (intro w' hS; go_simp; (first | done | with_reducible rfl | rfl))); (simp only [Act.put, List.setIfInBounds_toArray, List.set_cons_zero, List.set_cons_succ]; rfl)) | ((with_reducible refine sn (a' := ?_) ?_ ?_ ?_); rotate_left; (focus rfl); (simp only [Act.put, List.setIfInBounds_toArray, List.set_cons_zero, List.set_cons_succ]; rfl)) | ((with_reducible refine sf trivial (a' := ?_) ?_ ?_ ?_); rotate_left; (focus rfl); (simp only [Act.put, List.setIfInBounds_toArray, List.set_cons_zero, List.set_cons_succ]; rfl)) | ((with_reducible refine sqg (v := ?_) (a' := ?_) ?_ ?_ ?_ ?_); rotate_left 2; (focus rfl); (focus (intro w' hS; go_simp; (first | done | with_reducible rfl | rfl))); (simp only [Act.put, List.setIfInBounds_toArray, List.set_cons_zero, List.set_cons_succ]; rfl)))); (repeat ((go_bits; (first | ((with_reducible refine sq (v := ?_) (a' := ?_) ?_ ?_ ?_); rotate_left 2; (focus (intro w' hS; go_simp; (first | done | with_reducible rfl | rfl))); (simp only [Act.put, List.setIfInBounds_toArray, List.set_cons_zero, List.set_cons_succ]; rfl)) | ((with_reducible refine sn (a' := ?_) ?_ ?_ ?_); rotate_left; (focus rfl); (simp only [Act.put, List.setIfInBounds_toArray, List.set_cons_zero, List.set_cons_succ]; rfl)) | ((with_reducible refine sf trivial (a' := ?_) ?_ ?_ ?_); rotate_left; (focus rfl); (simp only [Act.put, List.setIfInBounds_toArray, List.set_cons_zero, List.set_cons_succ]; rfl)) | ((with_reducible refine sqg (v := ?_) (a' := ?_) ?_ ?_ ?_ ?_); rotate_left 2; (focus rfl); (focus (intro w' hS; go_simp; (first | done | with_reducible rfl | rfl))); (simp only [Act.put, List.setIfInBounds_toArray, List.set_cons_zero, List.set_cons_succ]; rfl)))); (repeat (first | ((with_reducible refine sq (v := ?_) (a' := ?_) ?_ ?_ ?_); rotate_left 2; (focus (intro w' hS; go_simp; (first | done | with_reducible rfl | rfl))); (simp only [Act.put, List.setIfInBounds_toArray, List.set_cons_zero, List.set_cons_succ]; rfl)) | ((with_reducible refine sn (a' := ?_) ?_ ?_ ?_); rotate_left; (focus rfl); (simp only [Act.put, List.setIfInBounds_toArray, List.set_cons_zero, List.set_cons_succ]; rfl)) | ((with_reducible refine sf trivial (a' := ?_) ?_ ?_ ?_); rotate_left; (focus rfl); (simp only [Act.put, List.setIfInBounds_toArray, List.set_cons_zero, List.set_cons_succ]; rfl)) | ((with_reducible refine sqg (v := ?_) (a' := ?_) ?_ ?_ ?_ ?_); rotate_left 2; (focus rfl); (focus (intro w' hS; go_simp; (first | done | with_reducible rfl | rfl))); (simp only [Act.put, List.setIfInBounds_toArray, List.set_cons_zero, List.set_cons_succ]; rfl)))))); (try go_bits)
          refine sl_end ?_
          go_wp2
          go_roundw
          case rel => exact ⟨k + 1, by omega, rfl, take_next HL.out (by rw [← HN.out]; exact hlt) hat.out HE.out, hbd.out.drew⟩
          case measure => simp [intOf]; omega
        · have HE := Lib.hid he
          obtain ⟨z, hz⟩ : ∃ z, z = a.getD k 0 := ⟨_, rfl⟩
          obtain ⟨z2, hz2⟩ : ∃ z, z = b.getD k 0 := ⟨_, rfl⟩
          rw [← hz, ← hz2] at he
          rw [← hz] at hxc
          rw [← hz2] at hyc
          clear hz hz2
          have hne : (z == z2) = false := by rw [beq_eq_false_iff_ne]; exact he
          clear he
          go_wp2
          refine wp_region_sl [.one (0, true, some 16), .one (1, true, some 17), .one (2, true, some 18), .one (3, true, some 19), .one (4, true, some 20), .one (5, true, some 21), .one (6, true, some 22), .one (7, true, some 23), .one (8, true, some 24)]
                [.one ⟨true, some 16, (Go.Op.move (Go.Operand.tmp 0)), 22, none⟩,
                .one ⟨true, some 17, (Go.Op.move (Go.Operand.tmp 5)), 3, none⟩,
                .one ⟨true, some 18, (Go.Op.indexAddr 22 (Go.Operand.tmp 16) (Go.Operand.tmp 17)), 0, none⟩,
                .one ⟨true, some 19, (Go.Op.load 5 (Go.Operand.tmp 18)), 5, none⟩,
                .one ⟨true, some 20, (Go.Op.move (Go.Operand.tmp 1)), 22, none⟩,
                .one ⟨true, some 21, (Go.Op.move (Go.Operand.tmp 5)), 3, none⟩,
                .one ⟨true, some 22, (Go.Op.indexAddr 22 (Go.Operand.tmp 20) (Go.Operand.tmp 21)), 0, none⟩,
                .one ⟨true, some 23, (Go.Op.load 5 (Go.Operand.tmp 22)), 5, none⟩,
                .one ⟨true, some 24, (Go.Op.binOp Go.BinOp.neq 5 (Go.Operand.tmp 19) (Go.Operand.tmp 23) 5), 4, none⟩]
                (fun w' => w'.cell? (x.add k) = some (.int .u8 z) ∧ w'.cell? (y.add k) = some (.int .u8 z2)) rfl (by kernel_rfl) (by kernel_rfl) ?_ ?_
          · exact ⟨hxc, hyc⟩
          (repeat (first | ((with_reducible refine sq (v := ?_) (a' := ?_) ?_ ?_ ?_); rotate_left 2; (focus (intro w' hS; go_simp; (first | done | with_reducible rfl | rfl))); (simp only [Act.put, List.setIfInBounds_toArray, List.set_cons_zero, List.set_cons_succ]; rfl)) | ((with_reducible refine sn (a' := ?_) ?_ ?_ ?_); rotate_left; (focus rfl); (simp only [Act.put, List.setIfInBounds_toArray, List.set_cons_zero, List.set_cons_succ]; rfl)) | ((with_reducible refine sf trivial (a' := ?_) ?_ ?_ ?_); rotate_left; (focus rfl); (simp only [Act.put, List.setIfInBounds_toArray, List.set_cons_zero, List.set_cons_succ]; rfl)) | ((with_reducible refine sqg (v := ?_) (a' := ?_) ?_ ?_ ?_ ?_); rotate_left 2; (focus rfl); (focus (intro w' hS; go_simp; (first | done | with_reducible rfl | rfl))); (simp only [Act.put, List.setIfInBounds_toArray, List.set_cons_zero, List.set_cons_succ]; rfl)))); (repeat ((go_bits; (first | ((with_reducible refine sq (v := ?_) (a' := ?_) ?_ ?_ ?_); rotate_left 2; (focus (intro w' hS; go_simp; (first | done | with_reducible rfl | rfl))); (simp only [Act.put, List.setIfInBounds_toArray, List.set_cons_zero, List.set_cons_succ]; rfl)) | ((with_reducible refine sn (a' := ?_) ?_ ?_ ?_); rotate_left; (focus rfl); (simp only [Act.put, List.setIfInBounds_toArray, List.set_cons_zero, List.set_cons_succ]; rfl)) | ((with_reducible refine sf trivial (a' := ?_) ?_ ?_ ?_); rotate_left; (focus rfl); (simp only [Act.put, List.setIfInBounds_toArray, List.set_cons_zero, List.set_cons_succ]; rfl)) | ((with_reducible refine sqg (v := ?_) (a' := ?_) ?_ ?_ ?_ ?_); rotate_left 2; (focus rfl); (focus (intro w' hS; go_simp; (first | done | with_reducible rfl | rfl))); (simp only [Act.put, List.setIfInBounds_toArray, List.set_cons_zero, List.set_cons_succ]; rfl)))); (repeat (first | ((with_reducible refine sq (v := ?_) (a' := ?_) ?_ ?_ ?_); rotate_left 2; (focus (intro w' hS; go_simp; (first | done | with_reducible rfl | rfl))); (simp only [Act.put, List.setIfInBounds_toArray, List.set_cons_zero, List.set_cons_succ]; rfl)) | ((with_reducible refine sn (a' := ?_) ?_ ?_ ?_); rotate_left; (focus rfl); (simp only [Act.put, List.setIfInBounds_toArray, List.set_cons_zero, List.set_cons_succ]; rfl)) | ((with_reducible refine sf trivial (a' := ?_) ?_ ?_ ?_); rotate_left; (focus rfl); (simp only [Act.put, List.setIfInBounds_toArray, List.set_cons_zero, List.set_cons_succ]; rfl)) | ((with_reducible refine sqg (v := ?_) (a' := ?_) ?_ ?_ ?_ ?_); rotate_left 2; (focus rfl); (focus (intro w' hS; go_simp; (first | done | with_reducible rfl | rfl))); (simp only [Act.put, List.setIfInBounds_toArray, List.set_cons_zero, List.set_cons_succ]; rfl)))))); (try go_bits)
          refine sl_end ?_
          go_wp2
          go_ret
          exact ⟨by rw [ne_of_cell HE.out]; rfl, hbd.out.drew⟩
      · obtain rfl : k = n := by omega
        go_wp2
        go_ret
        have e : a = b := by
          have h := hat.out
          rw [HN.out, List.take_length, HL.out, List.take_length] at h
          exact h
        exact ⟨by rw [decide_eq_true e]; rfl, hbd.out⟩
  · have hz : ((a.length : Int) == b.length) = false := by rw [beq_eq_false_iff_ne]; omega
    have e : decide (a = b) = false := by rw [decide_eq_false_iff_not]; rintro rfl; exact hlen rfl
    rw [e]
    go_enter Tryd.func58, Tryd.ntmps58
    go_wp2
    go_ret
    exact ⟨rfl, Below.refl _ _⟩
theorem equal_m (A B : Option Addr) (n m ca cb : Nat) (a b : List Int) (w : World) (hn : a.length = n) (hm : b.length = m) (hla : n ≤ 1000000000) (hlb : m ≤ 1000000000) (ha : Rd .u8 w A a) (hb : Rd .u8 w B b) :
    Calls Tryd.prog 58 #[.slice A n ca, .slice B m cb] w fun e w' => e = .returned (.bool (decide (a = b))) ∧ Below w.heap.size w w' := by
  subst hn hm
  exact equal A B ca cb a b w hla hlb ha hb
/-- slices.Clone. -/
theorem clone (A : Option Addr) (n c : Nat) (l : List Int) (w : World) (hn : l.length = n) (hl : n ≤ 1000000000) (hA : A ≠ none ∨ n = 0 ∧ c = 0) (hr : Rd .u8 w A l) :
    Calls Tryd.prog 57 #[.slice A n c] w fun e w' => ∃ v, e = .returned v ∧ OwnI .u8 w' w.heap.size 5 v l ∧ Below w.heap.size w w' := by
  have hq : ∀ (W : World) (a : Option Addr) (n c n' c' : Nat), (binOp .eql 22 (.slice a n c) (.slice none n' c')).run Tryd.prog W = .ok (.bool a.isNone) W := fun W a n c n' c' => Lib.run_eql_slice_nil W _ _ a n c n' c' Tryd.underlying22
  cases A with
  | none =>
    obtain rfl := hr.empty rfl
    obtain ⟨rfl, rfl⟩ : n = 0 ∧ c = 0 := hA.elim (fun h => absurd rfl h) id
    go_enter Tryd.func57, Tryd.ntmps57
    go_wp2
    go_ret
    exact ⟨_, rfl, OwnI.nil _ _ _ _, Below.refl _ _⟩
  | some ad =>
    have HR := Lib.hid hr
    clear hr
    go_enter Tryd.func57, Tryd.ntmps57
    have H0 := Lib.hid (show Below w.heap.size w (w.alloc (.cells #[] 5)) ∧ OwnI .u8 (w.alloc (.cells #[] 5)) w.heap.size 5 (.slice (some ⟨w.heap.size, 0, none⟩) 0 0) [] from
      ⟨(Below.refl _ _).alloc (Nat.le_refl _) _, OwnI.made w .u8 [] 5 #[] rfl (Nat.le_refl _) (Nat.zero_le _)⟩)
    go_wp2_with (at_builtin; refine ap_list rfl Sums.tyB H0.out.1 H0.out.2 (HR.out.below H0.out.1) (fun e => by cases e) (by simp; omega) (.tmp 5) (.tmp 6) n c rfl rfl rfl hn ?_; intro v2 w2 own2 bd2 _ _; have H2 := Lib.hid (And.intro own2 bd2); clear own2 bd2)
    go_ret
    refine ⟨_, rfl, ?_, H2.out.2⟩
    have h := H2.out.1
    rwa [List.nil_append] at h
end Go.Proofs.YticnjkdaccacaaaDoor.Same
