/- SumsFour walked. -/
import Derived.Test.YtdhogkenmpgklaaAlive03
import Derived.Test.YtdhogkenmpgklaaCrc2
import Derived.Test.YtdhogkenmpgklaaRdr
import Derived.Laws.BytesArg
namespace Go.Proofs.Ytdhogkenmpgklaa.LawFour
open Go.RowKit Crc Sums Base Alive Own

theorem conv_str (P : Program) (w : World) (src e : TypeId) (hs : P.underlying src = some (.slice e)) (he : P.underlying e = some (.int .u8)) (A : Option Addr) (n c : Nat) (l : List Int) (hn : l.length = n) (h : Rd .u8 w A l) (dst : TypeId) (hd : P.underlying dst = some .string) :
    (convert src dst (.slice A n c)).run P w = .ok (.string (strOfNums l)) w := by
  cases A with
  | none =>
    obtain rfl := h.empty rfl
    exact run_convert_bytes_nil w src e hs he n c dst hd
  | some ad =>
    have hl : (loadCells ad n).run P w = .ok (l.map (Value.int .u8)).toArray w := by
      have := run_loadCells_list (P := P) w ad (l.map (Value.int .u8)) (fun j v hj => by
        have hjl : j < l.length := by
          rcases Nat.lt_or_ge j l.length with h | h
          · exact h
          · simp [List.getElem?_eq_none (show (l.map (Value.int .u8)).length ≤ j by simpa using h)] at hj
        obtain ⟨ad', e', _, hc⟩ := h.cell hjl
        cases e'
        rw [hc]
        simp [List.getElem?_eq_getElem hjl] at hj
        subst hj
        simp [List.getD, List.getElem?_eq_getElem hjl])
      simpa [hn] using this
    rw [run_convert_bytes_string w src dst e _ n c hs he hd, run_bytesToString w _ n c l hl, foldl_push_bytes]
    simp [strOfNums, ByteArray.empty, ByteArray.emptyWithCapacity]
    rfl
theorem str_inj : ∀ (l m : List Int), Bts l → Bts m → strOfNums l = strOfNums m → l = m := by
  intro l m hl hm h
  have h1 := congrArg (fun s : ByteArray => s.data.toList) h
  simp only [strOfNums_data] at h1
  clear h
  induction l generalizing m with
  | nil => cases m with
    | nil => rfl
    | cons y m => simp at h1
  | cons x l ih => cases m with
    | nil => simp at h1
    | cons y m =>
      simp only [List.map_cons, List.cons.injEq] at h1
      have hx := hl x (List.mem_cons_self)
      have hy := hm y (List.mem_cons_self)
      have h2 := congrArg UInt8.toNat h1.1
      rw [UInt8.toNat_ofNat', UInt8.toNat_ofNat'] at h2
      rw [ih m (fun z hz => hl z (List.mem_cons_of_mem _ hz)) (fun z hz => hm z (List.mem_cons_of_mem _ hz)) h1.2]
      congr 1
      omega
theorem cells_of {w : World} {cs : Array Value} {x : List (List Int)} (h : (Rdr.arr 2 (Rdr.arr 4 (Rdr.int .u8))).R w cs.toList x) :
    ∃ p q : List Int, p.length = 4 ∧ q.length = 4 ∧ Bts p ∧ Bts q ∧ cs = ((p ++ q).map (Value.int .u8)).toArray := by
  obtain ⟨h1, h2, h3⟩ := h
  match x, h2, h3 with
  | [p, q], _, h3 =>
    obtain ⟨l1, e1, b1⟩ := Rdr.arr_int (h3 0 p rfl)
    obtain ⟨l2, e2, b2⟩ := Rdr.arr_int (h3 1 q rfl)
    have h1' : cs.toList.length = 8 := h1
    refine ⟨p, q, l1, l2, fun z hz => by have := bounds_u8 (b1 z hz); omega, fun z hz => by have := bounds_u8 (b2 z hz); omega, ?_⟩
    rw [List.map_append, ← e1, ← e2]
    have e3 : cs.toList = (cs.toList.drop (0 * 4)).take 4 ++ (cs.toList.drop (1 * 4)).take 4 := by
      rw [List.take_of_length_le (l := cs.toList.drop (1 * 4)) (by simp at h1' ⊢; omega)]
      simp
    exact Array.toList_inj.1 e3

set_option maxRecDepth 100000 in
theorem law (B : Option Addr) (cb : Nat) (b : List Int) (cs : Array Value) (p q : List Int) (k : Nat) (n : Int) (w : World) (hl : b.length ≤ 9223372036854775807) (hbb : Bts b) (hr : Rd .u8 w B b) (hp : p.length = 4) (hq : q.length = 4) (hbp : Bts p) (hbq : Bts q)
    (hk : k ≤ 4) (hn : n.tmod 5 = (k : Int)) (hcs : cs = ((p ++ q).map (Value.int .u8)).toArray) :
    Calls Try.prog 9 #[.slice B b.length cb, .agg cs, .int .u8 n] w fun e w' => e = .returned (.bool true) ∧ Below w.heap.size w w' := by
  have HP := Lib.hid (And.intro hp (And.intro hq (And.intro hbp (And.intro hbq hcs))))
  have HR := Lib.hid hr
  have HB := Lib.hid hbb
  clear hp hq hbp hbq hcs hr hbb
  have hb0 : Below w.heap.size w (w.alloc (.cells cs 40)) := (Below.refl _ _).alloc (Nat.le_refl _) _
  have HB0 := Lib.hid hb0
  clear hb0
  by_cases hbig : 100000 < b.length
  · go_enter Try.func9, Try.ntmps9
    go_wp2_with fail
    refine (alive_any _).mono ?_
    rintro e w1 ⟨rfl, hb1⟩
    have h1 := HB0.out.trans (below_weak HB0.out.size hb1)
    clear hb1
    go_wp2_with fail
    refine (alive_any _).mono ?_
    rintro e w2 ⟨rfl, hb2⟩
    go_wp2
    go_ret
    exact ⟨rfl, h1.trans (below_weak h1.size hb2)⟩
  · go_enter Try.func9, Try.ntmps9
    go_wp2_with fail
    refine (alive_any _).mono ?_
    rintro e w1 ⟨rfl, hb1⟩
    have h1 := HB0.out.trans (below_weak HB0.out.size hb1)
    have hx : ∀ W, Below w1.heap.size w1 W → Rd .u8 W (some ⟨w.heap.size, 0, none⟩) (p.take k) ∧ Rd .u8 W (some ⟨w.heap.size, 4, none⟩) (q.take k) := by
      have hR := Rd.lit w .u8 (p ++ q) cs 40 (0, 0) HP.out.2.2.2.2
      intro W hW
      have hb2 : Below (w.heap.size + 1) (w.alloc (.cells cs 40)) W := by
        have e : (w.alloc (.cells cs 40)).heap.size = w.heap.size + 1 := by simp
        rw [← e]
        exact hb1.trans (below_weak hb1.size hW)
      refine ⟨?_, ?_⟩
      · have h2 := (hR.take k).mem (B := w.heap.size + 1) (fun ad e => by injection e with e; subst e; exact Nat.lt_succ_self _) hb2
        rwa [List.take_append_of_le_length (by rw [HP.out.1]; exact hk)] at h2
      · have h2 := ((hR.drop (n := 4) (c := 8) (by rw [List.length_append, HP.out.1, HP.out.2.1]; omega)).take k).mem (B := w.heap.size + 1) (fun ad e => by unfold dropA at e; rw [if_neg (by decide)] at e; injection e with e; subst e; exact Nat.lt_succ_self _) hb2
        rw [← HP.out.1, List.drop_left, HP.out.1] at h2
        exact h2
    have H1 := Lib.hid (And.intro h1 hx)
    clear h1 hb1 hx
    go_wp2_with fail
    refine (of_any B cb b w1 (by omega) HB.out (HR.out.below H1.out.1)).mono ?_
    rintro e w2 ⟨rfl, hn2⟩
    have hb2 := H1.out.1.trans (below_weak H1.out.1.size hn2)
    have H2 := Lib.hid (And.intro hb2 hn2)
    clear hb2 hn2
    have HL := Lib.hid (show (p.take k).length = k ∧ (q.take k).length = k by rw [List.length_take, List.length_take, HP.out.1, HP.out.2.1]; omega)
    have hk4 : (k : Int) ≤ 4 := by omega
    have hk5 : (k : Int) ≤ (Try.prog.arrayLen 39 : Int) := by rw [show Try.prog.arrayLen 39 = 4 from by kernel_rfl]; exact hk4
    have hk0 : 0 ≤ (k : Int) := by omega
    go_wp2
    refine wp_region_sl [(0, true, some 30), (1, true, some 31), (3, true, some 33), (4, true, some 34), (7, true, some 37), (8, true, some 38), (9, true, some 39), (10, true, some 40), (11, true, some 41), (2, false, some 32), (5, false, some 35), (6, true, some 36), (12, true, some 42), (13, true, some 6)]
                [⟨true, some 30, (Go.Op.move (Go.Operand.tmp 8)), 23, none⟩,
                ⟨true, some 31, (Go.Op.move (Go.Operand.tmp 9)), 22, none⟩,
                ⟨true, some 33, (Go.Op.move (Go.Operand.tmp 8)), 23, none⟩,
                ⟨true, some 34, (Go.Op.move (Go.Operand.tmp 10)), 22, none⟩,
                ⟨true, some 37, (Go.Op.move (Go.Operand.tmp 9)), 22, none⟩,
                ⟨true, some 38, (Go.Op.convert 22 9 (Go.Operand.tmp 37)), 9, none⟩,
                ⟨true, some 39, (Go.Op.move (Go.Operand.tmp 10)), 22, none⟩,
                ⟨true, some 40, (Go.Op.convert 22 9 (Go.Operand.tmp 39)), 9, none⟩,
                ⟨true, some 41, (Go.Op.binOp Go.BinOp.eql 9 (Go.Operand.tmp 38) (Go.Operand.tmp 40) 9), 4, none⟩,
                ⟨false, some 32, (Go.Op.call { callee := (Go.Callee.value (Go.Operand.func 13)), args := #[(Go.Operand.tmp 30), (Go.Operand.tmp 31)], argTypes := #[23, 22] }), 23, none⟩,
                ⟨false, some 35, (Go.Op.call { callee := (Go.Callee.value (Go.Operand.func 13)), args := #[(Go.Operand.tmp 33), (Go.Operand.tmp 34)], argTypes := #[23, 22] }), 23, none⟩,
                ⟨true, some 36, (Go.Op.binOp Go.BinOp.eql 23 (Go.Operand.tmp 32) (Go.Operand.tmp 35) 23), 4, none⟩,
                ⟨true, some 42, (Go.Op.binOp Go.BinOp.eql 4 (Go.Operand.tmp 36) (Go.Operand.tmp 41) 4), 4, none⟩,
                ⟨true, some 6, (Go.Op.assign (Go.Operand.tmp 42)), 4, none⟩]
                (fun w' => Below w1.heap.size w1 w') rfl (by kernel_rfl) (by kernel_rfl) ?_ ?_
    · exact H2.out.2.drew
    repeat (first | ((with_reducible refine sq (v := ?_) (a' := ?_) ?_ ?_ ?_); rotate_left 2; (focus (intro w' hS; go_simp; (first | done | with_reducible rfl | rfl))); (simp only [Act.put, List.setIfInBounds_toArray, List.set_cons_zero, List.set_cons_succ]; rfl)) | ((with_reducible refine sn (a' := ?_) ?_ ?_ ?_); rotate_left; (focus rfl); (simp only [Act.put, List.setIfInBounds_toArray, List.set_cons_zero, List.set_cons_succ]; rfl)) | ((with_reducible refine sf trivial (a' := ?_) ?_ ?_ ?_); rotate_left; (focus rfl); (simp only [Act.put, List.setIfInBounds_toArray, List.set_cons_zero, List.set_cons_succ]; rfl)) | ((with_reducible refine sqg (v := ?_) (a' := ?_) ?_ ?_ ?_ ?_); rotate_left 2; (focus rfl); (focus (intro w' hS; go_simp; (first | done | with_reducible rfl | rfl))); (simp only [Act.put, List.setIfInBounds_toArray, List.set_cons_zero, List.set_cons_succ]; rfl)))
    refine sq (v := .string (strOfNums (p.take k))) (a' := ?_) (fun w' hS => ?_) ?_ ?_
    rotate_left 1
    · go_simp
      rw [conv_str Try.prog w' _ _ Try.underlying22 Try.underlying5 _ _ _ _ HL.out.1 (H1.out.2 w' hS).1 _ Try.underlying9]
      rfl
    · simp only [Act.put, List.setIfInBounds_toArray, List.set_cons_zero, List.set_cons_succ]; rfl
    repeat (first | ((with_reducible refine sq (v := ?_) (a' := ?_) ?_ ?_ ?_); rotate_left 2; (focus (intro w' hS; go_simp; (first | done | with_reducible rfl | rfl))); (simp only [Act.put, List.setIfInBounds_toArray, List.set_cons_zero, List.set_cons_succ]; rfl)) | ((with_reducible refine sn (a' := ?_) ?_ ?_ ?_); rotate_left; (focus rfl); (simp only [Act.put, List.setIfInBounds_toArray, List.set_cons_zero, List.set_cons_succ]; rfl)) | ((with_reducible refine sf trivial (a' := ?_) ?_ ?_ ?_); rotate_left; (focus rfl); (simp only [Act.put, List.setIfInBounds_toArray, List.set_cons_zero, List.set_cons_succ]; rfl)) | ((with_reducible refine sqg (v := ?_) (a' := ?_) ?_ ?_ ?_ ?_); rotate_left 2; (focus rfl); (focus (intro w' hS; go_simp; (first | done | with_reducible rfl | rfl))); (simp only [Act.put, List.setIfInBounds_toArray, List.set_cons_zero, List.set_cons_succ]; rfl)))
    refine sq (v := .string (strOfNums (q.take k))) (a' := ?_) (fun w' hS => ?_) ?_ ?_
    rotate_left 1
    · go_simp
      rw [conv_str Try.prog w' _ _ Try.underlying22 Try.underlying5 _ _ _ _ HL.out.2 (H1.out.2 w' hS).2 _ Try.underlying9]
      rfl
    · simp only [Act.put, List.setIfInBounds_toArray, List.set_cons_zero, List.set_cons_succ]; rfl
    repeat (first | ((with_reducible refine sq (v := ?_) (a' := ?_) ?_ ?_ ?_); rotate_left 2; (focus (intro w' hS; go_simp; (first | done | with_reducible rfl | rfl))); (simp only [Act.put, List.setIfInBounds_toArray, List.set_cons_zero, List.set_cons_succ]; rfl)) | ((with_reducible refine sn (a' := ?_) ?_ ?_ ?_); rotate_left; (focus rfl); (simp only [Act.put, List.setIfInBounds_toArray, List.set_cons_zero, List.set_cons_succ]; rfl)) | ((with_reducible refine sf trivial (a' := ?_) ?_ ?_ ?_); rotate_left; (focus rfl); (simp only [Act.put, List.setIfInBounds_toArray, List.set_cons_zero, List.set_cons_succ]; rfl)) | ((with_reducible refine sqg (v := ?_) (a' := ?_) ?_ ?_ ?_ ?_); rotate_left 2; (focus rfl); (focus (intro w' hS; go_simp; (first | done | with_reducible rfl | rfl))); (simp only [Act.put, List.setIfInBounds_toArray, List.set_cons_zero, List.set_cons_succ]; rfl)))
    first | ((with_reducible refine sc 13 #[.int .u32 (num (on 0#32 b)), .slice (some ⟨w.heap.size, 0, none⟩) k 4] ?_ ?_); (focus (first | rfl | (go_simp; done) | (go_simp; rfl)))) | ((with_reducible refine scg 13 #[.int .u32 (num (on 0#32 b)), .slice (some ⟨w.heap.size, 0, none⟩) k 4] ?_ ?_ ?_); (focus rfl); (focus (first | rfl | (go_simp; done) | (go_simp; rfl))))
    refine (on_from H2.out.2.drew (on 0#32 b) _ 4 k (p.take k) HL.out.1 (by omega) (fun x hx => HP.out.2.2.1 x (List.mem_of_mem_take hx)) (H1.out.2 _ (Below.refl _ _)).1).mono ?_
    rintro e w3 ⟨rfl, hb3⟩
    have H3 := Lib.hid hb3
    refine ⟨_, rfl, hb3, fun a' ha => ?_⟩
    clear hb3
    simp only [Act.put, List.setIfInBounds_toArray, List.set_cons_zero, List.set_cons_succ] at ha
    subst ha
    repeat (first | ((with_reducible refine sq (v := ?_) (a' := ?_) ?_ ?_ ?_); rotate_left 2; (focus (intro w' hS; go_simp; (first | done | with_reducible rfl | rfl))); (simp only [Act.put, List.setIfInBounds_toArray, List.set_cons_zero, List.set_cons_succ]; rfl)) | ((with_reducible refine sn (a' := ?_) ?_ ?_ ?_); rotate_left; (focus rfl); (simp only [Act.put, List.setIfInBounds_toArray, List.set_cons_zero, List.set_cons_succ]; rfl)) | ((with_reducible refine sf trivial (a' := ?_) ?_ ?_ ?_); rotate_left; (focus rfl); (simp only [Act.put, List.setIfInBounds_toArray, List.set_cons_zero, List.set_cons_succ]; rfl)) | ((with_reducible refine sqg (v := ?_) (a' := ?_) ?_ ?_ ?_ ?_); rotate_left 2; (focus rfl); (focus (intro w' hS; go_simp; (first | done | with_reducible rfl | rfl))); (simp only [Act.put, List.setIfInBounds_toArray, List.set_cons_zero, List.set_cons_succ]; rfl)))
    first | ((with_reducible refine sc 13 #[.int .u32 (num (on 0#32 b)), .slice (some ⟨w.heap.size, 4, none⟩) k 4] ?_ ?_); (focus (first | rfl | (go_simp; done) | (go_simp; rfl)))) | ((with_reducible refine scg 13 #[.int .u32 (num (on 0#32 b)), .slice (some ⟨w.heap.size, 4, none⟩) k 4] ?_ ?_ ?_); (focus rfl); (focus (first | rfl | (go_simp; done) | (go_simp; rfl))))
    refine (on_from H3.out (on 0#32 b) _ 4 k (q.take k) HL.out.2 (by omega) (fun x hx => HP.out.2.2.2.1 x (List.mem_of_mem_take hx)) (H1.out.2 _ (Below.refl _ _)).2).mono ?_
    rintro e w4 ⟨rfl, hb4⟩
    have H4 := Lib.hid hb4
    refine ⟨_, rfl, hb4, fun a' ha => ?_⟩
    clear hb4
    simp only [Act.put, List.setIfInBounds_toArray, List.set_cons_zero, List.set_cons_succ] at ha
    subst ha
    repeat (first | ((with_reducible refine sq (v := ?_) (a' := ?_) ?_ ?_ ?_); rotate_left 2; (focus (intro w' hS; go_simp; (first | done | with_reducible rfl | rfl))); (simp only [Act.put, List.setIfInBounds_toArray, List.set_cons_zero, List.set_cons_succ]; rfl)) | ((with_reducible refine sn (a' := ?_) ?_ ?_ ?_); rotate_left; (focus rfl); (simp only [Act.put, List.setIfInBounds_toArray, List.set_cons_zero, List.set_cons_succ]; rfl)) | ((with_reducible refine sf trivial (a' := ?_) ?_ ?_ ?_); rotate_left; (focus rfl); (simp only [Act.put, List.setIfInBounds_toArray, List.set_cons_zero, List.set_cons_succ]; rfl)) | ((with_reducible refine sqg (v := ?_) (a' := ?_) ?_ ?_ ?_ ?_); rotate_left 2; (focus rfl); (focus (intro w' hS; go_simp; (first | done | with_reducible rfl | rfl))); (simp only [Act.put, List.setIfInBounds_toArray, List.set_cons_zero, List.set_cons_succ]; rfl)))
    refine sl_end ?_
    go_wp2
    go_ret
    refine ⟨?_, H1.out.1.trans (below_weak H1.out.1.size H4.out)⟩
    show Ending.returned (.bool ((num (on (on 0#32 b) (p.take k)) == num (on (on 0#32 b) (q.take k))) == ((strOfNums (p.take k)).toList == (strOfNums (q.take k)).toList))) = _
    have hbp : Bts (p.take k) := fun x hx => HP.out.2.2.1 x (List.mem_of_mem_take hx)
    have hbq : Bts (q.take k) := fun x hx => HP.out.2.2.2.1 x (List.mem_of_mem_take hx)
    rw [on_four _ _ _ hbp hbq (HL.out.1.trans HL.out.2.symm) (by rw [HL.out.1]; omega)]
    by_cases he : p.take k = q.take k
    · rw [he]; simp
    · have h1 : ¬ (strOfNums (p.take k)).toList = (strOfNums (q.take k)).toList := fun h => he (str_inj _ _ hbp hbq (by
        rw [ByteArray.toList_eq, ByteArray.toList_eq] at h
        exact ByteArray.ext (Array.toList_inj.1 h)))
      simp [he, h1]
theorem sumsFour (B : Option Addr) (cb : Nat) (b : List Int) (cs : Array Value) (x : List (List Int)) (n : Int) (w : World) (_ : b.length ≤ cb) (hb : b.length ≤ 140737488351232) (wb : ∀ n ∈ b, (Lit.int .u8 n).wf = true) (hrb : Rd .u8 w B b)
    (hx : (Rdr.arr 2 (Rdr.arr 4 (Rdr.int .u8))).R w cs.toList x) (wn : (Lit.int .u8 n).wf = true) :
    Calls Try.prog 9 #[.slice B b.length cb, .agg cs, .int .u8 n] w fun e w' => e = .returned (.bool true) ∧ Below w.heap.size w w' := by
  have hn := bounds_u8 wn
  obtain ⟨p, q, l1, l2, b1, b2, e⟩ := cells_of hx
  exact law B cb b cs p q (n.tmod 5).toNat n w (by omega) (fun x hx => by have := bounds_u8 (wb x hx); omega) hrb l1 l2 b1 b2 (by rw [Int.tmod_eq_emod_of_nonneg (by omega)]; omega) (by rw [Int.tmod_eq_emod_of_nonneg (by omega)]; omega) e
end Go.Proofs.Ytdhogkenmpgklaa.LawFour
