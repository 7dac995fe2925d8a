/- Texts of this work, one behind the other. -/
import Derived.Test.YticnjkdaccacaaaGreatVChiefsStay8
import Derived.Test.YticnjkdaccacaaaGreatProg
import Derived.ProofKit
import Derived.OpenShut
import Derived.KernelRfl
import Derived.Lib.Hide
import Derived.Deep.LoopGhost
import Derived.Lib.SliceRun
import Derived.Laws.BytesArg
set_option maxRecDepth 100000
set_option maxHeartbeats 16000000
section
namespace Go.Proofs.YticnjkdaccacaaaGreat.Sx
open Go Go.RowKit Base Oq QS
def orcCk : Orc := ⟨[(3, .int .i64), (4, .bool), (31, .int .u32), (28, .int .i64), (131, .struct #[Go.Field.mk "now" 3 0 false "" "concordat/clocks" 0, Go.Field.mk "when" 129 1 false "" "concordat/clocks" 8]), (75, .pointer 131), (129, .map 31 3), (72, .slice 31)],
 [(3, 1), (4, 1), (31, 1), (28, 1), (131, 2), (75, 1), (129, 1), (72, 1)]⟩
theorem oCk_ : orcCk.Ok Tryz.prog := ⟨⟨Tryz.underlying3, Tryz.underlying4, Tryz.underlying31, Tryz.underlying28, Tryz.underlying131, Tryz.underlying75, Tryz.underlying129, Tryz.underlying72, trivial⟩, ⟨by kernel_rfl, by kernel_rfl, by kernel_rfl, by kernel_rfl, by kernel_rfl, by kernel_rfl, by kernel_rfl, by kernel_rfl, trivial⟩⟩
theorem enCkThere : Enters Tryz.prog 53 := fun _ _ => by kernel_rfl
theorem enCkSet : Enters Tryz.prog 36 := fun _ _ => by kernel_rfl
theorem enCkClear : Enters Tryz.prog 60 := fun _ _ => by kernel_rfl
theorem enCkTick : Enters Tryz.prog 23 := fun _ _ => by kernel_rfl
theorem enCkThose : Enters Tryz.prog 54 := fun _ _ => by kernel_rfl
theorem enCkNew : Enters Tryz.prog 51 := fun _ _ => by kernel_rfl
abbrev ckS (b g : Nat) (now : Int) : Asn := stA 131 b [.int .i64 now, .map (some g)]
abbrev ckM (g : Nat) (m : List (Int × Int)) : Asn := mapA .u32 (Value.int .i64) g m
section
variable {w w0 : World} {R : List Asn} {b g : Nat} {now : Int} {m : List (Int × Int)}
theorem ckthere_call (S : Sat w0 w (ckS b g now :: R)) : Calls Tryz.prog 53 #[.pointer (some ⟨b, 0, none⟩)] w fun e w' => e = .returned (.bool true) ∧ w' = w := by
 refine calls_start (N := 12) [.pointer (some ⟨b, 0, none⟩)] Tryz.func53 rfl rfl rfl rfl fun a fr => ?_
 refine r_ rfl ?_
 repeat refine w_ oCk_ rfl fr fun a fr => ?_
 refine er_ rfl rfl ?_
 (repeat (first | refine wl_run oCk_ 1 rfl fr fun a fr => ?_ | refine wl_ldf oCk_ (Sat.stAt S 0 rfl rfl) fr rfl rfl rfl rfl rfl rfl rfl fun a fr => ?_))
 first | refine e_ ?_ | refine wpList_nil ?_
 refine wp_ret ?_
 exact ret1 fr rfl rfl ⟨rfl, rfl⟩
theorem ckclear_call {x : Int} (hx : (Lit.int .u32 x).wf = true) (S : Sat w0 w (ckS b g now :: ckM g m :: R)) : Calls Tryz.prog 60 #[.pointer (some ⟨b, 0, none⟩), .int .u32 x] w fun e w' => (∃ v : Int, e = .returned (.int .i64 v) ∧ vok (.int .i64 v) = true) ∧ Sat w0 w' (ckS b g now :: ckM g (delM m x) :: R) := by
 refine calls_start (N := 26) [.pointer (some ⟨b, 0, none⟩), .int .u32 x] Tryz.func60 rfl rfl rfl (vok_c rfl (vok_c hx rfl)) fun a fr => ?_
 refine r_ rfl ?_
 repeat refine w_ oCk_ rfl fr fun a fr => ?_
 refine er_ rfl rfl ?_
 repeat refine w_ oCk_ rfl fr fun a fr => ?_
 refine wl_call fr rfl rfl rfl rfl enCkThere (ckthere_call S) ?_
 rintro _ w1 ⟨rfl, rfl⟩
 refine ⟨_, rfl, rfl, fun a fr => ?_⟩
 repeat refine w_ oCk_ rfl fr fun a fr => ?_
 refine eq_ rfl rfl ?_
 refine cw_f fr rfl ?_
 refine wp_skip ?_
 refine r_ rfl ?_
 (repeat (first | refine wl_run oCk_ 1 rfl fr fun a fr => ?_ | refine wl_ldf oCk_ (Sat.stAt S 0 rfl rfl) fr rfl rfl rfl rfl rfl rfl rfl fun a fr => ?_))
 refine wl_lk2 (f := Value.int .i64) oCk_ (0 : Int) (fun _ => by kernel_rfl) rfl (fun _ => rfl) (Sat.mapAt S 1 rfl) fr rfl rfl rfl rfl rfl rfl rfl rfl fun a fr => ?_
 repeat refine w_ oCk_ rfl fr fun a fr => ?_
 refine er_ rfl rfl ?_
 repeat refine w_ oCk_ rfl fr fun a fr => ?_
 first | refine e_ ?_ | refine wpList_nil ?_
 cases hk : (lkM m x).isSome with
 | false =>
  have fr := fr.bool (d := 20) rfl (show (!(lkM m x).isSome) = true by rw [hk]; rfl)
  refine q_ rfl ?_
  refine cw_t fr rfl ?_
  refine r_ rfl ?_
  repeat refine w_ oCk_ rfl fr fun a fr => ?_
  first | refine e_ ?_ | refine wpList_nil ?_
  refine wp_ret ?_
  try simp only [Exit.then, Exit.inBlock]
  refine ret1 fr rfl rfl ⟨⟨6, rfl, rfl⟩, ?_⟩
  rw [del_none (by cases h : lkM m x with | none => rfl | some v => rw [h] at hk; cases hk)]
  exact S
 | true =>
  have fr := fr.bool (d := 20) rfl (show (!(lkM m x).isSome) = false by rw [hk]; rfl)
  refine q_ rfl ?_
  refine cw_f fr rfl ?_
  refine wp_skip ?_
  refine r_ rfl ?_
  (repeat (first | refine wl_run oCk_ 1 rfl fr fun a fr => ?_ | refine wl_ldf oCk_ (Sat.stAt S 0 rfl rfl) fr rfl rfl rfl rfl rfl rfl rfl fun a fr => ?_))
  have S := S.frontAt 1 rfl
  refine wl_del oCk_ fr rfl rfl rfl rfl rfl rfl rfl rfl S ?_
  intro w1 S
  refine er_ rfl rfl ?_
  repeat refine w_ oCk_ rfl fr fun a fr => ?_
  first | refine e_ ?_ | refine wpList_nil ?_
  refine wp_ret ?_
  exact ret1 fr rfl rfl ⟨⟨0, rfl, rfl⟩, S.frontAt 1 rfl⟩
theorem ckset_call {x t : Int} (hx : (Lit.int .u32 x).wf = true) (ht : (Lit.int .i64 t).wf = true) (h0 : decide (t < 1) = false) (h1 : decide (t > 1073741824) = false) (S : Sat w0 w (ckS b g now :: ckM g m :: R)) : Calls Tryz.prog 36 #[.pointer (some ⟨b, 0, none⟩), .int .u32 x, .int .i64 t] w fun e w' => e = .returned (.int .i64 0) ∧ Sat w0 w' (ckS b g now :: ckM g (upM m x (IntKind.wrap .i64 (now + t))) :: R) := by
 refine calls_start (N := 29) [.pointer (some ⟨b, 0, none⟩), .int .u32 x, .int .i64 t] Tryz.func36 rfl rfl rfl (vok_c rfl (vok_c hx (vok_c ht rfl))) fun a fr => ?_
 refine r_ rfl ?_
 repeat refine w_ oCk_ rfl fr fun a fr => ?_
 refine eq_ rfl rfl ?_
 refine wp_block ?_
 refine r_ rfl ?_
 repeat refine w_ oCk_ rfl fr fun a fr => ?_
 refine wl_call fr rfl rfl rfl rfl enCkThere (ckthere_call S) ?_
 rintro _ w1 ⟨rfl, rfl⟩
 refine ⟨_, rfl, rfl, fun a fr => ?_⟩
 repeat refine w_ oCk_ rfl fr fun a fr => ?_
 refine eq_ rfl rfl ?_
 refine cw_f fr rfl ?_
 refine r_ rfl ?_
 repeat refine w_ oCk_ rfl fr fun a fr => ?_
 have fr := fr.bool (d := 14) rfl h0
 repeat refine w_ oCk_ rfl fr fun a fr => ?_
 have fr := fr.bool (d := 17) rfl h1
 have fr := fr.bool (d := 11) rfl h1
 refine eq_ rfl rfl ?_
 refine cw_f fr rfl ?_
 refine wp_skip ?_
 refine blk_n ?_
 refine q_ rfl ?_
 refine wp_region_sl [u_ 0 18, u_ 1 19, u_ 2 20, u_ 3 21, u_ 4 22, u_ 5 23, u_ 6 24, u_ 7 25, u_ 8 26, u_ 9 27, u_ 10 28, .one (11, false, none)]
        [m_ 18 0 75,
        c_ 19 18,
        f_ 20 131 19 1,
        l_ 21 129 20,
        m_ 22 1 31,
        m_ 23 0 75,
        c_ 24 23,
        f_ 25 131 24 0,
        l_ 26 3 25,
        m_ 27 2 3,
        .one ⟨true, some 28, (.binOp .add 3 (.tmp 26) (.tmp 27) 3), 3, none⟩,
        .one ⟨false, none, (.mapUpdate 129 (.tmp 21) (.tmp 22) (.tmp 28)), 0, none⟩]
        (fun v => Sat w0 v [ckS b g now]) rfl (by kernel_rfl) (by kernel_rfl) ?_ ?_
 ·exact S.drew.firsts [_]
 have S := S.drew
 have hS : Sat w0 _ [ckS b g now] := S.firsts [_]
 (repeat (first | refine sl_run oCk_ 1 rfl fr fun a fr => ?_ | refine sl_ldf oCk_ (fun _ S => Sat.stAt S 0 rfl rfl) fr rfl rfl rfl rfl rfl rfl rfl rfl (by assumption) fun a fr => ?_))
 have S := S.frontAt 1 rfl
 refine sl_up oCk_ (IntKind.wrap .i64 (now + t)) fr rfl rfl rfl (.inl rfl) rfl rfl rfl rfl rfl S ?_
 intro w1 S
 refine ⟨(S.frontAt 1 rfl).firsts [_], ?_⟩
 refine sl_end ?_
 refine r_ rfl ?_
 repeat refine w_ oCk_ rfl fr fun a fr => ?_
 first | refine e_ ?_ | refine wpList_nil ?_
 refine wp_ret ?_
 exact ret1 fr rfl rfl ⟨rfl, S.frontAt 1 rfl⟩
theorem cktick_call (hc : m.length ≤ 1000) (S : Sat w0 w (ckS b g now :: ckM g m :: R)) : Calls Tryz.prog 23 #[.pointer (some ⟨b, 0, none⟩)] w fun e w' => ∃ A c, e = .returned (.slice A (Clk.due (IntKind.wrap .i64 (now + 1)) m).length c) ∧ vok (.slice A (Clk.due (IntKind.wrap .i64 (now + 1)) m).length c) = true ∧ Sat w0 w' (ownA .u32 31 A c (Clk.due (IntKind.wrap .i64 (now + 1)) m) :: ckS b g (IntKind.wrap .i64 (now + 1)) :: ckM g ((Clk.due (IntKind.wrap .i64 (now + 1)) m).foldl delM m) :: R) := by
 refine calls_start (N := 31) [.pointer (some ⟨b, 0, none⟩)] Tryz.func23 rfl rfl rfl rfl fun a fr => ?_
 refine r_ rfl ?_
 repeat refine w_ oCk_ rfl fr fun a fr => ?_
 refine er_ rfl rfl ?_
 repeat refine w_ oCk_ rfl fr fun a fr => ?_
 refine wl_call fr rfl rfl rfl rfl enCkThere (ckthere_call S) ?_
 rintro _ w1 ⟨rfl, rfl⟩
 refine ⟨_, rfl, rfl, fun a fr => ?_⟩
 repeat refine w_ oCk_ rfl fr fun a fr => ?_
 refine eq_ rfl rfl ?_
 refine cw_f fr rfl ?_
 refine wp_skip ?_
 refine r_ rfl ?_
 (repeat (first | refine wl_run oCk_ 1 rfl fr fun a fr => ?_ | refine wl_ldf oCk_ (Sat.stAt S 0 rfl rfl) fr rfl rfl rfl rfl rfl rfl rfl fun a fr => ?_))
 refine wl_stf (j := 0) oCk_ fr rfl rfl rfl rfl rfl rfl rfl rfl S rfl ?_
 intro w1 S
 generalize IntKind.wrap .i64 (now + 1) = n1 at *
 have S : Sat w0 w1 (ckS b g n1 :: ckM g m :: R) := S
 refine er_ rfl rfl ?_
 repeat refine w_ oCk_ rfl fr fun a fr => ?_
 refine wl_call fr rfl rfl rfl rfl enCkThose (clk_those S hc) ?_
 rintro _ w2 ⟨A, c, rfl, hv, S⟩
 generalize Clk.due n1 m = due at *
 refine ⟨_, rfl, hv, fun a fr => ?_⟩
 repeat refine w_ oCk_ rfl fr fun a fr => ?_
 refine er_ rfl rfl ?_
 repeat refine w_ oCk_ rfl fr fun a fr => ?_
 first | refine e_ ?_ | refine wpList_nil ?_
 have hm0 := S.own.2
 refine q_ rfl ?_
 refine wp_block ?_
 refine cw_loop (fun q a w2 => ∃ i : Nat, i + q = due.length + 1 ∧ i ≤ due.length ∧ Fr 31 a [(0, .pointer (some ⟨b, 0, none⟩)), (3, .slice A due.length c), (18, .slice A due.length c), (19, .int .i64 (due.length : Int)), (20, .int .i64 (i : Int))] ∧ Sat w0 w2 (ownA .u32 31 A c due :: ckS b g n1 :: ckM g ((due.take i).foldl delM m) :: R)) (due.length + 1)
  ⟨0, by omega, by omega, fr.sub ⟨rfl, rfl, rfl, rfl, rfl, trivial⟩, S⟩ ?_ ?_
 ·rintro a w2 ⟨i, h, h', -⟩
  omega
 clear fr S
 rintro q a w2 ⟨i, hi, hi', fr, S⟩
 refine r_ rfl ?_
 repeat refine w_ oCk_ rfl fr fun a fr => ?_
 first | refine e_ ?_ | refine wpList_nil ?_
 by_cases hlt : i < due.length
 rotate_left
 ·have fr := fr.bool (d := 21) rfl (decide_eq_false (show ¬ (i : Int) < (due.length : Int) by omega))
  obtain rfl : i = due.length := by omega
  refine q_ rfl ?_
  refine cw_f fr rfl ?_
  refine wp_exit ?_
  refine xr_ rfl rfl ?_
  repeat refine w_ oCk_ rfl fr fun a fr => ?_
  first | refine e_ ?_ | refine wpList_nil ?_
  refine wp_ret ?_
  rw [List.take_length] at S
  exact ret1 fr rfl rfl ⟨A, c, rfl, fr.vok (d := 2) rfl, S⟩
 have fr := fr.bool (d := 21) rfl (decide_eq_true (show (i : Int) < (due.length : Int) by omega))
 refine q_ rfl ?_
 refine cw_t fr rfl ?_
 refine wp_skip ?_
 with_reducible refine then_n ?_
 obtain ⟨y, hy⟩ : ∃ y, due.getD i 0 = y := ⟨_, rfl⟩
 have hge : due[i] = y := by rw [← hy, List.getD_eq_getElem?_getD, List.getElem?_eq_getElem hlt]; rfl
 refine q_ rfl ?_
 refine wp_block ?_
 refine r_ rfl ?_
 refine wl_ld oCk_ (Sat.ownAt S 0 rfl) fr rfl rfl rfl rfl rfl rfl rfl rfl rfl rfl rfl rfl rfl rfl rfl rfl ⟨by omega, by omega⟩ fun a fr => ?_
 rw [Int.toNat_natCast, hy] at fr
 repeat refine w_ oCk_ rfl fr fun a fr => ?_
 refine er_ rfl rfl ?_
 (repeat (first | refine wl_run oCk_ 1 rfl fr fun a fr => ?_ | refine wl_ldf oCk_ (Sat.stAt S 0 rfl rfl) fr rfl rfl rfl rfl rfl rfl rfl fun a fr => ?_ | refine wl_ldf oCk_ (Sat.stAt S 1 rfl rfl) fr rfl rfl rfl rfl rfl rfl rfl fun a fr => ?_))
 have S := S.frontAt 2 rfl
 refine wl_del oCk_ fr rfl rfl rfl rfl rfl rfl rfl rfl S ?_
 intro w3 S
 first | refine e_ ?_ | refine wpList_nil ?_
 refine blk_n ?_
 refine r_ rfl ?_
 repeat refine w_ oCk_ rfl fr fun a fr => ?_
 first | refine e_ ?_ | refine wpList_nil ?_
 have fr := fr.spell (d := 20) rfl (congrArg (Value.int .i64) (i64_next hlt (by have h9 := hm0; unfold maxLen at h9; omega)))
 have e1 : (due.take (i + 1)).foldl delM m = delM ((due.take i).foldl delM m) y := by
  rw [List.take_succ_eq_append_getElem hlt, List.foldl_append, hge]
  rfl
 refine ⟨i + 1, by omega, by omega, fr.sub ⟨rfl, rfl, rfl, rfl, rfl, trivial⟩, ?_⟩
 rw [e1]
 exact (S.frontAt 2 rfl).frontAt 2 rfl
end
end Go.Proofs.YticnjkdaccacaaaGreat.Sx
end
section
namespace Go.Proofs.YticnjkdaccacaaaGreat.Bytes
open Go.RowKit Base Oq
def Bts (l : List Int) : Prop := ∀ x ∈ l, 0 ≤ x ∧ x < 256
theorem Bts.take {l : List Int} (h : Bts l) (k : Nat) : Bts (l.take k) := fun x hx => h x (List.mem_of_mem_take hx)
theorem Bts.drop {l : List Int} (h : Bts l) (k : Nat) : Bts (l.drop k) := fun x hx => h x (List.mem_of_mem_drop hx)
theorem Bts.append {l m : List Int} (h : Bts l) (h' : Bts m) : Bts (l ++ m) := fun x hx => (List.mem_append.1 hx).elim (h x) (h' x)
theorem Bts.zeros (n : Nat) : Bts (List.replicate n 0) := by intro x hx; rw [List.eq_of_mem_replicate hx]; decide
theorem tyB : RowTy Tryz.prog 92 5 .u8 := ⟨Tryz.underlying92, 1, by decide, by kernel_rfl⟩
theorem info1 : (Tryz.prog.info? 5).map (·.size) = some 1 := by kernel_rfl
theorem conv_str (P : Program) (w : World) (src e : TypeId) (hs : P.underlying src = some (.slice e)) (he : P.underlying e = some (.int .u8)) (A : Option Addr) (n c : Nat) (l : List Int) (hn : l.length = n) (h : Rd .u8 w A l) (dst : TypeId) (hd : P.underlying dst = some .string) :
  (convert src dst (.slice A n c)).run P w = .ok (.string (strOfNums l)) w := by
 cases A with
 | none =>
  obtain rfl := h.empty rfl
  exact run_convert_bytes_nil w src e hs he n c dst hd
 | some ad =>
  have hl : (loadCells ad n).run P w = .ok (l.map (Value.int .u8)).toArray w := by
   have := run_loadCells_list (P := P) w ad (l.map (Value.int .u8)) (fun j v hj => by
    have hjl : j < l.length := by
     rcases Nat.lt_or_ge j l.length with h | h
     ·exact h
     ·simp [List.getElem?_eq_none (show (l.map (Value.int .u8)).length ≤ j by simpa using h)] at hj
    obtain ⟨ad', e', _, hc⟩ := h.cell hjl
    cases e'
    rw [hc]
    simp [List.getElem?_eq_getElem hjl] at hj
    subst hj
    simp [List.getD, List.getElem?_eq_getElem hjl])
   simpa [hn] using this
  rw [run_convert_bytes_string w src dst e _ n c hs he hd, run_bytesToString w _ n c l hl, foldl_push_bytes]
  simp [strOfNums, ByteArray.empty, ByteArray.emptyWithCapacity]
  rfl
theorem str_inj : ∀ (l m : List Int), Bts l → Bts m → strOfNums l = strOfNums m → l = m := by
 intro l m hl hm h
 have h1 := congrArg (fun s : ByteArray => s.data.toList) h
 simp only [strOfNums_data] at h1
 clear h
 induction l generalizing m with
 | nil => cases m with
  | nil => rfl
  | cons y m => simp at h1
 | cons x l ih => cases m with
  | nil => simp at h1
  | cons y m =>
   simp only [List.map_cons, List.cons.injEq] at h1
   have hx := hl x (List.mem_cons_self)
   have hy := hm y (List.mem_cons_self)
   have h2 := congrArg UInt8.toNat h1.1
   rw [UInt8.toNat_ofNat', UInt8.toNat_ofNat'] at h2
   rw [ih m (fun z hz => hl z (List.mem_cons_of_mem _ hz)) (fun z hz => hm z (List.mem_cons_of_mem _ hz)) h1.2]
   congr 1
   omega
theorem clone (A : Option Addr) (n c : Nat) (l : List Int) (w : World) (hn : l.length = n) (hl : n ≤ 1000000000) (hA : A ≠ none ∨ n = 0 ∧ c = 0) (hr : Rd .u8 w A l) :
  Calls Tryz.prog 98 #[.slice A n c] w fun e w' => ∃ v, e = .returned v ∧ OwnI .u8 w' w.heap.size 5 v l ∧ Below w.heap.size w w' := by
 have hq : ∀ (W : World) (a : Option Addr) (n c n' c' : Nat), (binOp .eql 92 (.slice a n c) (.slice none n' c')).run Tryz.prog W = .ok (.bool a.isNone) W := fun W a n c n' c' => Lib.run_eql_slice_nil W _ _ a n c n' c' Tryz.underlying92
 cases A with
 | none =>
  obtain rfl := hr.empty rfl
  obtain ⟨rfl, rfl⟩ : n = 0 ∧ c = 0 := hA.elim (fun h => absurd rfl h) id
  go_enter Tryz.func98, Tryz.ntmps98
  go_wp2
  go_ret
  exact ⟨_, rfl, OwnI.nil _ _ _ _, Below.refl _ _⟩
 | some ad =>
  have HR := Lib.hid hr
  clear hr
  go_enter Tryz.func98, Tryz.ntmps98
  have H0 := Lib.hid (show Below w.heap.size w (w.alloc (.cells #[] 5)) ∧ OwnI .u8 (w.alloc (.cells #[] 5)) w.heap.size 5 (.slice (some ⟨w.heap.size, 0, none⟩) 0 0) [] from
   ⟨(Below.refl _ _).alloc (Nat.le_refl _) _, OwnI.made w .u8 [] 5 #[] rfl (Nat.le_refl _) (Nat.zero_le _)⟩)
  go_wp2_with (at_builtin; refine ap_list rfl tyB H0.out.1 H0.out.2 (HR.out.below H0.out.1) (fun e => by cases e) (by simp; omega) (.tmp 5) (.tmp 6) n c rfl rfl rfl hn ?_; intro v2 w2 own2 bd2 _ _; have H2 := Lib.hid (And.intro own2 bd2); clear own2 bd2)
  go_ret
  refine ⟨_, rfl, ?_, H2.out.2⟩
  have h := H2.out.1
  rwa [List.nil_append] at h
end Go.Proofs.YticnjkdaccacaaaGreat.Bytes
end
section
namespace Go.Proofs.YticnjkdaccacaaaGreat.Disk
open Go.RowKit Base Oq OwnV Bytes
def Pc (p : List Int) : Prop := p.length = 64 ∧ Bts p
def pcs (l : List (List Int)) : List Value := l.flatten.map (Value.int .u8)
def wcs (l : List (Int × List Int)) : List Value := l.flatMap fun x => .int .i64 x.1 :: x.2.map (Value.int .u8)
structure Dk where
 sure : List (List Int)
 seen : List (List Int)
 waits : List (Int × List Int)
structure Dk.ok (D : Dk) : Prop where
 same : D.sure.length = D.seen.length
 pos : 1 ≤ D.seen.length
 most : D.seen.length ≤ 4096
 sure : ∀ p ∈ D.sure, Pc p
 seen : ∀ p ∈ D.seen, Pc p
 waits : ∀ x ∈ D.waits, Pc x.2 ∧ 0 ≤ x.1 ∧ x.1 < D.seen.length
structure Lies (w : World) (B d : Nat) (S E W : Value) (D : Dk) : Prop where
 cells : w.heap[d]? = some (.cells #[S, E, W] 121 (0, 0))
 base : B ≤ d
 sure : RowV w B 118 64 S D.sure.length (pcs D.sure)
 seen : RowV w B 118 64 E D.seen.length (pcs D.seen)
 waits : RowV w B 123 65 W D.waits.length (wcs D.waits)
 s0 : S.ownBlock ≠ some d
 e0 : E.ownBlock ≠ some d
 w0 : W.ownBlock ≠ some d
 se : S.ownBlock ≠ E.ownBlock
 sw : Sep W S
 ew : Sep W E
 ok : D.ok
def blocks (d : Nat) (S E W : Value) (k : Nat) : Prop := k = d ∨ some k = S.ownBlock ∨ some k = E.ownBlock ∨ some k = W.ownBlock
def Disk (w : World) (B d : Nat) (F : Nat → Prop) (D : Dk) : Prop := ∃ S E W, Lies w B d S E W D ∧ ∀ k, F k ↔ blocks d S E W k
section
variable {w w' : World} {B d : Nat} {S E W : Value} {D : Dk} {F G : Nat → Prop}
theorem Lies.kept (h : Lies w B d S E W D) (hc : Chg G w w') (hG : ∀ k, blocks d S E W k → ¬ G k) : Lies w' B d S E W D :=
 { h with
  cells := by rw [hc.block d (Array.getElem?_eq_some_iff.1 h.cells).1 (hG d (.inl rfl))]; exact h.cells
  sure := h.sure.kept hc fun g hg => hG g (.inr (.inl hg.symm))
  seen := h.seen.kept hc fun g hg => hG g (.inr (.inr (.inl hg.symm)))
  waits := h.waits.kept hc fun g hg => hG g (.inr (.inr (.inr hg.symm))) }
theorem Disk.kept (h : Disk w B d F D) (hc : Chg G w w') (hG : ∀ k, F k → ¬ G k) : Disk w' B d F D := by
 obtain ⟨S, E, W, h1, h2⟩ := h
 exact ⟨S, E, W, h1.kept hc fun k hk => hG k ((h2 k).2 hk), h2⟩
theorem Disk.new (h : Disk w B d F D) (hb : Below w.heap.size w w') : Disk w' B d F D := h.kept (Chg.of_new hb) fun _ _ h => h
theorem Disk.lt (h : Disk w B d F D) : ∀ k, F k → B ≤ k ∧ k < w.heap.size := by
 obtain ⟨S, E, W, h1, h2⟩ := h
 intro k hk
 rcases (h2 k).1 hk with rfl | e | e | e
 ·exact ⟨h1.base, (Array.getElem?_eq_some_iff.1 h1.cells).1⟩
 ·exact h1.sure.lt k e.symm
 ·exact h1.seen.lt k e.symm
 ·exact h1.waits.lt k e.symm
theorem Disk.ok (h : Disk w B d F D) : D.ok := by obtain ⟨S, E, W, h1, _⟩ := h; exact h1.ok
theorem Disk.lower {B' : Nat} (h : Disk w B d F D) (hB : B' ≤ B) : Disk w B' d F D := by
 obtain ⟨S, E, W, h1, h2⟩ := h
 exact ⟨S, E, W, { h1 with base := Nat.le_trans hB h1.base, sure := h1.sure.lower hB, seen := h1.seen.lower hB, waits := h1.waits.lower hB }, h2⟩
theorem Lies.cell (h : Lies w B d S E W D) : w.cell? ⟨d, 0, none⟩ = some S ∧ w.cell? ⟨d, 1, none⟩ = some E ∧ w.cell? ⟨d, 2, none⟩ = some W := by
 refine ⟨?_, ?_, ?_⟩ <;> (rw [cell_of_row _ _ _ _ _ _ h.cells]; rfl)
end
theorem size {w : World} {B d : Nat} {F : Nat → Prop} {D : Dk} (h : Disk w B d F D) : Calls Tryz.prog 48 #[.pointer (some ⟨d, 0, none⟩)] w fun e w' => e = .returned (.int .i64 D.seen.length) ∧ w' = w := by
 obtain ⟨S, E, W, h1, _⟩ := h
 obtain ⟨A, c, rfl, -, -, -, -⟩ := h1.sure.slice
 have hc := h1.cell.1
 have he := h1.ok.same
 clear h1
 go_enter Tryz.func48, Tryz.ntmps48
 go_wp2
 go_ret
 exact ⟨rfl, rfl⟩
def mayOk (n : Nat) (x : Int) : Int := if 0 ≤ x ∧ x < n then 0 else 1
theorem may {w : World} {B d : Nat} {F : Nat → Prop} {D : Dk} (h : Disk w B d F D) (x : Int) : Calls Tryz.prog 95 #[.pointer (some ⟨d, 0, none⟩), .int .i64 x] w fun e w' => e = .returned (.int .i64 (mayOk D.seen.length x)) ∧ w' = w := by
 have H := Lib.hid h
 have hp := h.ok.pos
 clear h
 obtain ⟨n, hn⟩ : ∃ n, n = D.seen.length := ⟨_, rfl⟩
 have hsz : ∀ W, W = w → Calls Tryz.prog 48 #[.pointer (some ⟨d, 0, none⟩)] W fun e w' => e = .returned (.int .i64 n) ∧ w' = w := fun W e => by rw [e, hn]; exact size H.out
 rw [← hn] at hp ⊢
 have hz : ((n : Int) == 0) = false := by rw [beq_eq_false_iff_ne]; omega
 have HS := Lib.hid hsz
 clear hn hsz hp
 by_cases h0 : x < 0
 ·have : mayOk n x = 1 := by unfold mayOk; rw [if_neg (by omega)]
  rw [this]
  clear this
  go_enter Tryz.func95, Tryz.ntmps95
  go_wp2_with fail
  refine (HS.out _ rfl).mono ?_
  rintro e w' ⟨rfl, rfl⟩
  go_wp2
  go_ret
  exact ⟨rfl, rfl⟩
 ·by_cases h1 : x < n
  ·have : mayOk n x = 0 := by unfold mayOk; rw [if_pos (by omega)]
   rw [this]
   clear this
   go_enter Tryz.func95, Tryz.ntmps95
   go_wp2_with fail
   refine (HS.out _ rfl).mono ?_
   rintro e w' ⟨rfl, rfl⟩
   go_wp2_with fail
   refine (HS.out _ rfl).mono ?_
   rintro e w' ⟨rfl, rfl⟩
   go_wp2
   go_ret
   exact ⟨rfl, rfl⟩
  ·have : mayOk n x = 1 := by unfold mayOk; rw [if_neg (by omega)]
   rw [this]
   clear this
   go_enter Tryz.func95, Tryz.ntmps95
   go_wp2_with fail
   refine (HS.out _ rfl).mono ?_
   rintro e w' ⟨rfl, rfl⟩
   go_wp2_with fail
   refine (HS.out _ rfl).mono ?_
   rintro e w' ⟨rfl, rfl⟩
   go_wp2
   go_ret
   exact ⟨rfl, rfl⟩
theorem pcs_length {l : List (List Int)} (h : ∀ p ∈ l, Pc p) : (pcs l).length = l.length * 64 := by
 unfold pcs
 rw [List.length_map]
 induction l with
 | nil => rfl
 | cons p l ih =>
  rw [List.flatten_cons, List.length_append, ih (fun q hq => h q (List.mem_cons_of_mem _ hq)), (h p (List.mem_cons_self)).1, List.length_cons]; omega
theorem flat_get : ∀ (l : List (List Int)) (i j : Nat), (∀ p ∈ l, p.length = 64) → i < l.length → j < 64 → l.flatten[i * 64 + j]? = (l.getD i [])[j]? := by
 intro l
 induction l with
 | nil => intro i j _ h; simp at h
 | cons p l ih =>
  intro i j hp hi hj
  have h64 := hp p (List.mem_cons_self)
  rw [List.flatten_cons, List.getElem?_append, h64]
  cases i with
  | zero => rw [if_pos (by omega)]; simp
  | succ i =>
   rw [if_neg (by omega), show (i + 1) * 64 + j - 64 = i * 64 + j by omega, ih i j (fun q hq => hp q (List.mem_cons_of_mem _ hq)) (by simpa using hi) hj]; rfl
theorem piece_rd {w : World} {g : Nat} {l : List (List Int)} (hg : g < w.heap.size) (h : w.rangeAt g 0 (pcs l)) (hp : ∀ p ∈ l, Pc p) {i : Nat} (hi : i < l.length) : Rd .u8 w (some ⟨g, i * 64, none⟩) (l.getD i []) := by
 intro _
 have h64 : (l.getD i []).length = 64 := by rw [List.getD_eq_getElem?_getD, List.getElem?_eq_getElem hi]; exact (hp _ (List.getElem_mem hi)).1
 refine ⟨_, rfl, hg, fun j hj => ?_⟩
 rw [h64] at hj
 have h1 := flat_get l i j (fun p hp' => (hp p hp').1) hi hj
 have h2 := h (i * 64 + j) (.int .u8 ((l.getD i []).getD j 0)) (by
  unfold pcs
  rw [List.getElem?_map, h1, List.getElem?_eq_getElem (by omega), List.getD_eq_getElem?_getD (l := l.getD i []), List.getElem?_eq_getElem (by omega)]; rfl)
 rw [Nat.zero_add] at h2
 have e : (⟨g, i * 64, none⟩ : Addr).add j = ⟨g, i * 64 + j, none⟩ := Addr.add_mid _ _ _
 rw [e]; exact h2
theorem read {w : World} {B d : Nat} {F : Nat → Prop} {D : Dk} (h : Disk w B d F D) (x : Int) :
  Calls Tryz.prog 82 #[.pointer (some ⟨d, 0, none⟩), .int .i64 x] w fun e w' => (∃ v, e = .returned (.tuple #[v, .int .i64 (mayOk D.seen.length x)]) ∧ (mayOk D.seen.length x = 1 → v = .slice none 0 0) ∧ (mayOk D.seen.length x = 0 → OwnI .u8 w' w.heap.size 5 v (D.seen.getD x.toNat []))) ∧ Below w.heap.size w w' := by
 have H := Lib.hid h
 clear h
 by_cases hx : 0 ≤ x ∧ x < D.seen.length
 ·have hm : mayOk D.seen.length x = 0 := by unfold mayOk; rw [if_pos hx]
  rw [hm]
  obtain ⟨S, E, W, h1, h2⟩ := H.out
  obtain ⟨A, c, rfl, -, -, hA, hA2⟩ := h1.seen.slice
  cases A with
  | none => have := hA rfl; omega
  | some ad =>
   obtain ⟨g, rfl, hB, hg, hr, -⟩ := hA2 _ rfl
   obtain ⟨i, rfl⟩ : ∃ i : Nat, x = i := ⟨x.toNat, by omega⟩
   have hi : i < D.seen.length := by omega
   have hrd := piece_rd hg hr h1.ok.seen hi
   have h64 : (D.seen.getD i []).length = 64 := by rw [List.getD_eq_getElem?_getD, List.getElem?_eq_getElem hi]; exact (h1.ok.seen _ (List.getElem_mem hi)).1
   have HR := Lib.hid (And.intro hrd h64)
   have hc1 := h1.cell.2.1
   have hmost := h1.ok.most
   clear hrd h64 hr hA hA2 h1 h2
   go_enter Tryz.func82, Tryz.ntmps82
   go_wp2_with fail
   refine (may H.out (i : Int)).mono ?_
   rw [hm]
   clear hm
   rintro e w' ⟨rfl, h⟩
   subst h
   go_wp2_with fail
   refine (clone (some ⟨g, i * 64, none⟩) 64 64 (D.seen.getD i []) w' HR.out.2 (by decide) (.inl (by simp)) HR.out.1).mono ?_
   rintro e w2 ⟨v, rfl, o2, b2⟩
   have H2 := Lib.hid (And.intro o2 b2)
   clear o2 b2 hc1
   go_wp2
   go_ret2
   exact ⟨⟨_, rfl, fun h => absurd h (by decide), fun _ => H2.out.1⟩, H2.out.2⟩
 ·have hm : mayOk D.seen.length x = 1 := by unfold mayOk; rw [if_neg hx]
  rw [hm]
  clear hx
  go_enter Tryz.func82, Tryz.ntmps82
  go_wp2_with fail
  refine (may H.out x).mono ?_
  rw [hm]
  clear hm
  rintro e w' ⟨rfl, h⟩
  subst h
  go_wp2
  go_ret2
  exact ⟨⟨_, rfl, fun _ => rfl, fun h => by cases h⟩, Below.refl _ _⟩
def pad (b : List Int) : List Int := b ++ List.replicate (64 - b.length) 0
theorem pad_pc {b : List Int} (h : b.length ≤ 64) (hb : Bts b) : Pc (pad b) := ⟨by unfold pad; simp; omega, hb.append (Bts.zeros _)⟩
theorem pad_splice {b : List Int} (h : b.length ≤ 64) : splice (List.replicate 64 0) 0 b = pad b := by
 unfold splice pad
 rw [List.take_zero, List.nil_append, Nat.zero_add, List.drop_replicate]
def Dk.write (D : Dk) (x : Int) (p : List Int) : Dk := { D with seen := D.seen.set x.toNat p, waits := D.waits ++ [(x, p)] }
theorem Dk.ok.write {D : Dk} (h : D.ok) {x : Int} {p : List Int} (hx : 0 ≤ x ∧ x < D.seen.length) (hp : Pc p) : (D.write x p).ok where
 same := by simp [Dk.write, h.same]
 pos := by simp [Dk.write]; exact h.pos
 most := by simp [Dk.write]; exact h.most
 sure := h.sure
 seen := fun q hq => by
  rcases List.mem_or_eq_of_mem_set hq with h1 | h1
  ·exact h.seen q h1
  ·subst h1; exact hp
 waits := fun y hy => by
  rcases List.mem_append.1 hy with h1 | h1
  ·have := h.waits y h1
   simp [Dk.write]; exact this
  ·simp at h1; subst h1; simp [Dk.write]; exact ⟨hp, hx⟩
theorem pcs_set {l : List (List Int)} (h : ∀ p ∈ l, Pc p) {i : Nat} (hi : i < l.length) {q : List Int} (hq : Pc q) : splice (pcs l) (i * 64) (q.map (Value.int .u8)) = pcs (l.set i q) := by
 have hl := pcs_length h
 apply List.ext_getElem?
 intro k
 rw [splice_get _ _ _ (by rw [hl, List.length_map, hq.1]; omega), List.length_map, hq.1]
 have h2 : ∀ p ∈ l.set i q, Pc p := fun p hp => by
  rcases List.mem_or_eq_of_mem_set hp with h1 | h1
  ·exact h p h1
  ·subst h1; exact hq
 by_cases hk : k < l.length * 64
 ·obtain ⟨a, b, rfl, hb⟩ : ∃ a b, k = a * 64 + b ∧ b < 64 := ⟨k / 64, k % 64, by omega, by omega⟩
  unfold pcs
  rw [List.getElem?_map, List.getElem?_map, List.getElem?_map, flat_get _ _ _ (fun p hp => (h2 p hp).1) (by rw [List.length_set]; omega) hb, flat_get _ _ _ (fun p hp => (h p hp).1) (by omega) hb]
  by_cases e : a = i
  ·subst e
   rw [if_pos (by omega), show a * 64 + b - a * 64 = b by omega, List.getD_eq_getElem?_getD, List.getElem?_set_self hi]; rfl
  ·rw [if_neg (by omega), List.getD_eq_getElem?_getD, List.getD_eq_getElem?_getD, List.getElem?_set_ne (Ne.symm e)]
 ·rw [if_neg (by omega), List.getElem?_eq_none (by omega), List.getElem?_eq_none (by rw [pcs_length h2, List.length_set]; omega)]
theorem Dk.ok.set {D : Dk} (h : D.ok) {i : Nat} {p : List Int} (hp : Pc p) : ({ D with seen := D.seen.set i p } : Dk).ok where
 same := by simp [h.same]
 pos := by simp; exact h.pos
 most := by simp; exact h.most
 sure := h.sure
 seen := fun q hq => by
  rcases List.mem_or_eq_of_mem_set hq with h1 | h1
  ·exact h.seen q h1
  ·subst h1; exact hp
 waits := fun y hy => by simpa using h.waits y hy
theorem Lies.set {w : World} {B d g n c : Nat} {S W : Value} {D : Dk} (h : Lies w B d S (.slice (some ⟨g, 0, none⟩) n c) W D) {i : Nat} {p : List Int} (hi : i < D.seen.length) (hp : Pc p) :
  Lies (w.setCells g (i * 64) (p.map (Value.int .u8))) B d S (.slice (some ⟨g, 0, none⟩) n c) W { D with seen := D.seen.set i p } := by
 have hc := chg_setCells g (p.map (Value.int .u8)) (i * 64) w
 have hn : n = D.seen.length := by
  obtain ⟨A, c', e, -⟩ := h.seen.slice
  injection e
 have h1 := h.seen
 rw [hn] at h1
 have h2 := h1.set (i * 64) (p.map (Value.int .u8)) (by rw [List.length_map, hp.1]; omega)
 rw [pcs_set h.ok.seen hi hp] at h2
 exact { h with
  cells := by rw [hc.block d (Array.getElem?_eq_some_iff.1 h.cells).1 (fun e => h.e0 (by rw [e]; rfl))]; exact h.cells
  sure := h.sure.kept hc fun k hk e => h.se (by rw [hk, e]; rfl)
  seen := by show RowV _ _ _ _ _ (D.seen.set i p).length _; rw [List.length_set, hn]; exact h2
  waits := h.waits.kept hc fun k hk e => h.ew k hk (by rw [e]; rfl)
  ok := h.ok.set hp }
theorem wcs_append (l : List (Int × List Int)) (x : Int) (p : List Int) : wcs (l ++ [(x, p)]) = wcs l ++ (.int .i64 x :: p.map (Value.int .u8)) := by simp [wcs]
def writeCode (n : Nat) (x : Int) (b : List Int) : Int := if mayOk n x = 1 ∨ 64 < b.length then 1 else 0
theorem built_fill (L : List (Nat × Value)) : Tryz.prog.built 123 L = Instr.fill (([(0, 1), (1, 64)] : List (Nat × Nat)).toArray[·]?) (.int .i64 0 :: List.replicate 64 (.int .u8 0)).toArray L := by kernel_rfl
theorem built_write (x : Int) (Pv : List Value) (h : Pv.length = 64) : Tryz.prog.built 123 [(0, .int .i64 x), (1, .agg Pv.toArray)] = some (Value.int .i64 x :: Pv).toArray := by
 rw [built_fill, fill_step _ _ 0 0 1 _ _ rfl rfl (by simp), fill_step _ _ 1 1 64 _ _ rfl (by simpa [Value.cells] using h) (by simp [splice, Value.cells]), Instr.fill]
 congr 1
 simp [splice, Value.cells]
 omega
def Dk.sync (D : Dk) : Dk := ⟨D.seen, D.seen, []⟩
theorem Dk.ok.sync {D : Dk} (h : D.ok) : D.sync.ok := ⟨rfl, h.pos, h.most, h.seen, h.seen, fun x hx => by simp [Dk.sync] at hx⟩
theorem pcs_one {l : List (List Int)} : ∀ v ∈ pcs l, v.oneCell' = true := fun v hv => by unfold pcs at hv; obtain ⟨x, _, rfl⟩ := List.mem_map.1 hv; rfl
theorem sync {w : World} {B d : Nat} {F : Nat → Prop} {D : Dk} (h : Disk w B d F D) :
  Calls Tryz.prog 71 #[.pointer (some ⟨d, 0, none⟩)] w fun e w' => e = .returned (.int .i64 0) ∧ ∃ F', Disk w' B d F' D.sync ∧ Chg F w w' ∧ ∀ k, F' k → F k := by
 have H := Lib.hid h
 obtain ⟨S, E, W, L, hF⟩ := h
 have hsz := size H.out
 have hpos := L.ok.pos
 obtain ⟨n, hn⟩ : ∃ n, n = D.seen.length := ⟨_, rfl⟩
 have hs := L.sure
 have he := L.seen
 rw [L.ok.same] at hs
 rw [← hn] at hsz hpos hs he
 obtain ⟨A1, c1, rfl, -, -, hA1, hA1'⟩ := hs.slice
 obtain ⟨A2, c2, rfl, -, -, hA2, hA2'⟩ := he.slice
 cases A1 with
 | none => have := hA1 rfl; omega
 | some a1 =>
 cases A2 with
 | none => have := hA2 rfl; omega
 | some a2 =>
 obtain ⟨g1, rfl, hB1, hg1, hr1, ht1⟩ := hA1' _ rfl
 obtain ⟨g2, rfl, hB2, hg2, hr2, ht2⟩ := hA2' _ rfl
 have hc0 := L.cell.1
 have hc1 := L.cell.2.1
 have hz : ((n : Int) == 0) = false := by rw [beq_eq_false_iff_ne]; omega
 have hg1d : g1 ≠ d := fun e => L.s0 (by rw [← e]; rfl)
 have HL := Lib.hid (And.intro L (And.intro hF hn))
 have HX := Lib.hid (And.intro hr2 ht1)
 have HZ := Lib.hid hsz
 have hlen : (pcs D.seen).length = n * 64 := by rw [pcs_length L.ok.seen, ← hn]
 have HLEN := Lib.hid hlen
 clear L hF hn hs he hA1 hA1' hA2 hA2' hr1 hr2 ht1 ht2 hsz hlen
 go_enter Tryz.func71, Tryz.ntmps71
 go_wp2_with fail
 refine HZ.out.mono ?_
 rintro e w' ⟨rfl, h⟩
 subst h
 go_wp2
 refine wp_region_sl [u_ 0 6, u_ 1 7, u_ 2 8, u_ 3 9, u_ 4 10, u_ 5 11, u_ 6 12, u_ 7 13, .one (8, false, some 14)]
        [m_ 6 0 23,
        c_ 7 6,
        f_ 8 121 7 0,
        l_ 9 115 8,
        m_ 10 0 23,
        c_ 11 10,
        f_ 12 121 11 1,
        l_ 13 115 12,
        .one ⟨false, some 14, (.call { callee := (.builtin Go.Builtin.copy), args := #[(.tmp 9), (.tmp 13)], argTypes := #[115, 115] }), 3, none⟩]
        (fun w3 => w3.cell? ⟨d, 0, none⟩ = some (.slice (some ⟨g1, 0, none⟩) n c1) ∧ w3.cell? ⟨d, 1, none⟩ = some (.slice (some ⟨g2, 0, none⟩) n c2)) rfl (by kernel_rfl) (by kernel_rfl) ?_ ?_
 ·exact ⟨hc0, hc1⟩
 (repeat (first | ((first | ((with_reducible refine sq (v := ?_) (a' := ?_) ?_ ?_ ?_); rotate_left 2; (focus (intro w' hS; go_simp; (first | done | with_reducible rfl | rfl)))) | ((with_reducible refine sn (a' := ?_) ?_ ?_ ?_); rotate_left; (focus rfl)) | ((with_reducible refine sf trivial (a' := ?_) ?_ ?_ ?_); rotate_left; (focus rfl)) | ((with_reducible refine sqg (v := ?_) (a' := ?_) ?_ ?_ ?_ ?_); rotate_left 2; (focus rfl); (focus (intro w' hS; go_simp; (first | done | with_reducible rfl | rfl))))); (simp only [Act.put, List.setIfInBounds_toArray, List.set_cons_zero, List.set_cons_succ]; rfl)) | go_bits))
 refine se' fun K hK => ?_
 refine wp_copy_v (.tmp 9) (.tmp 13) _ _ 118 64 g1 0 n c1 ⟨g2, 0, none⟩ n c2 n (pcs D.seen) rfl rfl rfl Tryz.underlying115 (by kernel_rfl) (by simp) HLEN.out ?_ ?_ pcs_one ?_
 ·intro j v hv
  rw [Addr.add_mid]; exact HX.out.1 j v hv
 ·rw [HLEN.out]; exact HX.out.2
 have c5 : Chg (fun k => k = g1) w' (w'.drew.setCells g1 0 (pcs D.seen)) := ((Chg.drew w').mono (fun k _ h => h.elim)).trans (chg_setCells g1 _ _ _) (fun _ _ h => h)
 have hg12 : g1 ≠ g2 := fun e => HL.out.1.se (by rw [e]; rfl)
 have L5 : Lies (w'.drew.setCells g1 0 (pcs D.seen)) B d (.slice (some ⟨g1, 0, none⟩) n c1) (.slice (some ⟨g2, 0, none⟩) n c2) W { D with sure := D.seen } := by
  have hs := HL.out.1.sure.kept (Chg.drew w') (fun _ _ h => h)
  rw [HL.out.1.ok.same, ← HL.out.2.2] at hs
  have h2 := hs.set 0 (pcs D.seen) (by rw [HLEN.out]; omega)
  have e : splice (pcs D.sure) 0 (pcs D.seen) = pcs D.seen := by
   unfold splice
   rw [List.take_zero, List.nil_append, List.drop_eq_nil_of_le (by rw [pcs_length HL.out.1.ok.sure, HL.out.1.ok.same, ← HL.out.2.2, HLEN.out]; omega), List.append_nil]
  rw [e] at h2
  exact ⟨by rw [c5.block d (Array.getElem?_eq_some_iff.1 HL.out.1.cells).1 (Ne.symm hg1d)]; exact HL.out.1.cells, HL.out.1.base, by show RowV _ _ _ _ _ D.seen.length (pcs D.seen); rw [← HL.out.2.2]; exact h2,
   HL.out.1.seen.kept c5 (fun k hk h => HL.out.1.se (by rw [hk, h]; rfl)), HL.out.1.waits.kept c5 (fun k hk h => HL.out.1.sw k hk (by rw [h]; rfl)), HL.out.1.s0, HL.out.1.e0, HL.out.1.w0, HL.out.1.se, HL.out.1.sw, HL.out.1.ew,
   ⟨rfl, HL.out.1.ok.pos, HL.out.1.ok.most, HL.out.1.ok.seen, HL.out.1.ok.seen, HL.out.1.ok.waits⟩⟩
 refine hK _ _ ⟨L5.cell.1.trans (by rw [HL.out.2.2]), L5.cell.2.1.trans (by rw [HL.out.2.2])⟩ fun a'' ha => ?_
 obtain ⟨w5, hw5⟩ : ∃ w5, w5 = w'.drew.setCells g1 0 (pcs D.seen) := ⟨_, rfl⟩
 rw [← hw5] at c5 L5 ⊢
 have hc2 := L5.cell.2.2
 have hf2 : w5.frozen? ⟨d, 2, none⟩ = false := frozen_of_row _ _ _ _ _ L5.cells
 have H5 := Lib.hid (And.intro c5 L5)
 clear hK hw5 c5 L5 hc0 hc1
 try (simp only [Act.put, List.setIfInBounds_toArray, List.set_cons_zero, List.set_cons_succ] at ha)
 subst ha
 refine sl_end ?_
 go_wp2
 go_ret
 refine ⟨rfl, blocks d (.slice (some ⟨g1, 0, none⟩) n c1) (.slice (some ⟨g2, 0, none⟩) n c2) (.slice none 0 0), ⟨_, _, _, ⟨?_, H5.out.2.base, ?_, ?_, RowV.nil _ _ _ _, H5.out.2.s0, H5.out.2.e0, ?_, H5.out.2.se, Sep.nil _, Sep.nil _, H.out.ok.sync⟩, fun k => Iff.rfl⟩, ?_, ?_⟩
 ·exact heap_setCell_same w5 d 2 _ 121 _ H5.out.2.cells
 ·exact H5.out.2.sure.kept (Chg.setCell w5 ⟨d, 2, none⟩ (.slice none 0 0)) (fun k hk h => H5.out.2.s0 (by rw [hk]; exact congrArg some h))
 ·exact H5.out.2.seen.kept (Chg.setCell w5 ⟨d, 2, none⟩ (.slice none 0 0)) (fun k hk h => H5.out.2.e0 (by rw [hk]; exact congrArg some h))
 ·intro e; simp [Value.ownBlock] at e
 ·refine (H5.out.1.then (Chg.setCell w5 ⟨d, 2, none⟩ _)).mono fun k hk h => ?_
  rcases h with h | h
  ·exact (HL.out.2.1 _).2 (.inr (.inl (by rw [h]; rfl)))
  ·exact (HL.out.2.1 _).2 (.inl h)
 ·intro k hk
  rcases hk with h | h | h | h
  ·exact (HL.out.2.1 _).2 (.inl h)
  ·exact (HL.out.2.1 _).2 (.inr (.inl h))
  ·exact (HL.out.2.1 _).2 (.inr (.inr (.inl h)))
  ·simp [Value.ownBlock] at h
theorem clonep (g n c : Nat) (l : List (List Int)) (w : World) (hn : l.length = n) (h1 : n ≤ 4096) (hp : ∀ p ∈ l, Pc p) (hr : w.rangeAt g 0 (pcs l)) :
  Calls Tryz.prog 49 #[.slice (some ⟨g, 0, none⟩) n c] w fun e w' => ∃ v, e = .returned v ∧ RowV w' w.heap.size 118 64 v n (pcs l) ∧ Below w.heap.size w w' := by
 have hq : ∀ (W : World) (a : Option Addr) (n c n' c' : Nat), (binOp .eql 115 (.slice a n c) (.slice none n' c')).run Tryz.prog W = .ok (.bool a.isNone) W := fun W a n c n' c' => Lib.run_eql_slice_nil W _ _ a n c n' c' Tryz.underlying115
 have HR := Lib.hid (And.intro hr (pcs_length hp))
 have HE := Lib.hid (show Below w.heap.size w (w.alloc (.cells #[] 118)) ∧ RowV (w.alloc (.cells #[] 118)) w.heap.size 118 64 (.slice (some ⟨w.heap.size, 0, none⟩) 0 0) 0 [] from
  ⟨(Below.refl _ _).alloc (Nat.le_refl _) _, RowV.made (B := w.heap.size) w 118 64 0 #[] (Nat.le_refl _) rfl (Nat.zero_le _)⟩)
 clear hr
 go_enter Tryz.func49, Tryz.ntmps49
 go_wp2_with (at_builtin; refine wpList_plain rfl fun K hK => ?_; refine apv_wp (bytes := 64) Tryz.underlying115 (by kernel_rfl) (by decide) HE.out.2 HE.out.1.size ⟨g, 0, none⟩ n c (pcs l) (by rw [HR.out.2, hn]) (fun j u hu => by
   have h2 := HR.out.1 j u hu
   rw [Addr.add_mid, HE.out.1.cell (p := ⟨g, 0 + j, none⟩) (World.block_lt_of_cell? w _ h2)]; exact h2) pcs_one (by simp only [maxLen]; omega) (by omega) (.tmp 5) (.tmp 6) rfl rfl rfl ?_; intro v2 w2 own2 gr2 _; have H2 := Lib.hid (And.intro own2 gr2); clear own2 gr2; refine hK _ _ ?_)
 go_ret
 refine ⟨_, rfl, ?_, HE.out.1.grown H2.out.2 HE.out.1.size (fun k hk => (HE.out.2.lt k hk).1)⟩
 have h := H2.out.1
 rw [List.nil_append, Nat.zero_add] at h
 exact h
def kept (keep : Int) (i : Nat) : Bool := decide (keep / (2 : Int) ^ (min i 64) % 2 = 1)
def part (torn : Int) (i : Nat) : Nat := if (i : Int) = torn then 32 else 64
def step (keep torn : Int) (s : List (List Int)) (i : Nat) (x : Int × List Int) : List (List Int) :=
 if kept keep i then s.set x.1.toNat (x.2.take (part torn i) ++ (s.getD x.1.toNat []).drop (part torn i)) else s
def failK (keep torn : Int) (s : List (List Int)) (ws : List (Int × List Int)) : Nat → List (List Int)
 | 0 => s
 | k + 1 => match ws[k]? with
  | none => failK keep torn s ws k
  | some x => step keep torn (failK keep torn s ws k) k x
def Dk.fail (D : Dk) (keep torn : Int) : Dk := ⟨failK keep torn D.sure D.waits D.waits.length, failK keep torn D.sure D.waits D.waits.length, []⟩
theorem step_pc {keep torn : Int} {s : List (List Int)} {i : Nat} {x : Int × List Int} (hs : ∀ p ∈ s, Pc p) (hx : Pc x.2) (h0 : x.1.toNat < s.length) : (step keep torn s i x).length = s.length ∧ ∀ p ∈ step keep torn s i x, Pc p := by
 unfold step
 split
 ·refine ⟨List.length_set .., fun p hp => ?_⟩
  rcases List.mem_or_eq_of_mem_set hp with h | h
  ·exact hs p h
  ·subst h
   have h1 : Pc (s.getD x.1.toNat []) := by rw [List.getD_eq_getElem?_getD, List.getElem?_eq_getElem h0]; exact hs _ (List.getElem_mem h0)
   refine ⟨?_, (hx.2.take _).append (h1.2.drop _)⟩
   rw [List.length_append, List.length_take, List.length_drop, hx.1, h1.1]
   unfold part; split <;> omega
 ·exact ⟨rfl, hs⟩
theorem failK_pc {D : Dk} (h : D.ok) (keep torn : Int) : ∀ k, (failK keep torn D.sure D.waits k).length = D.seen.length ∧ ∀ p ∈ failK keep torn D.sure D.waits k, Pc p := by
 intro k
 induction k with
 | zero => exact ⟨h.same, h.sure⟩
 | succ k ih =>
  unfold failK
  cases hw : D.waits[k]? with
  | none => exact ih
  | some x =>
   have hx := h.waits x (List.mem_of_getElem? hw)
   have h2 := step_pc (keep := keep) (torn := torn) (i := k) ih.2 hx.1 (by rw [ih.1]; omega)
   exact ⟨h2.1.trans ih.1, h2.2⟩
theorem Dk.ok.fail {D : Dk} (h : D.ok) (keep torn : Int) : (D.fail keep torn).ok := by
 have h2 := failK_pc h keep torn D.waits.length
 exact ⟨rfl, by show 1 ≤ (failK keep torn D.sure D.waits D.waits.length).length; rw [h2.1]; exact h.pos, by show (failK keep torn D.sure D.waits D.waits.length).length ≤ 4096; rw [h2.1]; exact h.most, h2.2, h2.2, fun x hx => by simp [Dk.fail] at hx⟩
theorem wcs_get : ∀ (ws : List (Int × List Int)) (i j : Nat) (x : Int × List Int), (∀ y ∈ ws, y.2.length = 64) → ws[i]? = some x → j < 65 → (wcs ws)[i * 65 + j]? = (Value.int .i64 x.1 :: x.2.map (Value.int .u8))[j]? := by
 intro ws
 induction ws with
 | nil => intro i j x _ h; simp at h
 | cons y ws ih =>
  intro i j x hp hi hj
  have h64 := hp y (List.mem_cons_self)
  have e : wcs (y :: ws) = (Value.int .i64 y.1 :: y.2.map (Value.int .u8)) ++ wcs ws := by simp [wcs]
  have hl : (Value.int .i64 y.1 :: y.2.map (Value.int .u8)).length = 65 := by simp [h64]
  rw [e, List.getElem?_append, hl]
  cases i with
  | zero =>
   simp at hi; subst hi
   rw [if_pos (by omega)]; congr 1; omega
  | succ i =>
   rw [if_neg (by omega), show (i + 1) * 65 + j - 65 = i * 65 + j by omega]
   exact ih i j x (fun q hq => hp q (List.mem_cons_of_mem _ hq)) (by simpa using hi) hj
theorem part_pc {p q : List Int} (hp : Pc p) (hq : Pc q) {M : Nat} (hM : M ≤ 64) : Pc (q.take M ++ p.drop M) :=
 ⟨by rw [List.length_append, List.length_take, List.length_drop, hq.1, hp.1]; omega, (hq.2.take _).append (hp.2.drop _)⟩
theorem pcs_part {s : List (List Int)} (h : ∀ p ∈ s, Pc p) {i : Nat} (hi : i < s.length) {q : List Int} (hq : Pc q) {M : Nat} (hM : M ≤ 64) :
  splice (pcs s) (i * 64) ((q.take M).map (Value.int .u8)) = pcs (s.set i (q.take M ++ (s.getD i []).drop M)) := by
 have hp : Pc (s.getD i []) := by rw [List.getD_eq_getElem?_getD, List.getElem?_eq_getElem hi]; exact h _ (List.getElem_mem hi)
 have hr := part_pc hp hq hM
 have hl := pcs_length h
 rw [← pcs_set h hi hr]
 have h1 : ((q.take M).map (Value.int .u8)).length = M := by rw [List.length_map, List.length_take, hq.1]; omega
 have h2 : ((q.take M ++ (s.getD i []).drop M).map (Value.int .u8)).length = 64 := by rw [List.length_map, hr.1]
 apply List.ext_getElem?
 intro k
 rw [splice_get _ _ _ (by rw [hl, h1]; omega), splice_get _ _ _ (by rw [hl, h2]; omega), h1, h2]
 by_cases hk : i * 64 ≤ k ∧ k < i * 64 + M
 ·rw [if_pos hk, if_pos (by omega), List.map_append, List.getElem?_append_left (by rw [h1]; omega)]
 ·rw [if_neg hk]
  by_cases hk2 : i * 64 ≤ k ∧ k < i * 64 + 64
  ·rw [if_pos hk2, List.map_append, List.getElem?_append_right (by rw [h1]; omega), h1]
   have h3 := flat_get s i (k - i * 64) (fun p hp => (h p hp).1) hi (by omega)
   rw [show i * 64 + (k - i * 64) = k by omega] at h3
   unfold pcs
   rw [List.getElem?_map, h3, List.getElem?_map, List.getElem?_drop, show M + (k - i * 64 - M) = k - i * 64 by omega]
  ·rw [if_neg hk2]
theorem and_one (x : Int) (h0 : 0 ≤ x) (h1 : x < 18446744073709551616) : bits .and .u64 x 1 = x % 2 := by
 have e1 : ∀ y : Int, 0 ≤ y → y < 18446744073709551616 → (BitVec.ofInt 64 y).toNat = y.toNat := fun y a b => by rw [BitVec.toNat_ofInt]; simp; omega
 unfold bits; show IntKind.u64.wrap ((BitVec.ofInt 64 x &&& BitVec.ofInt 64 1).toNat : Int) = _
 rw [BitVec.toNat_and, e1 _ h0 h1, e1 _ (by omega) (by omega), show (1 : Int).toNat = 1 from rfl, Nat.and_one_is_mod, IntKind.wrap_u64]
 omega
theorem kept_bit (keep : Int) (h0 : 0 ≤ keep) (h1 : keep < 18446744073709551616) (k : Nat) : (bits .and .u64 (keep / (2 : Int) ^ (if (64 : Int) < (k : Int) then (64 : Int) else (k : Int)).toNat) 1 == 0) = !kept keep k := by
 have e : (if (64 : Int) < (k : Int) then (64 : Int) else (k : Int)).toNat = min k 64 := by split <;> omega
 rw [e]
 have hp : (1 : Int) ≤ 2 ^ (min k 64) := by
  have : (0 : Int) < 2 ^ (min k 64) := Int.pow_pos (by decide)
  omega
 have hq0 : 0 ≤ keep / (2 : Int) ^ (min k 64) := Int.ediv_nonneg h0 (by omega)
 have hq1 : keep / (2 : Int) ^ (min k 64) ≤ keep := Int.ediv_le_self _ h0
 rw [and_one _ hq0 (by omega)]
 unfold kept
 generalize keep / (2 : Int) ^ (min k 64) = y
 have : y % 2 = 0 ∨ y % 2 = 1 := by omega
 rcases this with h | h <;> rw [h] <;> rfl
theorem fail_ok {w : World} {B d : Nat} {F : Nat → Prop} {D : Dk} (h : Disk w B d F D) (hwl : D.waits.length ≤ 1000000) (keep torn : Int) (hk0 : 0 ≤ keep) (hk1 : keep < 18446744073709551616) (ht : -1 ≤ torn) (ht2 : torn < 9223372036854775808) :
  Calls Tryz.prog 17 #[.pointer (some ⟨d, 0, none⟩), .int .u64 keep, .int .i64 torn] w fun e w' => (∃ d' F', e = .returned (.tuple #[.pointer (some ⟨d', 0, none⟩), .int .i64 0]) ∧ Disk w' w.heap.size d' F' (D.fail keep torn)) ∧ Below w.heap.size w w' := by
 have H := Lib.hid h
 obtain ⟨S, E, W, L, hF⟩ := h
 have hsz := size H.out
 have hpos := L.ok.pos
 have hmost := L.ok.most
 obtain ⟨n, hn⟩ : ∃ n, n = D.seen.length := ⟨_, rfl⟩
 have hs := L.sure
 rw [L.ok.same] at hs
 rw [← hn] at hsz hpos hs hmost
 obtain ⟨A1, c1, rfl, -, -, hA1, hA1'⟩ := hs.slice
 cases A1 with
 | none => have := hA1 rfl; omega
 | some a1 =>
 obtain ⟨g1, rfl, hB1, hg1, hr1, ht1⟩ := hA1' _ rfl
 obtain ⟨Aw, cw, rfl, hNcw, -, hAw0, hAw'⟩ := L.waits.slice
 have hc0 := L.cell.1
 have hc2 := L.cell.2.2
 have hdlt : d < w.heap.size := (Array.getElem?_eq_some_iff.1 L.cells).1
 have hz : ((n : Int) == 0) = false := by rw [beq_eq_false_iff_ne]; omega
 have HL := Lib.hid (And.intro L (And.intro hn (And.intro hr1 (And.intro hAw' (And.intro hAw0 hNcw)))))
 have HZ := Lib.hid hsz
 have HK := Lib.hid (And.intro hk0 (And.intro hk1 (And.intro ht ht2)))
 clear L hF hn hs hA1 hA1' hr1 ht1 hsz hAw' hAw0 hNcw
 go_enter Tryz.func17, Tryz.ntmps17
 go_wp2_with fail
 refine HZ.out.mono ?_
 rintro e w' ⟨rfl, h⟩
 subst h
 go_wp2_with fail
 refine (clonep g1 n c1 D.sure w' (by rw [HL.out.1.ok.same, HL.out.2.1]) hmost HL.out.1.ok.sure HL.out.2.2.1).mono ?_
 rintro e w2 ⟨v, rfl, o2, b2⟩
 obtain ⟨A2, c2, rfl, hnc2, -, hA2, hA2'⟩ := o2.slice
 cases A2 with
 | none => have := hA2 rfl; omega
 | some a2 =>
 obtain ⟨g2, rfl, hB2, hg2, hr2, ht2'⟩ := hA2' _ rfl
 have H2 := Lib.hid (And.intro o2 b2)
 clear hA2 hA2' hr2 ht2' o2
 have b3 : Below w'.heap.size w' (w2.alloc (.cells #[.slice (some ⟨g2, 0, none⟩) n c2, .slice none 0 0, .slice none 0 0] 121)) := b2.alloc b2.size _
 have hc2' : (w2.alloc (.cells #[.slice (some ⟨g2, 0, none⟩) n c2, .slice none 0 0, .slice none 0 0] 121)).cell? ⟨d, 2, none⟩ = some (.slice Aw D.waits.length cw) := by
  rw [b3.cell (p := ⟨d, 2, none⟩) hdlt]; exact hc2
 have r3 := H2.out.1.alloc (.cells #[.slice (some ⟨g2, 0, none⟩) n c2, .slice none 0 0, .slice none 0 0] 121)
 have d3 := heap_alloc_new w2 (.cells #[.slice (some ⟨g2, 0, none⟩) n c2, .slice none 0 0, .slice none 0 0] 121)
 have hgd : g2 ≠ w2.heap.size := by omega
 have H3 := Lib.hid (And.intro b3 (And.intro r3 d3))
 have hb2 := b2.size
 clear b2 b3 r3 d3 hc0 hc2 H2
 go_wp2
 obtain ⟨N, hN⟩ : ∃ N, N = D.waits.length := ⟨_, rfl⟩
 rw [← hN] at hwl ⊢
 obtain ⟨Z, hZ⟩ : ∃ Z : Array Value, Z = (.int .i64 0 :: List.replicate 64 (.int .u8 0)).toArray := ⟨_, rfl⟩
 have hz2 : ∀ W, (zeroValue 123).run Tryz.prog W = .ok (.agg Z) W := fun W => by subst hZ; kernel_rfl
 have HN := Lib.hid (And.intro hN hZ)
 clear hN hZ
 go_loopw [31] (fun i wr => ∃ k : Nat, k ≤ N ∧ i = .int .i64 k ∧ Hid (Below w'.heap.size w' wr) ∧ Hid (RowV wr w'.heap.size 118 64 (.slice (some ⟨g2, 0, none⟩) n c2) n (pcs (failK keep torn D.sure D.waits k))) ∧
  Hid (wr.heap[w2.heap.size]? = some (.cells #[.slice (some ⟨g2, 0, none⟩) n c2, .slice none 0 0, .slice none 0 0] 121 (0, 0)))) (fun i _ => N - (intOf i).toNat)
 case atStart => exact ⟨0, by omega, rfl, H3.out.1, H3.out.2.1, H3.out.2.2⟩
 case round =>
  obtain ⟨k, hk, rfl, hbd, hrow, hdk⟩ := hrel
  by_cases hlt : k < N
  ·obtain ⟨gw, rfl, hgwB, hgw, hrw⟩ : ∃ gw, Aw = some ⟨gw, 0, none⟩ ∧ B ≤ gw ∧ gw < w'.heap.size ∧ w'.rangeAt gw 0 (wcs D.waits) := by
    cases Aw with
    | none => have := HL.out.2.2.2.2.1 rfl; have := HN.out.1; omega
    | some aw =>
     obtain ⟨gw, e, h1, h2, h3, _⟩ := HL.out.2.2.2.1 _ rfl
     exact ⟨gw, by rw [e], h1, h2, h3⟩
   have hNc := HL.out.2.2.2.2.2
   rw [← HN.out.1] at hNc
   obtain ⟨x, hx⟩ : ∃ x, D.waits[k]? = some x := ⟨_, List.getElem?_eq_getElem (by rw [← HN.out.1]; exact hlt)⟩
   have hxo := HL.out.1.ok.waits x (List.mem_of_getElem? hx)
   rw [← HL.out.2.1] at hxo
   obtain ⟨cs, hcs⟩ : ∃ cs, cs = (Value.int .i64 x.1 :: x.2.map (Value.int .u8)) := ⟨_, rfl⟩
   have hcl : cs.length = 65 := by rw [hcs]; simp [hxo.1.1]
   have hrk : wr.rangeAt gw (k * 65) cs := by
    intro j v hv
    have hj : j < 65 := by rw [← hcl]; exact (List.getElem?_eq_some_iff.1 hv).1
    have h1 := wcs_get D.waits k j x (fun y hy => (HL.out.1.ok.waits y hy).1.1) hx hj
    rw [← hcs] at h1
    have h2 := hrw (k * 65 + j) v (h1.trans hv)
    rw [Nat.zero_add] at h2
    rw [hbd.out.cell (p := ⟨gw, k * 65 + j, none⟩) hgw]
    exact h2
   have hzs : Z.size = 65 := by rw [HN.out.2]; simp
   have hnew := heap_alloc_new wr (.cells Z 123)
   have hth : (wr.alloc (.cells Z 123)).there wr.heap.size 0 cs.toArray.size := by
    intro j hj
    simp only [List.size_toArray, hcl] at hj
    rw [Nat.zero_add]
    exact ⟨by rw [cell_of_row _ _ _ _ _ _ hnew, Array.getElem?_eq_getElem (by omega)]; rfl, frozen_of_row _ _ _ _ _ hnew⟩
   have hone : cs.toArray.all (·.oneCell') = true := all_oneCell_toArray (fun v hv => by
    rw [hcs] at hv
    rcases List.mem_cons.1 hv with rfl | hv
    ·rfl
    ·obtain ⟨y, _, rfl⟩ := List.mem_map.1 hv; rfl)
   have hsize : (Tryz.prog.info? 123).map (·.size) = some cs.length := by rw [hcl]; kernel_rfl
   have hsize2 : (Tryz.prog.info? 123).map (·.size) = some cs.toArray.size := by simp only [List.size_toArray]; exact hsize
   have HC := Lib.hid (And.intro hcs (And.intro hcl (And.intro hxo hx)))
   have HR := Lib.hid (And.intro hrk (And.intro hth (And.intro hone (And.intro hsize hsize2))))
   clear hcs hcl hxo hx hrk hth hone hsize hsize2 hzs hnew hrw
   have hbit := kept_bit keep HK.out.1 HK.out.2.1 k
   have b5 : Below w'.heap.size w' ((wr.alloc (.cells Z 123)).setCells wr.heap.size 0 cs) := (hbd.out.alloc hbd.out.size _).trans ((chg_setCells wr.heap.size cs 0 _).to_below (by have := hbd.out.size; simp; omega) (fun k hk => by rw [hk]; exact hbd.out.size))
   have r5 : RowV ((wr.alloc (.cells Z 123)).setCells wr.heap.size 0 cs) w'.heap.size 118 64 (.slice (some ⟨g2, 0, none⟩) n c2) n (pcs (failK keep torn D.sure D.waits k)) :=
    (hrow.out.alloc _).kept (chg_setCells wr.heap.size cs 0 _) (fun j hj h => by have := (hrow.out.lt j hj).2; omega)
   have hdl : w2.heap.size < wr.heap.size := (Array.getElem?_eq_some_iff.1 hdk.out).1
   have d5 : ((wr.alloc (.cells Z 123)).setCells wr.heap.size 0 cs).heap[w2.heap.size]? = some (.cells #[.slice (some ⟨g2, 0, none⟩) n c2, .slice none 0 0, .slice none 0 0] 121 (0, 0)) := by
    rw [(chg_setCells wr.heap.size cs 0 _).block _ (by simp; omega) (by omega), Below.heap_alloc _ _ _ hdl]; exact hdk.out
   have p5 : ((wr.alloc (.cells Z 123)).setCells wr.heap.size 0 cs).rangeAt wr.heap.size 0 cs := World.rangeAt_setCells_same _ _ _ _ (by have := HR.out.2.1; simpa using this)
   have hgl2 : g2 < wr.heap.size := (hrow.out.lt g2 rfl).2
   have H5 := Lib.hid (And.intro b5 (And.intro r5 (And.intro d5 p5)))
   clear b5 r5 d5 p5
   cases hkp : kept keep k with
   | false =>
    rw [hkp] at hbit
    have hbit : (bits .and .u64 (keep / (2 : Int) ^ (if (64 : Int) < (k : Int) then (64 : Int) else (k : Int)).toNat) 1 == 0) = true := hbit
    go_wp2_with (first
     | (refine wpList_load_mid rfl _ (.tmp 34) rfl gw (k * 65) rfl cs _ HR.out.1 Tryz.underlying123 rfl HR.out.2.2.2.1 ?_)
     | (refine wpList_store_mid rfl _ (.tmp 10) (.tmp 35) rfl wr.heap.size 0 cs.toArray rfl rfl HR.out.2.1 HR.out.2.2.2.2 HR.out.2.2.1 ?_; clear hz2))
    go_roundw
    case rel =>
     refine ⟨k + 1, by omega, rfl, H5.out.1, ?_, H5.out.2.2.1⟩
     have e : failK keep torn D.sure D.waits (k + 1) = failK keep torn D.sure D.waits k := by
      show (match D.waits[k]? with | none => _ | some x => _) = _
      rw [HC.out.2.2.2]
      show step _ _ _ _ _ = _
      unfold step
      rw [hkp]; rfl
     rw [e]; exact H5.out.2.1
    case measure => simp [intOf]; omega
   | true =>
    rw [hkp] at hbit
    have hbit : (bits .and .u64 (keep / (2 : Int) ^ (if (64 : Int) < (k : Int) then (64 : Int) else (k : Int)).toNat) 1 == 0) = false := hbit
    obtain ⟨M, hM⟩ : ∃ M : Nat, M = part torn k := ⟨_, rfl⟩
    obtain ⟨a, ha⟩ : ∃ a : Nat, x.1 = a := ⟨x.1.toNat, by have := HC.out.2.2.1.2.1; omega⟩
    have han : a < n := by have := HC.out.2.2.1.2.2; omega
    have hq1 : ((wr.alloc (.cells Z 123)).setCells wr.heap.size 0 cs).cell? ⟨w2.heap.size, 0, none⟩ = some (.slice (some ⟨g2, 0, none⟩) n c2) := by rw [cell_of_row _ _ _ _ _ _ H5.out.2.2.1]; rfl
    have hq2 : ((wr.alloc (.cells Z 123)).setCells wr.heap.size 0 cs).cell? ⟨wr.heap.size, 0, none⟩ = some (.int .i64 a) := by
     have h := H5.out.2.2.2 0 (.int .i64 x.1) (by rw [HC.out.1]; rfl)
     rw [ha] at h
     exact h
    have HA := Lib.hid ha
    clear ha
    by_cases htk : (k : Int) = torn
    ·have htk' : ((k : Int) == torn) = true := by rw [beq_iff_eq]; exact htk
     have hM2 : M = 32 := by rw [hM]; unfold part; rw [if_pos htk]
     have HM := Lib.hid (And.intro hM hM2)
     clear htk hM hM2
     have hMl : (32 : Int) ≤ (Tryz.prog.arrayLen 118 : Int) := by rw [show Tryz.prog.arrayLen 118 = 64 from by kernel_rfl]; decide
     go_wp2_with (first
      | (refine wpList_load_mid rfl _ (.tmp 34) rfl gw (k * 65) rfl cs _ HR.out.1 Tryz.underlying123 rfl HR.out.2.2.2.1 ?_)
      | (refine wpList_store_mid rfl _ (.tmp 10) (.tmp 35) rfl wr.heap.size 0 cs.toArray rfl rfl HR.out.2.1 HR.out.2.2.2.2 HR.out.2.2.1 ?_; clear hz2))
     all_goals
      refine wp_region_sl [u_ 0 47, u_ 1 48, u_ 2 49, u_ 3 50, u_ 4 51, u_ 5 52, u_ 6 53, u_ 7 54, u_ 8 55, u_ 9 56, u_ 10 57, .one (11, false, some 58)]
        [m_ 47 8 23,
        c_ 48 47,
        f_ 49 121 48 0,
        l_ 50 115 49,
        f_ 51 123 10 0,
        l_ 52 3 51,
        i_ 53 115 50 52,
        m_ 54 11 3,
        .one ⟨true, some 55, (.slice 118 (.tmp 53) none (some (.tmp 54)) none), 92, none⟩,
        f_ 56 123 10 1,
        .one ⟨true, some 57, (.slice 118 (.tmp 56) none none none), 92, none⟩,
        .one ⟨false, some 58, (.call { callee := (.builtin Go.Builtin.copy), args := #[(.tmp 55), (.tmp 57)], argTypes := #[92, 92] }), 3, none⟩]
        (fun w3 => w3.cell? ⟨w2.heap.size, 0, none⟩ = some (.slice (some ⟨g2, 0, none⟩) n c2) ∧ w3.cell? ⟨wr.heap.size, 0, none⟩ = some (.int .i64 a)) rfl (by kernel_rfl) (by kernel_rfl) ?_ ?_
      ·exact ⟨hq1, hq2⟩
      (repeat (first | ((first | ((with_reducible refine sq (v := ?_) (a' := ?_) ?_ ?_ ?_); rotate_left 2; (focus (intro w' hS; go_simp; (first | done | with_reducible rfl | rfl)))) | ((with_reducible refine sn (a' := ?_) ?_ ?_ ?_); rotate_left; (focus rfl)) | ((with_reducible refine sf trivial (a' := ?_) ?_ ?_ ?_); rotate_left; (focus rfl)) | ((with_reducible refine sqg (v := ?_) (a' := ?_) ?_ ?_ ?_ ?_); rotate_left 2; (focus rfl); (focus (intro w' hS; go_simp; (first | done | with_reducible rfl | rfl))))); (simp only [Act.put, List.setIfInBounds_toArray, List.set_cons_zero, List.set_cons_succ]; rfl)) | go_bits))
      refine se' fun K hK => ?_
      obtain ⟨w5, hw5⟩ : ∃ w5, w5 = ((wr.alloc (.cells Z 123)).setCells wr.heap.size 0 cs).drew := ⟨_, rfl⟩
      rw [← hw5]
      have b5 : Below w'.heap.size w' w5 := by rw [hw5]; exact H5.out.1.drew
      have r5 : RowV w5 w'.heap.size 118 64 (.slice (some ⟨g2, 0, none⟩) n c2) n (pcs (failK keep torn D.sure D.waits k)) := by rw [hw5]; exact H5.out.2.1.kept (Chg.drew _) (fun _ _ h => h)
      have d5 : w5.heap[w2.heap.size]? = some (.cells #[.slice (some ⟨g2, 0, none⟩) n c2, .slice none 0 0, .slice none 0 0] 121 (0, 0)) := by rw [hw5]; exact H5.out.2.2.1
      have p5 : w5.rangeAt wr.heap.size 0 cs := by rw [hw5]; exact H5.out.2.2.2
      have q5 : w5.cell? ⟨wr.heap.size, 0, none⟩ = some (.int .i64 a) := by rw [hw5]; exact hq2
      have hcT : ((x.2.take 32).map (Value.int .u8)).length = 32 := by rw [List.length_map, List.length_take, HC.out.2.2.1.1.1]; rfl
      have hfk := failK_pc HL.out.1.ok keep torn k
      rw [← HL.out.2.1] at hfk
      have hth5 : w5.there g2 0 (n * 64) := by
       obtain ⟨A3, c3, e3, -, -, -, h3⟩ := r5.slice
       injection e3 with e4
       obtain ⟨g3, e5, _, _, _, h4⟩ := h3 _ e4.symm
       injection e5 with e5
       subst e5
       exact h4
      refine wp_copy_v (.tmp 55) (.tmp 57) _ _ 5 1 g2 (a * 64) 32 64 ⟨wr.heap.size, 1, none⟩ 64 64 32 ((x.2.take 32).map (Value.int .u8)) rfl rfl rfl Tryz.underlying92 (by kernel_rfl) rfl (by rw [hcT]) ?_ ?_ (fun v hv => by obtain ⟨y, _, rfl⟩ := List.mem_map.1 hv; rfl) ?_
      ·intro j v hv
       have hj : j < 32 := by rw [← hcT]; exact (List.getElem?_eq_some_iff.1 hv).1
       rw [Addr.add_mid]
       have h1 := p5 (1 + j) v (by
        rw [HC.out.1, Nat.add_comm, List.getElem?_cons_succ]
        rw [List.map_take, List.getElem?_take, if_pos hj] at hv
        exact hv)
       rw [Nat.zero_add] at h1
       exact h1
      ·intro j hj
       rw [hcT] at hj
       have h1 := hth5 (a * 64 + j) (by omega)
       rw [Nat.zero_add] at h1
       exact h1
      have c6 := chg_setCells g2 ((x.2.take 32).map (Value.int .u8)) (a * 64) w5
      have r6 : RowV (w5.setCells g2 (a * 64) ((x.2.take 32).map (Value.int .u8))) w'.heap.size 118 64 (.slice (some ⟨g2, 0, none⟩) n c2) n (pcs (failK keep torn D.sure D.waits (k + 1))) := by
       have h1 := r5.set (a * 64) ((x.2.take 32).map (Value.int .u8)) (by rw [hcT]; omega)
       rw [pcs_part hfk.2 (by rw [hfk.1]; exact han) HC.out.2.2.1.1 (by decide)] at h1
       have e : failK keep torn D.sure D.waits (k + 1) = (failK keep torn D.sure D.waits k).set a (x.2.take 32 ++ ((failK keep torn D.sure D.waits k).getD a []).drop 32) := by
        show (match D.waits[k]? with | none => _ | some x => _) = _
        rw [HC.out.2.2.2]
        show step _ _ _ _ _ = _
        unfold step
        rw [hkp, if_pos rfl, HA.out, Int.toNat_natCast, ← HM.out.1, HM.out.2]
       rw [e]; exact h1
      have d6 : (w5.setCells g2 (a * 64) ((x.2.take 32).map (Value.int .u8))).heap[w2.heap.size]? = some (.cells #[.slice (some ⟨g2, 0, none⟩) n c2, .slice none 0 0, .slice none 0 0] 121 (0, 0)) := by
       rw [c6.block _ (Array.getElem?_eq_some_iff.1 d5).1 (Ne.symm hgd)]; exact d5
      have b6 : Below w'.heap.size w' (w5.setCells g2 (a * 64) ((x.2.take 32).map (Value.int .u8))) := c6.below b5 b5.size (fun k hk => by rw [hk]; exact hB2)
      refine hK _ _ ⟨by rw [cell_of_row _ _ _ _ _ _ d6]; rfl, by rw [World.cell?_setCells_out _ _ _ _ _ (fun hb _ => by have hb : wr.heap.size = g2 := hb; omega)]; exact q5⟩ fun a'' ha => ?_
      have H6 := Lib.hid (And.intro b6 (And.intro r6 d6))
      obtain ⟨w6, hw6⟩ : ∃ w6, w6 = w5.setCells g2 (a * 64) ((x.2.take 32).map (Value.int .u8)) := ⟨_, rfl⟩
      rw [← hw6] at H6 ⊢
      clear hK b5 r5 d5 p5 q5 hcT hfk hth5 c6 r6 d6 b6 hw5 hw6 hq1 hq2
      try (simp only [Act.put, List.setIfInBounds_toArray, List.set_cons_zero, List.set_cons_succ] at ha)
      subst ha
      refine sl_end ?_
      go_wp2
      go_roundw
      case rel => exact ⟨k + 1, by omega, rfl, H6.out.1, H6.out.2.1, H6.out.2.2⟩
      case measure => simp [intOf]; omega
    ·have htk' : ((k : Int) == torn) = false := by rw [beq_eq_false_iff_ne]; exact htk
     have hM2 : M = 64 := by rw [hM]; unfold part; rw [if_neg htk]
     have HM := Lib.hid (And.intro hM hM2)
     clear htk hM hM2
     have hMl : (64 : Int) ≤ (Tryz.prog.arrayLen 118 : Int) := by rw [show Tryz.prog.arrayLen 118 = 64 from by kernel_rfl]; decide
     go_wp2_with (first
      | (refine wpList_load_mid rfl _ (.tmp 34) rfl gw (k * 65) rfl cs _ HR.out.1 Tryz.underlying123 rfl HR.out.2.2.2.1 ?_)
      | (refine wpList_store_mid rfl _ (.tmp 10) (.tmp 35) rfl wr.heap.size 0 cs.toArray rfl rfl HR.out.2.1 HR.out.2.2.2.2 HR.out.2.2.1 ?_; clear hz2))
     all_goals
      refine wp_region_sl [u_ 0 47, u_ 1 48, u_ 2 49, u_ 3 50, u_ 4 51, u_ 5 52, u_ 6 53, u_ 7 54, u_ 8 55, u_ 9 56, u_ 10 57, .one (11, false, some 58)]
        [m_ 47 8 23,
        c_ 48 47,
        f_ 49 121 48 0,
        l_ 50 115 49,
        f_ 51 123 10 0,
        l_ 52 3 51,
        i_ 53 115 50 52,
        m_ 54 11 3,
        .one ⟨true, some 55, (.slice 118 (.tmp 53) none (some (.tmp 54)) none), 92, none⟩,
        f_ 56 123 10 1,
        .one ⟨true, some 57, (.slice 118 (.tmp 56) none none none), 92, none⟩,
        .one ⟨false, some 58, (.call { callee := (.builtin Go.Builtin.copy), args := #[(.tmp 55), (.tmp 57)], argTypes := #[92, 92] }), 3, none⟩]
        (fun w3 => w3.cell? ⟨w2.heap.size, 0, none⟩ = some (.slice (some ⟨g2, 0, none⟩) n c2) ∧ w3.cell? ⟨wr.heap.size, 0, none⟩ = some (.int .i64 a)) rfl (by kernel_rfl) (by kernel_rfl) ?_ ?_
      ·exact ⟨hq1, hq2⟩
      (repeat (first | ((first | ((with_reducible refine sq (v := ?_) (a' := ?_) ?_ ?_ ?_); rotate_left 2; (focus (intro w' hS; go_simp; (first | done | with_reducible rfl | rfl)))) | ((with_reducible refine sn (a' := ?_) ?_ ?_ ?_); rotate_left; (focus rfl)) | ((with_reducible refine sf trivial (a' := ?_) ?_ ?_ ?_); rotate_left; (focus rfl)) | ((with_reducible refine sqg (v := ?_) (a' := ?_) ?_ ?_ ?_ ?_); rotate_left 2; (focus rfl); (focus (intro w' hS; go_simp; (first | done | with_reducible rfl | rfl))))); (simp only [Act.put, List.setIfInBounds_toArray, List.set_cons_zero, List.set_cons_succ]; rfl)) | go_bits))
      refine se' fun K hK => ?_
      obtain ⟨w5, hw5⟩ : ∃ w5, w5 = ((wr.alloc (.cells Z 123)).setCells wr.heap.size 0 cs).drew := ⟨_, rfl⟩
      rw [← hw5]
      have b5 : Below w'.heap.size w' w5 := by rw [hw5]; exact H5.out.1.drew
      have r5 : RowV w5 w'.heap.size 118 64 (.slice (some ⟨g2, 0, none⟩) n c2) n (pcs (failK keep torn D.sure D.waits k)) := by rw [hw5]; exact H5.out.2.1.kept (Chg.drew _) (fun _ _ h => h)
      have d5 : w5.heap[w2.heap.size]? = some (.cells #[.slice (some ⟨g2, 0, none⟩) n c2, .slice none 0 0, .slice none 0 0] 121 (0, 0)) := by rw [hw5]; exact H5.out.2.2.1
      have p5 : w5.rangeAt wr.heap.size 0 cs := by rw [hw5]; exact H5.out.2.2.2
      have q5 : w5.cell? ⟨wr.heap.size, 0, none⟩ = some (.int .i64 a) := by rw [hw5]; exact hq2
      have hcT : ((x.2.take 64).map (Value.int .u8)).length = 64 := by rw [List.length_map, List.length_take, HC.out.2.2.1.1.1]; rfl
      have hfk := failK_pc HL.out.1.ok keep torn k
      rw [← HL.out.2.1] at hfk
      have hth5 : w5.there g2 0 (n * 64) := by
       obtain ⟨A3, c3, e3, -, -, -, h3⟩ := r5.slice
       injection e3 with e4
       obtain ⟨g3, e5, _, _, _, h4⟩ := h3 _ e4.symm
       injection e5 with e5
       subst e5
       exact h4
      refine wp_copy_v (.tmp 55) (.tmp 57) _ _ 5 1 g2 (a * 64) 64 64 ⟨wr.heap.size, 1, none⟩ 64 64 64 ((x.2.take 64).map (Value.int .u8)) rfl rfl rfl Tryz.underlying92 (by kernel_rfl) rfl (by rw [hcT]) ?_ ?_ (fun v hv => by obtain ⟨y, _, rfl⟩ := List.mem_map.1 hv; rfl) ?_
      ·intro j v hv
       have hj : j < 64 := by rw [← hcT]; exact (List.getElem?_eq_some_iff.1 hv).1
       rw [Addr.add_mid]
       have h1 := p5 (1 + j) v (by
        rw [HC.out.1, Nat.add_comm, List.getElem?_cons_succ]
        rw [List.map_take, List.getElem?_take, if_pos hj] at hv
        exact hv)
       rw [Nat.zero_add] at h1
       exact h1
      ·intro j hj
       rw [hcT] at hj
       have h1 := hth5 (a * 64 + j) (by omega)
       rw [Nat.zero_add] at h1
       exact h1
      have c6 := chg_setCells g2 ((x.2.take 64).map (Value.int .u8)) (a * 64) w5
      have r6 : RowV (w5.setCells g2 (a * 64) ((x.2.take 64).map (Value.int .u8))) w'.heap.size 118 64 (.slice (some ⟨g2, 0, none⟩) n c2) n (pcs (failK keep torn D.sure D.waits (k + 1))) := by
       have h1 := r5.set (a * 64) ((x.2.take 64).map (Value.int .u8)) (by rw [hcT]; omega)
       rw [pcs_part hfk.2 (by rw [hfk.1]; exact han) HC.out.2.2.1.1 (by decide)] at h1
       have e : failK keep torn D.sure D.waits (k + 1) = (failK keep torn D.sure D.waits k).set a (x.2.take 64 ++ ((failK keep torn D.sure D.waits k).getD a []).drop 64) := by
        show (match D.waits[k]? with | none => _ | some x => _) = _
        rw [HC.out.2.2.2]
        show step _ _ _ _ _ = _
        unfold step
        rw [hkp, if_pos rfl, HA.out, Int.toNat_natCast, ← HM.out.1, HM.out.2]
       rw [e]; exact h1
      have d6 : (w5.setCells g2 (a * 64) ((x.2.take 64).map (Value.int .u8))).heap[w2.heap.size]? = some (.cells #[.slice (some ⟨g2, 0, none⟩) n c2, .slice none 0 0, .slice none 0 0] 121 (0, 0)) := by
       rw [c6.block _ (Array.getElem?_eq_some_iff.1 d5).1 (Ne.symm hgd)]; exact d5
      have b6 : Below w'.heap.size w' (w5.setCells g2 (a * 64) ((x.2.take 64).map (Value.int .u8))) := c6.below b5 b5.size (fun k hk => by rw [hk]; exact hB2)
      refine hK _ _ ⟨by rw [cell_of_row _ _ _ _ _ _ d6]; rfl, by rw [World.cell?_setCells_out _ _ _ _ _ (fun hb _ => by have hb : wr.heap.size = g2 := hb; omega)]; exact q5⟩ fun a'' ha => ?_
      have H6 := Lib.hid (And.intro b6 (And.intro r6 d6))
      obtain ⟨w6, hw6⟩ : ∃ w6, w6 = w5.setCells g2 (a * 64) ((x.2.take 64).map (Value.int .u8)) := ⟨_, rfl⟩
      rw [← hw6] at H6 ⊢
      clear hK b5 r5 d5 p5 q5 hcT hfk hth5 c6 r6 d6 b6 hw5 hw6 hq1 hq2
      try (simp only [Act.put, List.setIfInBounds_toArray, List.set_cons_zero, List.set_cons_succ] at ha)
      subst ha
      refine sl_end ?_
      go_wp2
      go_roundw
      case rel => exact ⟨k + 1, by omega, rfl, H6.out.1, H6.out.2.1, H6.out.2.2⟩
      case measure => simp [intOf]; omega
  ·obtain rfl : N = k := by omega
   clear hz2
   have hfk := failK_pc HL.out.1.ok keep torn D.waits.length
   have hd0 : wr.cell? ⟨w2.heap.size, 0, none⟩ = some (.slice (some ⟨g2, 0, none⟩) n c2) := by rw [cell_of_row _ _ _ _ _ _ hdk.out]; rfl
   obtain ⟨s, hs⟩ : ∃ s, s = failK keep torn D.sure D.waits N := ⟨_, rfl⟩
   have hsN : s = failK keep torn D.sure D.waits D.waits.length := by rw [hs, HN.out.1]
   have hrow2 := hrow.out
   rw [← hs] at hrow2
   rw [← hsN] at hfk
   have hrg : wr.rangeAt g2 0 (pcs s) := by
    obtain ⟨A3, c3, e3, -, -, -, h3⟩ := hrow2.slice
    injection e3 with e4
    obtain ⟨g3, e5, _, _, h4, _⟩ := h3 _ e4.symm
    injection e5 with e5
    subst e5
    exact h4
   have HS := Lib.hid (And.intro hsN (And.intro hrow2 (And.intro hrg hfk)))
   clear hs hsN hrow2 hrg hfk hrow
   go_wp2_with fail
   refine (clonep g2 n c2 s wr (by rw [HS.out.2.2.2.1, HL.out.2.1]) hmost HS.out.2.2.2.2 HS.out.2.2.1).mono ?_
   rintro e w4 ⟨v4, rfl, o4, b4⟩
   have hd4 : w4.heap[w2.heap.size]? = some (.cells #[.slice (some ⟨g2, 0, none⟩) n c2, .slice none 0 0, .slice none 0 0] 121 (0, 0)) := by
    rw [b4.block _ (Array.getElem?_eq_some_iff.1 hdk.out).1]; exact hdk.out
   obtain ⟨A4, c4, hv4, hn4, -, hA4, hA4'⟩ := o4.slice
   cases A4 with
   | none => have := hA4 rfl; omega
   | some a4 =>
   obtain ⟨g4, rfl, hB4, hg4, -, -⟩ := hA4' _ rfl
   subst hv4
   have hcell4 : w4.cell? ⟨w2.heap.size, 1, none⟩ = some (.slice none 0 0) := by rw [cell_of_row _ _ _ _ _ _ hd4]; rfl
   have hf4 : w4.frozen? ⟨w2.heap.size, 1, none⟩ = false := frozen_of_row _ _ _ _ _ hd4
   have hdl : w2.heap.size < wr.heap.size := (Array.getElem?_eq_some_iff.1 hdk.out).1
   have hgl : g2 < wr.heap.size := (HS.out.2.1.lt g2 rfl).2
   have H4 := Lib.hid (And.intro o4 (And.intro b4 hd4))
   clear hA4 hA4' o4 b4 hd4 hd0
   go_wp2
   go_ret2
   refine ⟨⟨_, blocks w2.heap.size (.slice (some ⟨g2, 0, none⟩) n c2) (.slice (some ⟨g4, 0, none⟩) n c4) (.slice none 0 0), rfl, _, _, _, ⟨?_, hb2, ?_, ?_, RowV.nil _ _ _ _, ?_, ?_, ?_, ?_, Sep.nil _, Sep.nil _, HL.out.1.ok.fail keep torn⟩, fun k => Iff.rfl⟩, ?_⟩
   ·exact heap_setCell_same w4 w2.heap.size 1 _ 121 _ H4.out.2.2
   ·have h := (HS.out.2.1.new H4.out.2.1).kept (Chg.setCell w4 ⟨w2.heap.size, 1, none⟩ (.slice (some ⟨g4, 0, none⟩) n c4)) (fun k hk h => by injection hk with hk; have h : k = w2.heap.size := h; have hk : g2 = k := hk; omega)
    show RowV _ _ _ _ _ (failK keep torn D.sure D.waits D.waits.length).length (pcs (failK keep torn D.sure D.waits D.waits.length))
    rw [← HS.out.1, HS.out.2.2.2.1, ← HL.out.2.1]
    exact h
   ·have h := (H4.out.1.lower (B' := w'.heap.size) hbd.out.size).kept (Chg.setCell w4 ⟨w2.heap.size, 1, none⟩ (.slice (some ⟨g4, 0, none⟩) n c4)) (fun k hk h => by injection hk with hk; have h : k = w2.heap.size := h; have hk : g4 = k := hk; omega)
    show RowV _ _ _ _ _ (failK keep torn D.sure D.waits D.waits.length).length (pcs (failK keep torn D.sure D.waits D.waits.length))
    rw [← HS.out.1, HS.out.2.2.2.1, ← HL.out.2.1]
    exact h
   ·intro e; injection e with e; exact hgd e
   ·intro e; injection e with e; have e : g4 = w2.heap.size := e; omega
   ·intro e; simp [Value.ownBlock] at e
   ·intro e; injection e with e; have e : g2 = g4 := e; omega
   ·exact (hbd.out.trans (below_weak hbd.out.size H4.out.2.1)).setCell hb2 _
end Go.Proofs.YticnjkdaccacaaaGreat.Disk
end
