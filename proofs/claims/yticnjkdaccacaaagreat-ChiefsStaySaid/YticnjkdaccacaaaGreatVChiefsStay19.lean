/- Texts of this work, one behind the other. -/
import Derived.Test.YticnjkdaccacaaaGreatVChiefsStay18
import Derived.Test.YticnjkdaccacaaaGreatRows
import Derived.WalkKit
import Derived.ProofKit
import Derived.OpenShut
import Derived.ShutString
import Derived.ChangeOld
import Derived.Below
import Derived.SizedLaws
import Derived.KernelRfl
set_option maxRecDepth 100000
set_option maxHeartbeats 16000000
section
namespace Go.Proofs.YticnjkdaccacaaaGreat.Sx
open Go Go.RowKit Base Oq OwnV Disk
def cmR (g : Int) (ss : List Int) : List Int := 99 :: (fourL g ++ ss)
section
variable {w w0 : World} {R : List Asn} {b bl bm bk bw bd : Nat} {last now x : Int} {m : List (Int × Int)} {gs : Gs} {D : Dk}
theorem learns_commit {A : Option Addr} {c : Nat} {g : Int} {ss : List Int} (hss : 1 ≤ ss.length ∧ ss.length ≤ 3) (hs3 : ∀ z ∈ ss, 1 ≤ z ∧ z ≤ 3) (hg : 1 ≤ g ∧ g ≤ 4294967295) (hR : ∀ w', Sat w0 w' R → Rk .u8 w' A (cmR g ss)) (hm : (cmR g ss).length ≤ c ∧ c ≤ maxLen) {j : Nat} (hi : idxG (gs.map (·.2)) g = some j) (hj : j < gs.length) (hI : GlI gs[j].2) (hpart : ∀ i (h : i < ss.length), partAt (cmG gs[j].2 (ss.take i)) ss[i].toNat = false) (S : Sat w0 w (chW b bl bm last bk bw now bd gs m x D R)) :
  Calls Tryz.prog 52 #[.pointer (some ⟨b, 0, none⟩), .slice A (cmR g ss).length c] w fun e w' => e = .returned (.bool true) ∧ Sat w0 w' (chW b bl bm last bk bw now bd (gs.set j (gs[j].1, cmG gs[j].2 ss)) m x D R) := by
 refine calls_start (N := 149) [.pointer (some ⟨b, 0, none⟩), .slice A (cmR g ss).length c] Tryz.func52 rfl rfl rfl (vok_c rfl (vok_c (vok_sl hm) rfl)) fun a fr => ?_
 have hrk : ∀ {w'}, Sat w0 w' (chW b bl bm last bk bw now bd gs m x D R) → Rk .u8 w' A (cmR g ss) := fun S' => hR _ (Sat.past S')
 have hback := four_back2 (g := g) (by omega)
 have hn : (cmR g ss).length = 5 + ss.length := by simp [cmR, fourL]; omega
 refine r_ rfl ?_
 repeat refine w_ oCh_ rfl fr fun a fr => ?_
 refine er_ rfl rfl ?_
 repeat refine w_ oCh_ rfl fr fun a fr => ?_
 have fr := fr.bool (d := 12) rfl (decide_eq_false (show ¬ ((cmR g ss).length : Int) < 5 by omega))
 repeat refine w_ oCh_ rfl fr fun a fr => ?_
 refine wl_ld oCh_ (hrk S) fr rfl rfl rfl rfl rfl rfl rfl rfl rfl rfl rfl rfl rfl rfl rfl rfl ⟨by decide, by rw [hn]; omega⟩ fun a fr => ?_
 have fr := fr.spell (d := 15) rfl (show Value.int .u8 ((cmR g ss).getD (0 : Int).toNat 0) = .int .u8 99 from rfl)
 repeat refine w_ oCh_ rfl fr fun a fr => ?_
 have fr := fr.bool (d := 22) rfl (show (((99 : Int) == 99) != decide (((cmR g ss).length : Int) > 5)) = false by rw [decide_eq_true (show ((cmR g ss).length : Int) > 5 by omega)]; rfl)
 repeat refine w_ oCh_ rfl fr fun a fr => ?_
 have fr := fr.bool (d := 26) rfl (decide_eq_false (show ¬ ((cmR g ss).length : Int) > 8 by omega))
 repeat refine w_ oCh_ rfl fr fun a fr => ?_
 refine eq_ rfl rfl ?_
 refine cw_f fr rfl ?_
 refine wp_skip ?_
 refine q_ rfl ?_
 refine wp_region_sl [u_ 0 27, u_ 1 28, u_ 2 29, u_ 3 30, u_ 4 31, u_ 5 32, u_ 6 33, u_ 7 34, u_ 8 35, u_ 9 36, u_ 10 37, u_ 11 38, u_ 12 39, u_ 13 40, u_ 14 41, u_ 15 42, u_ 16 43, u_ 17 44, u_ 18 45, u_ 19 46, u_ 20 47, u_ 21 48, u_ 22 5]
        [m_ 27 1 92,
        .one ⟨true, some 28, (.indexAddr 92 (.tmp 27) (.const (.int .i64 1))), 0, none⟩,
        l_ 29 5 28,
        .one ⟨true, some 30, (.convert 5 31 (.tmp 29)), 31, none⟩,
        .one ⟨true, some 31, (.binOp .shl 31 (.tmp 30) (.const (.int .u64 24)) 152), 31, none⟩,
        m_ 32 1 92,
        .one ⟨true, some 33, (.indexAddr 92 (.tmp 32) (.const (.int .i64 2))), 0, none⟩,
        l_ 34 5 33,
        .one ⟨true, some 35, (.convert 5 31 (.tmp 34)), 31, none⟩,
        .one ⟨true, some 36, (.binOp .shl 31 (.tmp 35) (.const (.int .u64 16)) 152), 31, none⟩,
        .one ⟨true, some 37, (.binOp .or 31 (.tmp 31) (.tmp 36) 31), 31, none⟩,
        m_ 38 1 92,
        .one ⟨true, some 39, (.indexAddr 92 (.tmp 38) (.const (.int .i64 3))), 0, none⟩,
        l_ 40 5 39,
        .one ⟨true, some 41, (.convert 5 31 (.tmp 40)), 31, none⟩,
        .one ⟨true, some 42, (.binOp .shl 31 (.tmp 41) (.const (.int .u64 8)) 152), 31, none⟩,
        .one ⟨true, some 43, (.binOp .or 31 (.tmp 37) (.tmp 42) 31), 31, none⟩,
        m_ 44 1 92,
        .one ⟨true, some 45, (.indexAddr 92 (.tmp 44) (.const (.int .i64 4))), 0, none⟩,
        l_ 46 5 45,
        .one ⟨true, some 47, (.convert 5 31 (.tmp 46)), 31, none⟩,
        .one ⟨true, some 48, (.binOp .or 31 (.tmp 43) (.tmp 47) 31), 31, none⟩,
        .one ⟨true, some 5, (.assign (.tmp 48)), 31, none⟩]
        (fun v => Sat w0 v R) rfl (by kernel_rfl) (by kernel_rfl) ?_ ?_
 ·exact Sat.past S.drew
 have S := S.drew
 have hS : Sat w0 _ R := Sat.past S
 repeat refine sl_run oCh_ 1 rfl fr fun a fr => ?_
 refine sl_ld oCh_ (fun w' S' => hR w' S') fr rfl rfl rfl rfl rfl rfl rfl rfl rfl rfl rfl rfl rfl rfl rfl rfl rfl rfl ⟨by decide, by rw [hn]; omega⟩ hS fun a fr => ?_
 repeat refine sl_run oCh_ 1 rfl fr fun a fr => ?_
 refine sl_ld oCh_ (fun w' S' => hR w' S') fr rfl rfl rfl rfl rfl rfl rfl rfl rfl rfl rfl rfl rfl rfl rfl rfl rfl rfl ⟨by decide, by rw [hn]; omega⟩ hS fun a fr => ?_
 repeat refine sl_run oCh_ 1 rfl fr fun a fr => ?_
 refine sl_ld oCh_ (fun w' S' => hR w' S') fr rfl rfl rfl rfl rfl rfl rfl rfl rfl rfl rfl rfl rfl rfl rfl rfl rfl rfl ⟨by decide, by rw [hn]; omega⟩ hS fun a fr => ?_
 repeat refine sl_run oCh_ 1 rfl fr fun a fr => ?_
 refine sl_ld oCh_ (fun w' S' => hR w' S') fr rfl rfl rfl rfl rfl rfl rfl rfl rfl rfl rfl rfl rfl rfl rfl rfl rfl rfl ⟨by decide, by rw [hn]; omega⟩ hS fun a fr => ?_
 repeat refine sl_run oCh_ 1 rfl fr fun a fr => ?_
 refine sl_end ?_
 repeat with_reducible refine then_n ?_
 have fr := fr.spell (d := 5) rfl (show _ = Value.int .u32 g from congrArg (Value.int .u32) hback)
 have S : Sat w0 _ (chS b bl bm last bk :: logA bl bd x :: diskA bd D :: ckS bk bw now :: ckM bw m :: glM bm gs :: (gsT gs ++ R)) := S
 clear hS
 refine r_ rfl ?_
 (repeat (first | refine wl_run oCh_ 1 rfl fr fun a fr => ?_ | refine wl_ldf oCh_ (Sat.stAt S 0 rfl rfl) fr rfl rfl rfl rfl rfl rfl rfl fun a fr => ?_))
 refine wl_lk (f := ptO) oCh_ (none : Option Nat) (fun _ => by kernel_rfl) rfl (Sat.mapAt S 5 rfl) fr rfl rfl rfl rfl rfl rfl rfl rfl fun a fr => ?_
 obtain ⟨_, h1, h2⟩ := lkG_at hi
 rw [h1] at fr
 have fr := fr.spell (d := 54) rfl (show ptO ((some (some gs[j].1) : Option (Option Nat)).getD none) = .pointer (some ⟨gs[j].1, 0, none⟩) from rfl)
 repeat refine w_ oCh_ rfl fr fun a fr => ?_
 refine er_ rfl rfl ?_
 repeat refine w_ oCh_ rfl fr fun a fr => ?_
 have fr := fr.bool (d := 57) rfl (show (g == 0) = false by simp; omega)
 repeat refine w_ oCh_ rfl fr fun a fr => ?_
 refine wl_ld oCh_ (hrk S) fr rfl rfl rfl rfl rfl rfl rfl rfl rfl rfl rfl rfl rfl rfl rfl rfl ⟨by decide, by rw [hn]; omega⟩ fun a fr => ?_
 have fr := fr.spell (d := 62) rfl (show Value.int .u8 ((cmR g ss).getD (0 : Int).toNat 0) = .int .u8 99 from rfl)
 repeat refine w_ oCh_ rfl fr fun a fr => ?_
 refine eq_ rfl rfl ?_
 refine cw_f fr rfl ?_
 refine wp_skip ?_
 refine r_ rfl ?_
 repeat refine w_ oCh_ rfl fr fun a fr => ?_
 refine wl_ld oCh_ (hrk S) fr rfl rfl rfl rfl rfl rfl rfl rfl rfl rfl rfl rfl rfl rfl rfl rfl ⟨by decide, by rw [hn]; omega⟩ fun a fr => ?_
 have fr := fr.spell (d := 68) rfl (show Value.int .u8 ((cmR g ss).getD (0 : Int).toNat 0) = .int .u8 99 from rfl)
 refine eq_ rfl rfl ?_
 refine wp_block ?_
 refine r_ rfl ?_
 repeat refine w_ oCh_ rfl fr fun a fr => ?_
 refine eq_ rfl rfl ?_
 refine cw_f fr rfl ?_
 refine r_ rfl ?_
 repeat refine w_ oCh_ rfl fr fun a fr => ?_
 refine eq_ rfl rfl ?_
 refine cw_t fr rfl ?_
 have S : Sat w0 _ (chW b bl bm last bk bw now bd gs m x D R) := S
 have S := Sat.focus hj S
 obtain ⟨G, hG⟩ : ∃ G, G = gs[j].2 := ⟨_, rfl⟩
 obtain ⟨bx, hbx⟩ : ∃ bx, bx = gs[j].1 := ⟨_, rfl⟩
 rw [← hG] at hI S
 rw [← hbx] at S
 have hpart : ∀ i (h : i < ss.length), partAt (cmG G (ss.take i)) ss[i].toNat = false := by rw [hG]; exact hpart
 obtain ⟨R1, hR1⟩ : ∃ R1, R1 = glM bm gs :: (gsT (gs.eraseIdx j) ++ R) := ⟨_, rfl⟩
 rw [← hR1] at S
 have hrk2 : ∀ {w'}, Sat w0 w' R1 → Rk .u8 w' (dropA A c 5) ss := fun S' => by
  rw [hR1] at S'
  exact (hR _ (Sat.lastsT (glM bm gs :: gsT (gs.eraseIdx j)) S')).drop hm.1
 have S : Sat w0 _ (chS b bl bm last bk :: logA bl bd x :: diskA bd D :: ckS bk bw now :: ckM bw m :: glA (bx, G) :: (glR (bx, G) ++ R1)) := S
 have S := S.frontAt 5 rfl
 have fr := fr.sub (L' := [(0, .pointer (some ⟨b, 0, none⟩)), (1, .slice A (cmR g ss).length c), (6, .pointer (some ⟨gs[j].1, 0, none⟩))]) ⟨rfl, rfl, rfl, trivial⟩
 rw [← hbx] at fr
 refine r_ rfl ?_
 repeat refine w_ oCh_ rfl fr fun a fr => ?_
 refine wl_stfA oCh_ 1 fr rfl rfl rfl rfl rfl rfl rfl rfl rfl S (by simp [glV]) ?_
 intro w12 S
 repeat refine w_ oCh_ rfl fr fun a fr => ?_
 refine wl_stfA oCh_ 2 fr rfl rfl rfl rfl rfl rfl rfl rfl rfl S (by simp [glV]) ?_
 intro w13 S
 repeat refine w_ oCh_ rfl fr fun a fr => ?_
 refine wl_stfA oCh_ 3 fr rfl rfl rfl rfl rfl rfl rfl rfl rfl S (by simp [glV]) ?_
 intro w14 S
 have S : Sat w0 w14 (glA (bx, cmG G (ss.take 0)) :: chS b bl bm last bk :: logA bl bd x :: diskA bd D :: ckS bk bw now :: ckM bw m :: (glR (bx, G) ++ R1)) := S
 refine er_ rfl rfl ?_
 repeat refine w_ oCh_ rfl fr fun a fr => ?_
 refine wl_drop oCh_ (l := cmR g ss) (i := 5) fr rfl rfl rfl rfl rfl rfl rfl (by kernel_rfl) rfl ⟨by decide, by rw [hn]; omega⟩ fun a fr => ?_
 have fr := fr.spell (d := 100) rfl (show Value.slice (dropA A c (5 : Int).toNat) ((cmR g ss).drop (5 : Int).toNat).length (c - (5 : Int).toNat) = .slice (dropA A c 5) ss.length (c - 5) from rfl)
 repeat refine w_ oCh_ rfl fr fun a fr => ?_
 first | refine e_ ?_ | refine wpList_nil ?_
 have hss0 : ((cmR g ss).drop (5 : Int).toNat).length = ss.length := rfl
 obtain ⟨T1, hT1⟩ : ∃ T1, T1 = chS b bl bm last bk :: logA bl bd x :: diskA bd D :: ckS bk bw now :: ckM bw m :: (glR (bx, G) ++ R1) := ⟨_, rfl⟩
 rw [← hT1] at S
 have hrk3 : ∀ {w'} {X : Asn}, Sat w0 w' (X :: T1) → Rk .u8 w' (dropA A c 5) ss := fun {w'} {X} S' => by
  rw [hT1] at S'
  exact hrk2 (Sat.lastsT (X :: chS b bl bm last bk :: logA bl bd x :: diskA bd D :: ckS bk bw now :: ckM bw m :: glR (bx, G)) S')
 have hrk1 : ∀ {w'} {X : Asn}, Sat w0 w' (X :: T1) → Rk .u8 w' A (cmR g ss) := fun {w'} {X} S' => by
  rw [hT1, hR1] at S'
  exact hR _ (Sat.lastsT (X :: chS b bl bm last bk :: logA bl bd x :: diskA bd D :: ckS bk bw now :: ckM bw m :: (glR (bx, G) ++ glM bm gs :: gsT (gs.eraseIdx j))) (by simpa only [List.cons_append, List.append_assoc] using S'))
 refine q_ rfl ?_
 refine wp_block ?_
 refine cw_loop (fun q a w2 => ∃ i : Nat, i + q = ss.length + 1 ∧ i ≤ ss.length ∧ Fr 149 a [(0, .pointer (some ⟨b, 0, none⟩)), (1, .slice A (cmR g ss).length c), (6, .pointer (some ⟨bx, 0, none⟩)), (100, .slice (dropA A c 5) ss.length (c - 5)), (101, .int .i64 (ss.length : Int)), (102, .int .i64 (i : Int))] ∧ Sat w0 w2 (glA (bx, cmG G (ss.take i)) :: T1)) (ss.length + 1)
  ⟨0, by omega, by omega, fr.sub ⟨rfl, rfl, rfl, rfl, rfl, rfl, trivial⟩, S⟩ ?_ ?_
 ·rintro a w2 ⟨i, h, h', -⟩
  omega
 clear fr S
 rintro q a w20 ⟨i, hiq, hil, fr, S⟩
 refine r_ rfl ?_
 repeat refine w_ oCh_ rfl fr fun a fr => ?_
 first | refine e_ ?_ | refine wpList_nil ?_
 by_cases hlt : i < ss.length
 ·have fr := fr.bool (d := 103) rfl (decide_eq_true (show (i : Int) < (ss.length : Int) by omega))
  refine q_ rfl ?_
  refine cw_t fr rfl ?_
  refine wp_skip ?_
  with_reducible refine then_n ?_
  have hk3 := hs3 _ (List.getElem_mem hlt)
  have hpk := hpart i hlt
  obtain ⟨k, hk⟩ : ∃ k : Nat, ss[i] = k := ⟨ss[i].toNat, by omega⟩
  rw [hk, Int.toNat_natCast] at hpk
  rw [hk] at hk3
  have hgd : ss.getD (i : Int).toNat 0 = (k : Int) := by rw [Int.toNat_natCast, List.getD_eq_getElem?_getD, List.getElem?_eq_getElem hlt]; exact hk
  obtain ⟨G1, hG1⟩ : ∃ G1, G1 = cmG G (ss.take i) := ⟨_, rfl⟩
  have hnext : cmG G (ss.take (i + 1)) = { G1 with v := updV vPart k G1.v } := by
   rw [hG1, List.take_succ_eq_append_getElem hlt, hk]
   unfold cmG beginV
   rw [List.foldl_append]
   rfl
  rw [← hG1] at hpk S
  have hl4 : G1.v.length = 4 := by
   rw [hG1]
   show (beginV (ss.take i) G.v).length = 4
   have : ∀ (l : List Int) (v : List (Vt RawV)), (beginV l v).length = v.length := by
    intro l
    induction l with
    | nil => intro v; rfl
    | cons n l ih => intro v; show (beginV l (updV vPart n.toNat v)).length = _; rw [ih, updV_len]
   rw [this]; exact hI.len
  have hkv : k < G1.v.length := by omega
  have hpv : G1.v[k].part = false := by
   unfold partAt at hpk
   rw [List.getElem?_eq_getElem hkv] at hpk
   exact hpk
  refine q_ rfl ?_
  refine wp_block ?_
  refine r_ rfl ?_
  refine wl_ld oCh_ (hrk3 S) fr rfl rfl rfl rfl rfl rfl rfl rfl rfl rfl rfl rfl rfl rfl rfl rfl ⟨by omega, by omega⟩ fun a fr => ?_
  have fr := fr.spell (d := 105) rfl (congrArg (Value.int .u8) hgd)
  repeat refine w_ oCh_ rfl fr fun a fr => ?_
  refine er_ rfl rfl ?_
  repeat refine w_ oCh_ rfl fr fun a fr => ?_
  have fr := fr.bool (d := 108) rfl (decide_eq_false (show ¬ (k : Int) < 1 by omega))
  repeat refine w_ oCh_ rfl fr fun a fr => ?_
  have fr := fr.bool (d := 112) rfl (decide_eq_false (show ¬ (k : Int) > 3 by omega))
  repeat refine w_ oCh_ rfl fr fun a fr => ?_
  refine wl_ixa oCh_ fr rfl rfl rfl rfl rfl rfl rfl rfl ⟨by omega, by omega⟩ fun a fr => ?_
  repeat refine w_ oCh_ rfl fr fun a fr => ?_
  refine wl_ldf oCh_ (v := .bool G1.v[k].part) ⟨(show World.cell? _ ((((⟨bx, 0, none⟩ : Addr).add 5).add (k * 4)).add 0) = some (.bool G1.v[k].part) by rw [vt_addr]; exact (Sat.stAt S 0 rfl (gl_at (j := 0) hkv rfl)).1), rfl⟩ fr rfl rfl rfl rfl rfl rfl rfl fun a fr => ?_
  have fr := fr.bool (d := 119) rfl hpv
  repeat refine w_ oCh_ rfl fr fun a fr => ?_
  refine eq_ rfl rfl ?_
  refine cw_f fr rfl ?_
  refine wp_skip ?_
  refine r_ rfl ?_
  repeat refine w_ oCh_ rfl fr fun a fr => ?_
  refine wl_ixa oCh_ fr rfl rfl rfl rfl rfl rfl rfl rfl ⟨by omega, by omega⟩ fun a fr => ?_
  repeat refine w_ oCh_ rfl fr fun a fr => ?_
  refine wl_stfA oCh_ (5 + (k * 4 + 0)) fr rfl rfl rfl rfl (vt_addr k 0) rfl rfl rfl rfl S (by
   show 5 + (k * 4 + 0) < (G1.v.flatMap vtV).length + 1 + 1 + 1 + 1 + 1
   rw [el_len vtV_len, hl4]; omega) ?_
  intro w21 S
  rw [gl_set (f := vPart) (by decide) (fun _ => rfl), ← hnext] at S
  have S : Sat w0 w21 (glA (bx, cmG G (ss.take (i + 1))) :: T1) := S
  refine er_ rfl rfl ?_
  repeat refine w_ oCh_ rfl fr fun a fr => ?_
  first | refine e_ ?_ | refine wpList_nil ?_
  have fr := fr.spell (d := 102) rfl (congrArg (Value.int .i64) (i64_next hlt (by omega)))
  exact ⟨i + 1, by omega, by omega, fr.sub ⟨rfl, rfl, rfl, rfl, rfl, rfl, trivial⟩, S⟩
 have fr := fr.bool (d := 103) rfl (decide_eq_false (show ¬ (i : Int) < (ss.length : Int) by omega))
 obtain rfl : i = ss.length := by omega
 rw [List.take_length] at S
 refine q_ rfl ?_
 refine cw_f fr rfl ?_
 refine wp_exit ?_
 skip; (repeat (first | (with_reducible refine then_e ?_) | (with_reducible refine ng_e ?_) | (with_reducible refine blk_e (by decide) ?_))); (with_reducible refine blk_y ?_); (repeat (with_reducible refine then_n ?_))
 refine r_ rfl ?_
 repeat refine w_ oCh_ rfl fr fun a fr => ?_
 refine wl_ld oCh_ (hrk1 S) fr rfl rfl rfl rfl rfl rfl rfl rfl rfl rfl rfl rfl rfl rfl rfl rfl ⟨by decide, by rw [hn]; omega⟩ fun a fr => ?_
 have fr := fr.spell (d := 135) rfl (show Value.int .u8 ((cmR g ss).getD (0 : Int).toNat 0) = .int .u8 99 from rfl)
 repeat refine w_ oCh_ rfl fr fun a fr => ?_
 refine wl_ld oCh_ (hrk1 S) fr rfl rfl rfl rfl rfl rfl rfl rfl rfl rfl rfl rfl rfl rfl rfl rfl ⟨by decide, by rw [hn]; omega⟩ fun a fr => ?_
 have fr := fr.spell (d := 140) rfl (show Value.int .u8 ((cmR g ss).getD (0 : Int).toNat 0) = .int .u8 99 from rfl)
 repeat refine w_ oCh_ rfl fr fun a fr => ?_
 first | refine e_ ?_ | refine wpList_nil ?_
 refine wp_ret ?_
 refine ret1 fr rfl rfl ⟨rfl, ?_⟩
 have hglR : glR (bx, G) = glR (bx, cmG G ss) := by
  have : ∀ (l : List Int) (v : List (Vt RawV)), (beginV l v).map (fun v => resA v.l.1 v.l.2.1 v.l.2.2) = v.map fun v => resA v.l.1 v.l.2.1 v.l.2.2 := by
   intro l
   induction l with
   | nil => intro v; rfl
   | cons n l ih =>
    intro v
    show (beginV l (updV vPart n.toNat v)).map _ = _
    rw [ih]
    exact upd_map (f := fun v : RawV => resA v.1 v.2.1 v.2.2) (u := vPart) (F := fun v : Vt RawV => resA v.l.1 v.l.2.1 v.l.2.2) (fun _ => rfl) _ _
  exact (this ss G.v).symm
 rw [hT1, hR1, hglR] at S
 have S := (((((S.frontAt 5 rfl).frontAt 5 rfl).frontAt 5 rfl).frontAt 5 rfl).frontAt 5 rfl)
 rw [hbx, hG] at S
 have S : Sat w0 _ (chL b bl bm last bk bw now bd gs[j].1 ⟨cmG gs[j].2 ss, m, x, D⟩ (glM bm gs :: (gsT (gs.eraseIdx j) ++ R))) := S
 exact Sat.unfocus hj (C := ⟨cmG gs[j].2 ss, m, x, D⟩) rfl S
end
section
variable {α : Type}
theorem beginV_len : ∀ (ss : List Int) (l : List (Vt α)), (beginV ss l).length = l.length := by
 intro ss
 induction ss with
 | nil => intro l; rfl
 | cons n ss ih =>
  intro l
  show (beginV ss (updV vPart n.toNat l)).length = _
  rw [ih, updV_len]
theorem beginV_in : ∀ {ss : List Int} {l : List (Vt α)} {v : Vt α}, v ∈ beginV ss l → ∃ u ∈ l, v.l = u.l := by
 intro ss
 induction ss with
 | nil => intro l v hv; exact ⟨v, hv, rfl⟩
 | cons n ss ih =>
  intro l v hv
  have hv : v ∈ beginV ss (updV vPart n.toNat l) := hv
  obtain ⟨u, hu, h1⟩ := ih hv
  rcases updV_mem hu with h2 | ⟨u2, h2, rfl⟩
  ·exact ⟨u, h2, h1⟩
  ·exact ⟨u2, h2, h1⟩
end
theorem beginV_0 : ∀ (ss : List Int) (l : List (Vt RawV)), (beginV ss l).map vt0 = beginV ss (l.map vt0) := by
 intro ss
 induction ss with
 | nil => intro l; rfl
 | cons n ss ih =>
  intro l
  show (beginV ss (updV vPart n.toNat l)).map vt0 = beginV ss (updV vPart n.toNat (l.map vt0))
  rw [ih, upd0 (f := vPart) (f' := vPart) (fun _ => rfl)]
theorem cmG_0 (G : Gl RawV) (ss : List Int) : gl0 (cmG G ss) = cmG (gl0 G) ss := by
 unfold gl0 cmG
 simp only [beginV_0]
theorem GlI.cm {G : Gl RawV} (h : GlI G) (ss : List Int) : GlI (cmG G ss) :=
 ⟨(beginV_len ss G.v).trans h.len, fun v hv => by
  obtain ⟨u, hu, e⟩ := beginV_in (show v ∈ beginV ss G.v from hv)
  rw [e]; exact h.few u hu⟩
theorem GlI.ov (g : Int) : GlI (ovG g) := ⟨rfl, fun v hv => by
 have : v = zV := by simpa [ovG] using hv
 rw [this]
 exact ⟨by decide, fun r hr => by cases hr⟩⟩
theorem find_gs {gs : Gs} {g : Int} {j : Nat} {G : Gl RsT} (h : findG (gs.map fun p => gl0 p.2) g = some (j, G)) : idxG (gs.map (·.2)) g = some j ∧ ∃ hj : j < gs.length, G = gl0 gs[j].2 := by
 unfold findG at h
 rw [idx0] at h
 cases hi : idxG (gs.map (·.2)) g with
 | none => rw [hi] at h; cases h
 | some i =>
  rw [hi, Option.bind_some, List.getElem?_map] at h
  obtain ⟨hj, -, -⟩ := lkG_at hi
  rw [List.getElem?_eq_getElem hj] at h
  simp only [Option.map_some, Option.some.injEq, Prod.mk.injEq] at h
  obtain ⟨rfl, rfl⟩ := h
  exact ⟨rfl, hj, rfl⟩
theorem part_cm {G : Gl RawV} (hv : (gl0 G).v = [hz0, hz0, hz0, hz0]) {ss : List Int} (hss : ss ∈ seven) : ∀ i (h : i < ss.length), partAt (cmG G (ss.take i)) ss[i].toNat = false := by
 intro i hi
 rw [← part0, cmG_0]
 unfold partAt cmG
 simp only [hv]
 have h3 : i = 0 ∨ i = 1 ∨ i = 2 := by have := (seven_len hss).2; omega
 simp only [seven, List.mem_cons, List.not_mem_nil, or_false] at hss
 rcases hss with rfl | rfl | rfl | rfl | rfl | rfl | rfl <;> rcases h3 with rfl | rfl | rfl <;> first | rfl | (exfalso; revert hi; decide)
section
variable {w w0 : World} {R : List Asn} {b bl bm bk bw bd : Nat} {last now x : Int} {m : List (Int × Int)} {gs : Gs} {D : Dk}
theorem learns_call {A : Option Addr} {c : Nat} {r : Rc} (hok : Ok1 (gs.map fun p => gl0 p.2) r) (hI : ∀ p ∈ gs, GlI p.2) (hR : ∀ w', Sat w0 w' R → Rk .u8 w' A (rcB r)) (hm : (rcB r).length ≤ c ∧ c ≤ maxLen) (S : Sat w0 w (chW b bl bm last bk bw now bd gs m x D R)) :
  Calls Tryz.prog 52 #[.pointer (some ⟨b, 0, none⟩), .slice A (rcB r).length c] w fun e w' => ∃ gs' : Gs, e = .returned (.bool true) ∧ (gs'.map fun p => gl0 p.2) = lrn1 (gs.map fun p => gl0 p.2) r ∧ (∀ p ∈ gs', GlI p.2) ∧ Sat w0 w' (chW b bl bm (lastR last r) bk bw now bd gs' m x D R) := by
 have hIs : ∀ (j : Nat) (p : Nat × Gl RawV), GlI p.2 → ∀ q ∈ gs.set j p, GlI q.2 := fun j p hp q hq => by
  rcases List.mem_or_eq_of_mem_set hq with hq | rfl
  ·exact hI q hq
  ·exact hp
 obtain ⟨wh, g, ss⟩ := r
 obtain ⟨hg, hcs⟩ := hok
 have hg : 1 ≤ g ∧ g ≤ 4294967295 := hg
 rcases hcs with ⟨h1, h2, hnew⟩ | ⟨j, G, hf, ⟨h1, h2⟩ | ⟨h1, hss, hv⟩⟩
 ·have h1 : wh = 98 := h1
  have h2 : ss = [] := h2
  subst h1 h2
  refine (learns_begin (A := A) (c := c) (g := g) hg hR hm (fun p hp => hnew (gl0 p.2) (List.mem_map.2 ⟨p, hp, rfl⟩)) S).mono ?_
  rintro e w' ⟨bn, rfl, S⟩
  refine ⟨_, rfl, ?_, fun p hp => ?_, S⟩
  ·rw [List.map_append]; rfl
  ·rcases List.mem_append.1 hp with hp | hp
   ·exact hI p hp
   ·rw [List.mem_singleton] at hp; rw [hp]; exact GlI.ov g
 ·have h1 : wh = 101 := h1
  have h2 : ss = [] := h2
  subst h1 h2
  have hf : findG (gs.map fun p => gl0 p.2) g = some (j, G) := hf
  obtain ⟨hi, hj, rfl⟩ := find_gs hf
  refine (learns_end (A := A) (c := c) (g := g) hg hR hm hi hj S).mono ?_
  rintro e w' ⟨rfl, S⟩
  refine ⟨gs.set j (gs[j].1, endG gs[j].2), rfl, ?_, hIs _ _ ((hI _ (List.getElem_mem hj)).same (G' := endG gs[j].2) rfl), S⟩
  unfold lrn1
  rw [if_neg (show ¬ (101 : Int) = 98 by decide)]
  simp only [hf]
  rw [List.map_set]
  rfl
 ·have h1 : wh = 99 := h1
  have hss : ss ∈ seven := hss
  subst h1
  have hf : findG (gs.map fun p => gl0 p.2) g = some (j, G) := hf
  obtain ⟨hi, hj, rfl⟩ := find_gs hf
  have hs3 : ∀ z ∈ ss, 1 ≤ z ∧ z ≤ 3 := by
   intro z hz
   simp only [seven, List.mem_cons, List.not_mem_nil, or_false] at hss
   rcases hss with rfl | rfl | rfl | rfl | rfl | rfl | rfl <;> simp at hz <;> omega
  refine (learns_commit (A := A) (c := c) (g := g) (ss := ss) (seven_len hss) hs3 hg hR hm hi hj (hI _ (List.getElem_mem hj)) (part_cm hv hss) S).mono ?_
  rintro e w' ⟨rfl, S⟩
  refine ⟨gs.set j (gs[j].1, cmG gs[j].2 ss), rfl, ?_, hIs _ _ ((hI _ (List.getElem_mem hj)).cm ss), S⟩
  unfold lrn1
  rw [if_neg (show ¬ (99 : Int) = 98 by decide)]
  simp only [hf]
  rw [List.map_set]
  show List.set _ j (gl0 (cmG gs[j].2 ss)) = _
  rw [cmG_0]
  rfl
def rwX (A : Option Addr) (c : Nat) (rs : List Rw) : List Asn := rwsA 92 A c rs :: (rs.reverse.map fun r => ownA .u8 5 r.1 r.2.1 r.2.2)
theorem recs_open {A : Option Addr} {c : Nat} {ls : List (List Int)} (S : Sat w0 w (recsA .u8 92 5 A c ls :: R)) : ∃ rs : List Rw, rs.map (·.2.2) = ls ∧ Sat w0 w (rwX A c rs ++ R) := by
 obtain ⟨⟨rs, hrs⟩, S⟩ := S.ofEx
 have S := Sat.ofSep S
 have S := S.frontAt 1 rfl
 have S : Sat w0 w (allA (rs.reverse.map fun r => ownA .u8 5 r.1 r.2.1 r.2.2) :: rwsA 92 A c rs :: R) := S
 have S := Sat.ofAllT S
 exact ⟨rs, hrs, S.perm List.perm_middle⟩
theorem rw_read {A : Option Addr} {c : Nat} {rs : List Rw} (S : Sat w0 w (rwX A c rs ++ R)) {i : Nat} (hi : i < rs.length) : (∃ ad, A = some ad ∧ w.cell? (ad.add (i * 1)) = some (rwV rs[i])) ∧ Rk .u8 w rs[i].1 rs[i].2.2 ∧ rs[i].2.2.length ≤ rs[i].2.1 ∧ rs[i].2.1 ≤ maxLen := by
 have S : Sat w0 w (rwsA 92 A c rs :: ((rs.reverse.map fun r => ownA .u8 5 r.1 r.2.1 r.2.2) ++ R)) := S
 constructor
 ·obtain ⟨F, h1, h2, h3⟩ := S.hd
  obtain ⟨A', c', e, h5, h6, h7, h8⟩ := h1.slice
  injection e with e1 e2 e3
  subst e1
  cases A with
  | none =>
   have h0 : rs.length = 0 := h7 rfl
   omega
  | some ad =>
   obtain ⟨g, rfl, h9, h10, h11, _⟩ := h8 ad rfl
   refine ⟨_, rfl, ?_⟩
   have := h11 i (rwV rs[i]) (by rw [List.getElem?_map, List.getElem?_eq_getElem hi]; rfl)
   rw [Nat.zero_add] at this
   rw [addr0, Nat.mul_one]
   exact this
 ·have hm : ownA .u8 5 rs[i].1 rs[i].2.1 rs[i].2.2 ∈ (rwsA 92 A c rs :: ((rs.reverse.map fun r => ownA .u8 5 r.1 r.2.1 r.2.2) ++ R)) :=
   List.mem_cons_of_mem _ (List.mem_append_left _ (List.mem_map.2 ⟨rs[i], List.mem_reverse.2 (List.getElem_mem hi), rfl⟩))
  obtain ⟨k, hk⟩ := List.getElem?_of_mem hm
  exact (S.frontAt k hk).own
theorem chnew_call {d : Nat} {L : List Rc} (hr : recsD D = L.map rcB) (hok : OkL L) (hwt : D.waits.length ≤ 100000000) (hfew : L.length ≤ 100000) (S : Sat w0 w (diskA d D :: R)) :
  Calls Tryz.prog 18 #[.pointer (some ⟨d, 0, none⟩)] w fun e w' => ∃ (b bl bm bk bw : Nat) (gs : Gs), e = .returned (.tuple #[.pointer (some ⟨b, 0, none⟩), .int .i64 0]) ∧ (gs.map fun p => gl0 p.2) = lrn L ∧ (∀ p ∈ gs, GlI p.2) ∧ Sat w0 w' (chW b bl bm (lastL L) bk bw 0 d gs [] (atD D) (openD D) R) := by
 refine calls_start (N := 36) [.pointer (some ⟨d, 0, none⟩)] Tryz.func18 rfl rfl rfl rfl fun a fr => ?_
 refine r_ rfl ?_
 repeat refine w_ oHn_ rfl fr fun a fr => ?_
 refine er_ rfl rfl ?_
 repeat refine w_ oHn_ rfl fr fun a fr => ?_
 refine wl_call fr rfl rfl rfl rfl enOpen (open_call S hwt) ?_
 rintro _ w1 ⟨bl, A, c, rfl, hv, S⟩
 have hln : (recsD D).length = L.length := by rw [hr, List.length_map]
 refine ⟨_, rfl, hv, fun a fr => ?_⟩
 rw [hln] at fr
 repeat refine w_ oHn_ rfl fr fun a fr => ?_
 refine er_ rfl rfl ?_
 repeat refine w_ oHn_ rfl fr fun a fr => ?_
 refine eq_ rfl rfl ?_
 refine cw_f fr rfl ?_
 refine wp_skip ?_
 refine r_ rfl ?_
 repeat refine w_ oHn_ rfl fr fun a fr => ?_
 refine wl_mkmap .u32 ptO fr rfl rfl rfl rfl S ?_
 intro w2 bm S a fr
 refine wl_call fr rfl rfl rfl rfl enCkNew (clk_new S) ?_
 rintro _ w3 ⟨bk, bw, rfl, S⟩
 refine ⟨_, rfl, rfl, fun a fr => ?_⟩
 refine wl_build (cs := [.pointer (some ⟨bl, 0, none⟩), .map (some bm), .int .u32 0, .pointer (some ⟨bk, 0, none⟩)]) (L2 := [(0, .pointer (some ⟨bl, 0, none⟩)), (1, .map (some bm)), (3, .pointer (some ⟨bk, 0, none⟩))]) fr rfl rfl rfl rfl (by simp; exact ⟨(fr.ev (o := .tmp 19) rfl).1, (fr.ev (o := .tmp 20) rfl).1, (fr.ev (o := .tmp 21) rfl).1⟩) (by kernel_rfl) rfl fun a fr => ?_
 refine wl_boxs fr rfl rfl rfl rfl rfl rfl S ?_
 intro w4 b S a fr
 repeat refine w_ oHn_ rfl fr fun a fr => ?_
 first | refine e_ ?_ | refine wpList_nil ?_
 have S := (((((((S.frontAt 3 rfl).frontAt 3 rfl).frontAt 3 rfl).frontAt 6 rfl).frontAt 5 rfl).frontAt 5 rfl).frontAt 6 rfl)
 obtain ⟨rs, hrs, S⟩ := recs_open S
 have hrl : rs.length = L.length := by have := congrArg List.length hrs; rw [hr] at this; simpa using this
 have hS0 : Sat w0 w4 (chW b bl bm 0 bk bw 0 d [] [] (atD D) (openD D) (rwX A c rs ++ R)) := by
  refine S.perm ?_
  show (rwX A c rs ++ ([_, _, _, _, _, _] ++ R)).Perm ([_, _, _, _, _, _] ++ (rwX A c rs ++ R))
  rw [← List.append_assoc, ← List.append_assoc]
  exact List.Perm.append_right R List.perm_append_comm
 clear S
 refine r_ rfl ?_
 repeat refine w_ oHn_ rfl fr fun a fr => ?_
 refine eq_ rfl rfl ?_
 refine wp_block ?_
 refine cw_loop (fun q a w2 => ∃ (i : Nat) (gs : Gs), i + q = L.length + 1 ∧ i ≤ L.length ∧ (gs.map fun p => gl0 p.2) = lrn (L.take i) ∧ (∀ p ∈ gs, GlI p.2) ∧ Fr 36 a [(7, .pointer (some ⟨b, 0, none⟩)), (24, .slice A L.length c), (25, .int .i64 (L.length : Int)), (26, .int .i64 (i : Int))] ∧ Sat w0 w2 (chW b bl bm (lastL (L.take i)) bk bw 0 d gs [] (atD D) (openD D) (rwX A c rs ++ R))) (L.length + 1)
  ⟨0, [], by omega, by omega, rfl, fun p hp => (by cases hp), fr.sub ⟨rfl, rfl, rfl, rfl, trivial⟩, hS0⟩ ?_ ?_
 ·rintro a w2 ⟨i, gs, h, h', -⟩
  omega
 clear fr hS0
 rintro q a w5 ⟨i, gs, hi, hi', hgs, hI, fr, S⟩
 refine r_ rfl ?_
 repeat refine w_ oHn_ rfl fr fun a fr => ?_
 first | refine e_ ?_ | refine wpList_nil ?_
 by_cases hlt : i < L.length
 ·have fr := fr.bool (d := 27) rfl (decide_eq_true (show (i : Int) < (L.length : Int) by omega))
  refine q_ rfl ?_
  refine cw_t fr rfl ?_
  refine wp_skip ?_
  with_reducible refine then_n ?_
  have hir : i < rs.length := by omega
  have hrec : rs[i].2.2 = rcB L[i] := by
   have h9 : (rs.map (·.2.2))[i]? = (L.map rcB)[i]? := by rw [hrs, hr]
   rw [List.getElem?_map, List.getElem?_map, List.getElem?_eq_getElem hir, List.getElem?_eq_getElem hlt] at h9
   simpa using h9
  obtain ⟨hcell, -, hm⟩ := rw_read (Sat.past S) hir
  have hRk : ∀ w', Sat w0 w' (rwX A c rs ++ R) → Rk .u8 w' rs[i].1 (rcB L[i]) := fun w' S' => by rw [← hrec]; exact (rw_read S' hir).2.1
  rw [hrec] at hm
  have hval : rwV rs[i] = .slice rs[i].1 (rcB L[i]).length rs[i].2.1 := by rw [← hrec]; rfl
  rw [hval] at hcell
  generalize rs[i].1 = A' at hcell hRk
  generalize rs[i].2.1 = c' at hcell hm
  refine q_ rfl ?_
  refine wp_block ?_
  refine r_ rfl ?_
  refine wl_ldc oHn_ (i := (i : Int)) hcell (vok_sl hm) fr rfl rfl rfl rfl rfl rfl rfl rfl rfl rfl rfl rfl rfl rfl rfl ⟨by omega, by omega⟩ fun a fr => ?_
  repeat refine w_ oHn_ rfl fr fun a fr => ?_
  first | refine e_ ?_ | refine wpList_nil ?_
  have hk1 := hok i hlt
  rw [← hgs] at hk1
  refine r_ rfl ?_
  repeat refine w_ oHn_ rfl fr fun a fr => ?_
  refine wl_call fr rfl rfl rfl rfl enLearns (learns_call (A := A') (c := c') hk1 hI hRk hm S) ?_
  rintro _ w6 ⟨gs', rfl, hgs', hI', S⟩
  refine ⟨_, rfl, rfl, fun a fr => ?_⟩
  repeat refine w_ oHn_ rfl fr fun a fr => ?_
  refine eq_ rfl rfl ?_
  refine cw_f fr rfl ?_
  refine wp_skip ?_
  refine r_ rfl ?_
  repeat refine w_ oHn_ rfl fr fun a fr => ?_
  first | refine e_ ?_ | refine wpList_nil ?_
  have fr := fr.spell (d := 26) rfl (congrArg (Value.int .i64) (i64_next hlt (by omega)))
  have htk : L.take (i + 1) = L.take i ++ [L[i]] := List.take_succ_eq_append_getElem hlt
  refine ⟨i + 1, gs', by omega, by omega, ?_, hI', fr.sub ⟨rfl, rfl, rfl, rfl, trivial⟩, ?_⟩
  ·rw [htk, lrn_snoc, hgs', hgs]
  ·rw [htk, lastL_snoc]; exact S
 have fr := fr.bool (d := 27) rfl (decide_eq_false (show ¬ (i : Int) < (L.length : Int) by omega))
 obtain rfl : i = L.length := by omega
 rw [List.take_length] at hgs S
 refine q_ rfl ?_
 refine cw_f fr rfl ?_
 refine wp_exit ?_
 refine xr_ rfl rfl ?_
 repeat refine w_ oHn_ rfl fr fun a fr => ?_
 first | refine e_ ?_ | refine wpList_nil ?_
 refine wp_ret ?_
 refine ret2 fr rfl rfl rfl ⟨b, bl, bm, bk, bw, gs, rfl, hgs, hI, ?_⟩
 have hp : (chW b bl bm (lastL L) bk bw 0 d gs [] (atD D) (openD D) (rwX A c rs ++ R)).Perm (rwX A c rs ++ chW b bl bm (lastL L) bk bw 0 d gs [] (atD D) (openD D) R) := by
  show ((chS b bl bm (lastL L) bk :: logA bl d (atD D) :: diskA d (openD D) :: ckS bk bw 0 :: ckM bw [] :: glM bm gs :: gsT gs) ++ (rwX A c rs ++ R)).Perm (rwX A c rs ++ ((chS b bl bm (lastL L) bk :: logA bl d (atD D) :: diskA d (openD D) :: ckS bk bw 0 :: ckM bw [] :: glM bm gs :: gsT gs) ++ R))
  rw [← List.append_assoc, ← List.append_assoc]
  exact List.Perm.append_right R List.perm_append_comm
 exact Sat.lastsT _ (S.perm hp)
end
theorem enFailS : Enters Tryz.prog 17 := fun _ _ => by kernel_rfl
section
variable {w w0 : World} {R : List Asn} {b bl bm bk bw bd : Nat} {last now x : Int} {m : List (Int × Int)} {gs : Gs} {D : Dk}
theorem chW_turn (Z : List Asn) : (chW b bl bm last bk bw now bd gs m x D Z).Perm (Z ++ chW b bl bm last bk bw now bd gs m x D []) := by
 show ((chS b bl bm last bk :: logA bl bd x :: diskA bd D :: ckS bk bw now :: ckM bw m :: glM bm gs :: gsT gs) ++ Z).Perm (Z ++ ((chS b bl bm last bk :: logA bl bd x :: diskA bd D :: ckS bk bw now :: ckM bw m :: glM bm gs :: gsT gs) ++ []))
 rw [List.append_nil]
 exact List.perm_append_comm
theorem Sat.turn {Z : List Asn} (S : Sat w0 w (chW b bl bm last bk bw now bd gs m x D Z)) : Sat w0 w (Z ++ chW b bl bm last bk bw now bd gs m x D []) := S.perm (chW_turn Z)
theorem Sat.unturn {Z : List Asn} (S : Sat w0 w (Z ++ chW b bl bm last bk bw now bd gs m x D [])) : Sat w0 w (chW b bl bm last bk bw now bd gs m x D Z) := S.perm (chW_turn Z).symm
theorem Sat.dropOld {Y Z : List Asn} (S : Sat w0 w (chW b bl bm last bk bw now bd gs m x D (Y ++ Z))) : Sat w0 w (chW b bl bm last bk bw now bd gs m x D Z) := by
 have S : Sat w0 w ((Y ++ Z) ++ chW b bl bm last bk bw now bd gs m x D []) := S.turn
 rw [List.append_assoc] at S
 exact Sat.unturn (Sat.lastsT Y S)
end
structure StayI (w : World) (gs : Gs) (C : Ss RsT) (A B : List Rc) (k : Nat) (last : Int) (told says : List Int) (ys : List Bool) (prt : List RawPs) : Prop where
 ss : ss0 gs C.m C.x C.D = C
 gi : ∀ p ∈ gs, GlI p.2
 st : St A B C k
 m : C.m.length ≤ k
 last : last = (C.gs.length : Int)
 told : SaysI (stN C.gs) told
 says : SaysI (stN C.gs) says
 sy : SyI C.gs prt ys
 ly : ys.length = 32
 lp : prt.length = 8
 pw : ∀ g, g < 8 → PtW (prt.getD g noP)
 pr : ∀ g, g < 8 → ∀ w', Below w.heap.size w w' → RdParts w' (prt.getD g noP).1 (prt.getD g noP).2.2
abbrev arrs (bt byy bp bsy : Nat) (told says : List Int) (ys : List Bool) (prt : List RawPs) : List Asn := [iA bt told, yA byy ys, ptA bp prt, iA bsy says]
def StayM (w : World) (Am : Option Addr) (nm cm j bt byy bp bsy gx : Nat) (r : RawA) (a : Act) (w2 : World) : Prop :=
 ∃ (d b bl bm bk bw : Nat) (last now : Int) (gs : Gs) (C : Ss RsT) (A B : List Rc) (told says : List Int) (ys : List Bool) (prt : List RawPs) (A11 : Option Addr) (c11 : Nat) (os : List PM),
  StayI w gs C A B (j + 1) last told says ys prt ∧ (∀ o ∈ os, ∀ g : Nat, o.2.2 = g → g < 8 → (prt.getD g noP).2.2.length ≠ 0 → (o.1 = 5 → stN C.gs g = 2) ∧ (o.1 = 4 → stN C.gs g = 1)) ∧
  Fr 141 a [(0, .slice Am nm cm), (3, .pointer (some ⟨d, 0, none⟩)), (4, .pointer (some ⟨b, 0, none⟩)), (5, .pointer (some ⟨bt, 0, none⟩)), (6, .pointer (some ⟨bsy, 0, none⟩)), (7, .pointer (some ⟨byy, 0, none⟩)), (8, .pointer (some ⟨bp, 0, none⟩)), (9, .int .i64 (j : Int)), (11, .slice A11 os.length os.length)] ∧
  Sat w w2 (chW b bl bm last bk bw now d gs C.m C.x C.D (pmA A11 c11 os :: arrs bt byy bp bsy told says ys prt))
theorem StayI.more {w : World} {gs : Gs} {C : Ss RsT} {A B : List Rc} {k : Nat} {last : Int} {told says : List Int} {ys : List Bool} {prt : List RawPs} (h : StayI w gs C A B k last told says ys prt) : StayI w gs C A B (k + 1) last told says ys prt :=
 ⟨h.ss, h.gi, ⟨h.st.good, h.st.endB, h.st.cu, h.st.log, Nat.le_succ_of_le h.st.few, Nat.le_succ_of_le h.st.few2⟩, Nat.le_succ_of_le h.m, h.last, h.told, h.says, h.sy, h.ly, h.lp, h.pw, h.pr⟩
theorem StayI.gsC {w : World} {gs : Gs} {C : Ss RsT} {A B : List Rc} {k : Nat} {last : Int} {told says : List Int} {ys : List Bool} {prt : List RawPs} (h : StayI w gs C A B k last told says ys prt) : (gs.map fun p => gl0 p.2) = C.gs := congrArg Ss.gs h.ss
theorem StayI.gsl {w : World} {gs : Gs} {C : Ss RsT} {A B : List Rc} {k : Nat} {last : Int} {told says : List Int} {ys : List Bool} {prt : List RawPs} (h : StayI w gs C A B k last told says ys prt) : gs.length = C.gs.length := by rw [← h.gsC, List.length_map]
def zAct : List Value := [.int .u8 0, .slice none 0 0, .int .u8 0, .int .u8 0, .int .u8 0, .int .u32 0, .slice none 0 0, .slice none 0 0, .int .u64 0, .int .i64 0]
theorem plan_ps {ps : List RawP} (hok : planOk (ps.map partOf) = true) : ps.map (·.1) ∈ seven := by
 have := plan_seven hok
 rw [List.map_map] at this
 exact this
theorem rdparts_nil (w : World) : RdParts w noP.1 noP.2.2 := ⟨fun _ => rfl, fun i hi => absurd hi (Nat.not_lt_zero _), fun p hp => (by cases hp)⟩
theorem prt_set {w : World} {prt : List RawPs} (h8 : prt.length = 8) (h : ∀ g, g < 8 → PtW (prt.getD g noP)) (hr : ∀ g, g < 8 → ∀ w', Below w.heap.size w w' → RdParts w' (prt.getD g noP).1 (prt.getD g noP).2.2) {i : Nat} (hi : i < 8) {p : RawPs} (hp : PtW p) (hpr : ∀ w', Below w.heap.size w w' → RdParts w' p.1 p.2.2) :
  (∀ g, g < 8 → PtW ((prt.set i p).getD g noP)) ∧ ∀ g, g < 8 → ∀ w', Below w.heap.size w w' → RdParts w' ((prt.set i p).getD g noP).1 ((prt.set i p).getD g noP).2.2 := by
 refine ⟨fun g hg => ?_, fun g hg w' hb => ?_⟩
 ·rw [getD_set (by omega)]
  split
  ·exact hp
  ·exact h g hg
 ·rw [getD_set (by omega)]
  split
  ·exact hpr w' hb
  ·exact hr g hg w' hb
theorem stay_call {w : World} {Am : Option Addr} {cm : Nat} {ax : List RawA} (hR : ∀ w', Below w.heap.size w w' → RdActs w' Am ax) (hW : ∀ r ∈ ax, ActW r) (hB : ∀ r ∈ ax, ResB (rawL r.rs)) (hmm : ax.length ≤ cm ∧ cm ≤ maxLen) :
  Calls Tryz.prog 6 #[.slice Am ax.length cm] w fun e w' => e = .returned (.bool true) ∧ Sat w w' [] := by
 have S := Sat.start w
 refine calls_start (N := 141) [.slice Am ax.length cm] Tryz.func6 rfl rfl rfl (vok_c (vok_sl hmm) rfl) fun a fr => ?_
 refine r_ rfl ?_
 repeat refine w_ oSy_ rfl fr fun a fr => ?_
 refine er_ rfl rfl ?_
 repeat refine w_ oSy_ rfl fr fun a fr => ?_
 refine wl_call fr rfl rfl rfl rfl enGreat (great_call (fun w' S' => hR w' S'.below) hW hmm S) ?_
 rintro _ w1 ⟨gr, rfl, hgr, S⟩
 refine ⟨_, rfl, rfl, fun a fr => ?_⟩
 repeat refine w_ oSy_ rfl fr fun a fr => ?_
 first | refine e_ ?_ | refine wpList_nil ?_
 refine bs 18 fr rfl (fun q1 fr => ?_) (fun q1 fr => ?_)
 ·refine q_ rfl ?_
  refine cw_t fr rfl ?_
  refine r_ rfl ?_
  (
 repeat refine w_ oSy_ rfl fr fun a fr => ?_
 refine wl_call fr rfl rfl rfl rfl enLives (lives_call S) ?_
 rintro _ w5 ⟨rfl, S⟩
 refine ⟨_, rfl, rfl, fun a fr => ?_⟩
 repeat refine w_ oSy_ rfl fr fun a fr => ?_
 first | refine e_ ?_ | refine wpList_nil ?_
 refine wp_ret ?_
 try simp only [Exit.then, Exit.inBlock]
 exact ret1 fr rfl rfl ⟨rfl, S⟩
)
 have h200 := hgr q1
 refine q_ rfl ?_
 refine cw_f fr rfl ?_
 refine wp_skip ?_
 refine r_ rfl ?_
 repeat refine w_ oSy_ rfl fr fun a fr => ?_
 refine wl_call fr rfl rfl rfl rfl enOpened (opened_call S) ?_
 rintro _ w2 ⟨d, b, bl, bm, bk, bw, rfl, S⟩
 refine ⟨_, rfl, rfl, fun a fr => ?_⟩
 repeat refine w_ oSy_ rfl fr fun a fr => ?_
 refine er_ rfl rfl ?_
 repeat refine w_ oSy_ rfl fr fun a fr => ?_
 refine eq_ rfl rfl ?_
 refine cw_f fr rfl ?_
 refine wp_skip ?_
 refine r_ rfl ?_
 refine wl_allocg (zs := (List.replicate 8 (0 : Int)).map (Value.int .i64)) fr rfl rfl rfl rfl (fun _ => by kernel_rfl) rfl S ?_
 intro w3 bt S a fr
 refine er_ rfl rfl ?_
 refine wl_allocg (zs := (List.replicate 8 (0 : Int)).map (Value.int .i64)) fr rfl rfl rfl rfl (fun _ => by kernel_rfl) rfl S ?_
 intro w4 bsy S a fr
 refine er_ rfl rfl ?_
 refine wl_allocg (zs := (List.replicate 32 false).map Value.bool) fr rfl rfl rfl rfl (fun _ => by kernel_rfl) rfl S ?_
 intro w5 byy S a fr
 refine er_ rfl rfl ?_
 refine wl_allocg (zs := (List.replicate 8 noP).map ptV) fr rfl rfl rfl rfl (fun _ => by kernel_rfl) rfl S ?_
 intro w6 bp S a fr
 first | refine e_ ?_ | refine wpList_nil ?_
 have S : Sat w w6 (ptA bp (List.replicate 8 noP) :: yA byy (List.replicate 32 false) :: iA bsy (List.replicate 8 0) :: iA bt (List.replicate 8 0) :: chW b bl bm 0 bk bw 0 d [] [] 0 D0 []) := S
 have S := ((((S.frontAt 2 rfl).frontAt 1 rfl).frontAt 2 rfl).frontAt 3 rfl)
 have S : Sat w w6 (chW b bl bm 0 bk bw 0 d [] [] 0 D0 (arrs bt byy bp bsy (List.replicate 8 0) (List.replicate 8 0) (List.replicate 32 false) (List.replicate 8 noP))) := Sat.unturn (Z := arrs bt byy bp bsy (List.replicate 8 0) (List.replicate 8 0) (List.replicate 32 false) (List.replicate 8 noP)) S
 have hI0 : StayI w [] ⟨[], [], 0, D0⟩ [] [] 0 0 (List.replicate 8 0) (List.replicate 8 0) (List.replicate 32 false) (List.replicate 8 noP) := by
  have e : ∀ g, (List.replicate 8 noP).getD g noP = noP := fun g => by
   rw [List.getD_eq_getElem?_getD, List.getElem?_replicate]
   split <;> rfl
  exact ⟨rfl, fun p hp => (by cases hp), St.start, Nat.le_refl _, rfl, SaysI.start _, SaysI.start _, SyI.start _, rfl, rfl, fun g _ => by rw [e]; exact noP_W, fun g _ w' _ => by rw [e]; exact rdparts_nil w'⟩
 refine r_ rfl ?_
 repeat refine w_ oSy_ rfl fr fun a fr => ?_
 first | refine e_ ?_ | refine wpList_nil ?_
 have hmx := hmm.2
 unfold maxLen at hmx
 refine q_ rfl ?_
 refine wp_block ?_
 refine cw_loop (fun q a w2 => ∃ (j d b bl bm bk bw : Nat) (last now : Int) (gs : Gs) (C : Ss RsT) (A B : List Rc) (told says : List Int) (ys : List Bool) (prt : List RawPs), j + q = ax.length + 1 ∧ j ≤ ax.length ∧ StayI w gs C A B j last told says ys prt ∧
   Fr 141 a [(0, .slice Am ax.length cm), (3, .pointer (some ⟨d, 0, none⟩)), (4, .pointer (some ⟨b, 0, none⟩)), (5, .pointer (some ⟨bt, 0, none⟩)), (6, .pointer (some ⟨bsy, 0, none⟩)), (7, .pointer (some ⟨byy, 0, none⟩)), (8, .pointer (some ⟨bp, 0, none⟩)), (9, .int .i64 (j : Int))] ∧
   Sat w w2 (chW b bl bm last bk bw now d gs C.m C.x C.D (arrs bt byy bp bsy told says ys prt))) (ax.length + 1)
  ⟨0, d, b, bl, bm, bk, bw, 0, 0, [], ⟨[], [], 0, D0⟩, [], [], List.replicate 8 0, List.replicate 8 0, List.replicate 32 false, List.replicate 8 noP, by omega, by omega, hI0, fr.sub ⟨rfl, rfl, rfl, rfl, rfl, rfl, rfl, rfl, trivial⟩, S⟩ ?_ ?_
 ·rintro a w2 ⟨j, _, _, _, _, _, _, _, _, _, _, _, _, _, _, _, _, h, h', -⟩
  omega
 clear fr S hI0
 rintro q a w7 ⟨j, d, b, bl, bm, bk, bw, last, now, gs, C, A, B, told, says, ys, prt, hj, hj', hI, fr, S⟩
 refine r_ rfl ?_
 repeat refine w_ oSy_ rfl fr fun a fr => ?_
 first | refine e_ ?_ | refine wpList_nil ?_
 by_cases hlt : j < ax.length
 rotate_left
 ·have fr := fr.bool (d := 29) rfl (decide_eq_false (show ¬ (j : Int) < (ax.length : Int) by omega))
  refine q_ rfl ?_
  refine cw_f fr rfl ?_
  refine wp_exit ?_
  skip; (repeat (first | (with_reducible refine then_e ?_) | (with_reducible refine ng_e ?_) | (with_reducible refine blk_e (by decide) ?_))); (with_reducible refine blk_y ?_); (repeat (with_reducible refine then_n ?_))
  have S : Sat w _ [] := ⟨S.below, trivial⟩
  refine r_ rfl ?_
  (
 repeat refine w_ oSy_ rfl fr fun a fr => ?_
 refine wl_call fr rfl rfl rfl rfl enLives (lives_call S) ?_
 rintro _ w5 ⟨rfl, S⟩
 refine ⟨_, rfl, rfl, fun a fr => ?_⟩
 repeat refine w_ oSy_ rfl fr fun a fr => ?_
 first | refine e_ ?_ | refine wpList_nil ?_
 refine wp_ret ?_
 try simp only [Exit.then, Exit.inBlock]
 exact ret1 fr rfl rfl ⟨rfl, S⟩
)
 have fr := fr.bool (d := 29) rfl (decide_eq_true (show (j : Int) < (ax.length : Int) by omega))
 refine q_ rfl ?_
 refine cw_t fr rfl ?_
 refine wp_skip ?_
 with_reducible refine then_n ?_
 obtain ⟨ad, hA, hcell⟩ := (hR _ S.below).cell j hlt
 have hmem := List.getElem_mem hlt
 have hw := hW _ hmem
 have hb := hB _ hmem
 have hrd : ∀ w', Below w.heap.size w w' → RdAct w' ax[j] := fun w' h => (hR w' h).rd _ hmem
 obtain ⟨r, hr⟩ : ∃ r, r = ax[j] := ⟨_, rfl⟩
 rw [← hr] at hcell hw hb hrd
 have hj200 : j < 200 := by omega
 refine q_ rfl ?_
 refine wp_block ?_
 refine r_ rfl ?_
 repeat refine w_ oSy_ rfl fr fun a fr => ?_
 refine wl_ldrs (cs := acV r) oSy_ (i := (j : Int)) (z := 10) ⟨ad, hA, fun j' u hu => hcell j' u hu⟩ (acV_ok hw) fr rfl rfl rfl rfl rfl rfl rfl rfl rfl rfl rfl rfl rfl rfl rfl rfl ⟨by omega, by omega⟩ fun a fr => ?_
 refine wl_allocg (zs := zAct) fr rfl rfl rfl rfl (fun _ => by kernel_rfl) rfl S ?_
 intro w8 gx S a fr
 refine wl_stg (cs := zAct) (vs := acV r) oSy_ fr rfl rfl rfl rfl rfl rfl rfl (by
  have h9 := acV_ok hw
  rw [List.all_eq_true] at h9 ⊢
  intro v hv
  have h8 := h9 v hv
  have h7 : v.oneCell' = true := by
   simp only [acV, mgV, List.mem_cons, List.mem_append, List.not_mem_nil, or_false] at hv
   rcases hv with rfl | rfl | (rfl | rfl | rfl | rfl | rfl | rfl) | rfl | rfl <;> rfl
  rw [h7]
  have h6 : vok v = true := by
   simp only [acV, mgV, List.mem_cons, List.mem_append, List.not_mem_nil, or_false] at hv
   rcases hv with rfl | rfl | (rfl | rfl | rfl | rfl | rfl | rfl) | rfl | rfl <;> exact h8
  rw [h6]; rfl) S ?_
 intro w9 S
 have S := S.behind
 first | refine e_ ?_ | refine wpList_nil ?_
 have hbox : ∀ {w'} {b bl bm bk bw d : Nat} {last now : Int} {gs : Gs} {C : Ss RsT} {Z : List Asn}, Sat w w' (chW b bl bm last bk bw now d gs C.m C.x C.D (stA 60 gx (acV r) :: Z)) → ∀ {j' : Nat} {v : Value}, (acV r)[j']? = some v → w'.cell? ((⟨gx, 0, none⟩ : Addr).add j') = some v ∧ vok v = true := fun S' => fun hj => Sat.stAt (Sat.past S') 0 rfl hj
 refine r_ rfl ?_
 repeat refine w_ oSy_ rfl fr fun a fr => ?_
 refine er_ rfl rfl ?_
 repeat refine w_ oSy_ rfl fr fun a fr => ?_
 refine wl_ldf oSy_ (v := .int .u8 r.kd) (hbox S (j' := 0) rfl) fr rfl rfl rfl rfl rfl rfl rfl fun a fr => ?_
 refine wl_pv oSy_ fr rfl rfl rfl (po_rem (q := (10 : Int)) rfl rfl rfl (by decide)) fun a fr => ?_
 repeat refine w_ oSy_ rfl fr fun a fr => ?_
 first | refine e_ ?_ | refine wpList_nil ?_
 obtain ⟨kd, hkd⟩ : ∃ kd, kd = r.kd.tmod 10 := ⟨_, rfl⟩
 have fr := fr.sub (L' := [(0, .slice Am ax.length cm), (3, .pointer (some ⟨d, 0, none⟩)), (4, .pointer (some ⟨b, 0, none⟩)), (5, .pointer (some ⟨bt, 0, none⟩)), (6, .pointer (some ⟨bsy, 0, none⟩)), (7, .pointer (some ⟨byy, 0, none⟩)), (8, .pointer (some ⟨bp, 0, none⟩)), (9, .int .i64 (j : Int)), (10, .pointer (some ⟨gx, 0, none⟩)), (11, .slice none 0 0), (38, .int .u8 kd)]) (by rw [hkd]; exact ⟨rfl, rfl, rfl, rfl, rfl, rfl, rfl, rfl, rfl, rfl, rfl, trivial⟩)
 clear hkd
 refine q_ rfl ?_
 refine cw_any (StayM w Am ax.length cm j bt byy bp bsy gx r) ?_ ?_
 rotate_left
 ·clear fr S hI
  rintro a w10 ⟨d, b, bl, bm, bk, bw, last, now, gs, C, A, B, told, says, ys, prt, A11, c11, os, hI, hout, fr, S⟩
  repeat first | with_reducible refine then_n ?_ | with_reducible refine blk_n ?_
  have S : Sat w w10 (pmA A11 c11 os :: iA bt told :: yA byy ys :: ptA bp prt :: iA bsy says :: chW b bl bm last bk bw now d gs C.m C.x C.D []) := S.turn
  have S := (((((S.frontAt 2 rfl).frontAt 2 rfl).frontAt 2 rfl).frontAt 3 rfl).frontAt 4 rfl)
  obtain ⟨-, hpl, -, hpv, -⟩ := Sat.rvAt S 2 rfl
  have hpv : ∀ o ∈ os, (pmV o).all vok1 = true := fun o ho => by
   rw [List.all_eq_true]
   exact fun v hv => hpv v (List.mem_flatMap.2 ⟨o, ho, hv⟩)
  have hol : os.length ≤ maxLen := Nat.le_trans hpl.1 hpl.2
  refine r_ rfl ?_
  repeat refine w_ oSy_ rfl fr fun a fr => ?_
  refine wl_call fr rfl rfl rfl rfl enOnce (once_call (A := A11) (c := os.length) (fun w' S' => ⟨fun i hi => pm_cell S' 0 rfl hi⟩) hpv ⟨Nat.le_refl _, hol⟩ hI.says hI.lp hout S) ?_
  rintro _ w11 ⟨says', rfl, hsays, S⟩
  refine ⟨_, rfl, rfl, fun a fr => ?_⟩
  repeat refine w_ oSy_ rfl fr fun a fr => ?_
  have S := (((((S.frontAt 2 rfl).frontAt 1 rfl).frontAt 2 rfl).frontAt 4 rfl).frontAt 4 rfl)
  have S := Sat.unturn (Z := [iA bt told, yA byy ys, ptA bp prt, iA bsy says', pmA A11 c11 os]) S
  refine wl_call fr rfl rfl rfl rfl enStays (stays_call (R := [iA bsy says', pmA A11 c11 os]) hI.gsC hI.gi hI.told hI.ly hI.lp hI.sy.com (fun w' S' g hg => hI.pr g hg w' S'.below) hI.pw S) ?_
  rintro _ w12 ⟨told', rfl, htold, S⟩
  refine ⟨_, rfl, rfl, fun a fr => ?_⟩
  repeat refine w_ oSy_ rfl fr fun a fr => ?_
  refine eq_ rfl rfl ?_
  refine cw_f fr rfl ?_
  refine wp_skip ?_
  refine r_ rfl ?_
  repeat refine w_ oSy_ rfl fr fun a fr => ?_
  first | refine e_ ?_ | refine wpList_nil ?_
  have S := Sat.unturn (Z := arrs bt byy bp bsy told' says' ys prt) (S.turn.mask [true, true, true, true, false])
  have fr := fr.spell (d := 9) rfl (congrArg (Value.int .i64) (i64_next hlt (by omega)))
  exact ⟨j + 1, d, b, bl, bm, bk, bw, last, now, gs, C, A, B, told', says', ys, prt, by omega, by omega, ⟨hI.ss, hI.gi, hI.st, hI.m, hI.last, htold, hsays, hI.sy, hI.ly, hI.lp, hI.pw, hI.pr⟩, fr.sub ⟨rfl, rfl, rfl, rfl, rfl, rfl, rfl, rfl, trivial⟩, S⟩
 have hfew1 := hI.st.few
 have hfew2 := hI.st.few2
 have hgsl := hI.gsl
 have hbb : (0 ≤ C.x ∧ C.x ≤ 4096) ∧ C.D.waits.length ≤ 100000000 := ⟨(hI.st.b (by omega)).1, Nat.le_trans (hI.st.b (by omega)).2 (by decide)⟩
 have hn := hI.st.good.num
 refine wp_block ?_
 refine r_ rfl ?_
 repeat refine w_ oSy_ rfl fr fun a fr => ?_
 first | refine e_ ?_ | refine wpList_nil ?_
 refine bs 82 fr rfl (fun q2 fr => ?_) (fun q2 fr => ?_)
 ·-- one begins
  refine q_ rfl ?_
  refine cw_t fr rfl ?_
  have hw1 : IntKind.wrap .u32 (last + 1) = (C.gs.length : Int) + 1 := by rw [hI.last]; exact wrap_u32 (by omega)
  have hnew : ∀ p ∈ gs, p.2.g ≠ IntKind.wrap .u32 (last + 1) := fun p hp => by
   have h9 : gl0 p.2 ∈ C.gs := by rw [← hI.gsC]; exact List.mem_map.2 ⟨p, hp, rfl⟩
   obtain ⟨i, hi, e⟩ := List.mem_iff_getElem.1 h9
   have h8 := hn i hi
   rw [e] at h8
   have h8 : p.2.g = (i : Int) + 1 := h8
   rw [hw1]
   omega
  refine r_ rfl ?_
  repeat refine w_ oSy_ rfl fr fun a fr => ?_
  refine wl_ldf oSy_ (v := .slice r.Ap r.ps.length r.cp) (hbox S (j' := 1) rfl) fr rfl rfl rfl rfl rfl rfl rfl fun a fr => ?_
  refine wl_call fr rfl rfl rfl rfl enBegin (begin_call (ps := r.ps) (fun w' S' => (hrd w' S'.below).parts) hw.pw hw.pm hI.gi (by omega) hnew hbb S) ?_
  rintro _ w10 (⟨-, rfl, S⟩ | ⟨-, -, rfl, S⟩ | ⟨-, -, h3, -⟩ | ⟨hok, -, -, A4, c4, bn, rfl, hv4, hGI, S⟩)
  ·refine ⟨_, rfl, rfl, fun a fr => ?_⟩
   repeat refine w_ oSy_ rfl fr fun a fr => ?_
   refine er_ rfl rfl ?_
   repeat refine w_ oSy_ rfl fr fun a fr => ?_
   refine eq_ rfl rfl ?_
   refine cw_f fr rfl ?_
   refine wp_skip ?_
   (
 have S := (noPm S.before.tl).behind
 exact ⟨rfl, d, b, bl, bm, bk, bw, last, now, gs, C, A, B, told, says, ys, prt, none, 0, [], hI.more, fun o ho => (by cases ho), fr.sub ⟨rfl, rfl, rfl, rfl, rfl, rfl, rfl, rfl, rfl, trivial⟩, S⟩
)
  ·refine ⟨_, rfl, rfl, fun a fr => ?_⟩
   repeat refine w_ oSy_ rfl fr fun a fr => ?_
   refine er_ rfl rfl ?_
   repeat refine w_ oSy_ rfl fr fun a fr => ?_
   refine eq_ rfl rfl ?_
   refine cw_f fr rfl ?_
   refine wp_skip ?_
   (
 have S := (noPm S.before.tl).behind
 exact ⟨rfl, d, b, bl, bm, bk, bw, last, now, gs, C, A, B, told, says, ys, prt, none, 0, [], hI.more, fun o ho => (by cases ho), fr.sub ⟨rfl, rfl, rfl, rfl, rfl, rfl, rfl, rfl, rfl, trivial⟩, S⟩
)
  ·rw [hw1] at h3
   rw [(hI.st.begin_ (by omega) (show [1] ∈ seven by decide) []).1] at h3
   exact absurd h3 (by decide)
  rw [hw1] at S hGI hv4
  refine ⟨.tuple #[.int .u32 ((C.gs.length : Int) + 1), .slice A4 r.ps.length r.ps.length, .int .i64 0], by rw [hw1], hv4, fun a fr => ?_⟩
  have hL := plan_ps hok
  have S := S.tl
  obtain ⟨C', hC'⟩ : ∃ C' : Ss RsT, C' = ⟨C.gs ++ [gB ((C.gs.length : Int) + 1) (r.ps.map (·.1))], upM C.m ((C.gs.length : Int) + 1) (IntKind.wrap .i64 (now + 8)), addXI C.D C.x (beginR ((C.gs.length : Int) + 1)), (addDI C.D C.x (beginR ((C.gs.length : Int) + 1))).sync⟩ := ⟨_, rfl⟩
  obtain ⟨gs', hgs'⟩ : ∃ gs', gs' = gs ++ [(bn, newG zV ((C.gs.length : Int) + 1) (r.ps.map (·.1)))] := ⟨_, rfl⟩
  have S : Sat w w10 (chW b bl bm ((C.gs.length : Int) + 1) bk bw now d gs' C'.m C'.x C'.D (stA 60 gx (acV r) :: arrs bt byy bp bsy told says ys prt)) := by rw [hC', hgs']; exact S
  obtain ⟨-, hSt'⟩ := hI.st.begin_ (by omega) hL (upM C.m ((C.gs.length : Int) + 1) (IntKind.wrap .i64 (now + 8)))
  rw [← hC'] at hSt'
  have hgC' : C'.gs = C.gs ++ [gB ((C.gs.length : Int) + 1) (r.ps.map (·.1))] := by rw [hC']
  obtain ⟨gb1, gb2, -⟩ := gB_is hL ((C.gs.length : Int) + 1)
  have hsy := hI.sy.begin_ hn hI.lp (p := (r.Ap, r.cp, r.ps)) hL
  have hsy : SyI C'.gs (if C.gs.length + 1 < 8 then prt.set (C.gs.length + 1) (r.Ap, r.cp, r.ps) else prt) ys := by rw [hgC']; exact hsy
  have hI' : ∀ prt' : List RawPs, SyI C'.gs prt' ys → prt'.length = 8 → (∀ g, g < 8 → PtW (prt'.getD g noP)) → (∀ g, g < 8 → ∀ w', Below w.heap.size w w' → RdParts w' (prt'.getD g noP).1 (prt'.getD g noP).2.2) → StayI w gs' C' (A ++ (B ++ [(98, (C.gs.length : Int) + 1, [])])) [] (j + 1) ((C.gs.length : Int) + 1) told says ys prt' := fun prt' p1 p2 p3 p4 => by
   refine ⟨?_, fun p hp => ?_, hSt', ?_, ?_, ?_, ?_, p1, hI.ly, p2, p3, p4⟩
   ·rw [hgs', hC']
    unfold ss0
    rw [List.map_append, hI.gsC]
    rfl
   ·rw [hgs'] at hp
    rcases List.mem_append.1 hp with hp | hp
    ·exact hI.gi p hp
    ·rw [List.mem_singleton] at hp; rw [hp]; exact hGI
   ·rw [hC']
    exact Nat.le_trans (upM_len _ _ _) (Nat.succ_le_succ hI.m)
   ·rw [hgC', List.length_append, List.length_singleton]; rfl
   ·rw [hgC']; exact hI.told.begin_ hn gb1 gb2
   ·rw [hgC']; exact hI.says.begin_ hn gb1 gb2
  clear hC' hgs'
  repeat refine w_ oSy_ rfl fr fun a fr => ?_
  refine er_ rfl rfl ?_
  repeat refine w_ oSy_ rfl fr fun a fr => ?_
  first | refine e_ ?_ | refine wpList_nil ?_
  refine bs 97 fr rfl (fun q3 fr => ?_) (fun q3 fr => ?_)
  ·have hg8 : C.gs.length + 1 < 8 := by have := of_decide_eq_true q3; omega
   rw [if_pos hg8] at hsy
   obtain ⟨p3, p4⟩ := prt_set (p := (r.Ap, r.cp, r.ps)) hI.lp hI.pw hI.pr hg8 ⟨hw.pw, hw.pm⟩ (fun w' h => (hrd w' h).parts)
   refine q_ rfl ?_
   refine cw_t fr rfl ?_
   refine r_ rfl ?_
   repeat refine w_ oSy_ rfl fr fun a fr => ?_
   refine wl_ldf oSy_ (v := .slice r.Ap r.ps.length r.cp) (hbox S (j' := 1) rfl) fr rfl rfl rfl rfl rfl rfl rfl fun a fr => ?_
   refine wl_ixa oSy_ fr rfl rfl rfl rfl rfl rfl rfl rfl ⟨by omega, by omega⟩ fun a fr => ?_
   have S : Sat w w10 (stA 60 gx (acV r) :: iA bt told :: yA byy ys :: ptA bp prt :: iA bsy says :: chW b bl bm ((C.gs.length : Int) + 1) bk bw now d gs' C'.m C'.x C'.D []) := S.turn
   have S := ((((S.frontAt 2 rfl).frontAt 2 rfl).frontAt 2 rfl).frontAt 3 rfl)
   refine wl_stfA oSy_ (C.gs.length + 1) fr rfl rfl rfl rfl (by show (⟨bp, 0, none⟩ : Addr).add (((C.gs.length : Int) + 1).toNat * 1) = _; rw [Nat.mul_one]; congr 1) rfl rfl rfl rfl S (by rw [List.length_map, hI.lp]; exact hg8) ?_
   intro w11 S
   have S : Sat w w11 (stA 57 bp ((prt.map ptV).set (C.gs.length + 1) (ptV (r.Ap, r.cp, r.ps))) :: stA 60 gx (acV r) :: iA bt told :: yA byy ys :: iA bsy says :: chW b bl bm ((C.gs.length : Int) + 1) bk bw now d gs' C'.m C'.x C'.D []) := S
   rw [← List.map_set] at S
   have S : Sat w w11 (ptA bp (prt.set (C.gs.length + 1) (r.Ap, r.cp, r.ps)) :: stA 60 gx (acV r) :: iA bt told :: yA byy ys :: iA bsy says :: chW b bl bm ((C.gs.length : Int) + 1) bk bw now d gs' C'.m C'.x C'.D []) := S
   have S := (((((S.frontAt 4 rfl).frontAt 1 rfl).frontAt 4 rfl).frontAt 4 rfl).frontAt 4 rfl)
   have S := Sat.unturn (Z := arrs bt byy bp bsy told says ys (prt.set (C.gs.length + 1) (r.Ap, r.cp, r.ps))) S.tl
   have S := (noPm S).behind
   first | refine e_ ?_ | refine wpList_nil ?_
   exact ⟨rfl, d, b, bl, bm, bk, bw, _, now, gs', C', _, [], told, says, ys, _, none, 0, [], hI' _ hsy (by rw [List.length_set]; exact hI.lp) p3 p4, fun o ho => (by cases ho), fr.sub ⟨rfl, rfl, rfl, rfl, rfl, rfl, rfl, rfl, rfl, trivial⟩, S⟩
  ·have hg8 : ¬ C.gs.length + 1 < 8 := by have := of_decide_eq_false q3; omega
   rw [if_neg hg8] at hsy
   refine q_ rfl ?_
   refine cw_f fr rfl ?_
   refine wp_skip ?_
   have S := (noPm S.before.tl).behind
   exact ⟨rfl, d, b, bl, bm, bk, bw, _, now, gs', C', _, [], told, says, ys, prt, none, 0, [], hI' _ hsy hI.lp hI.pw hI.pr, fun o ho => (by cases ho), fr.sub ⟨rfl, rfl, rfl, rfl, rfl, rfl, rfl, rfl, rfl, trivial⟩, S⟩
 refine q_ rfl ?_
 refine cw_f fr rfl ?_
 refine r_ rfl ?_
 repeat refine w_ oSy_ rfl fr fun a fr => ?_
 first | refine e_ ?_ | refine wpList_nil ?_
 refine bs 102 fr rfl (fun q3 fr => ?_) (fun q3 fr => ?_)
 ·refine q_ rfl ?_
  refine cw_t fr rfl ?_
  refine wp_skip ?_
  refine q_ rfl ?_
  refine cw_t fr rfl ?_
  (
 obtain ⟨C', hC'⟩ : ∃ C', C' = (tickAll C (IntKind.wrap .i64 (now + 1))).1 := ⟨_, rfl⟩
 obtain ⟨os, hos⟩ : ∃ os, os = (tickAll C (IntKind.wrap .i64 (now + 1))).2 := ⟨_, rfl⟩
 have hT : tickAll C (IntKind.wrap .i64 (now + 1)) = (C', os) := by rw [hC', hos]
 obtain ⟨st1, st2, st3⟩ := hI.st.tick (IntKind.wrap .i64 (now + 1))
 have hml := tickAll_m C (IntKind.wrap .i64 (now + 1))
 rw [← hC'] at st1 st2 st3 hml
 rw [← hos] at st3
 have hIm := hI.m
 refine r_ rfl ?_
 repeat refine w_ oSy_ rfl fr fun a fr => ?_
 refine wl_call fr rfl rfl rfl rfl enTickC (tick_step hI.ss rfl hT hI.gi (by omega) (by omega) S) ?_
 rintro _ w10 ⟨A10, c10, gs', rfl, hv10, hss, hgi, -, S⟩
 refine ⟨_, rfl, hv10, fun a fr => ?_⟩
 repeat refine w_ oSy_ rfl fr fun a fr => ?_
 first | refine e_ ?_ | refine wpList_nil ?_
 have hx9 : (ss0 gs' C'.m C.x C.D).x = C'.x := congrArg Ss.x hss
 have hD9 : (ss0 gs' C'.m C.x C.D).D = C'.D := congrArg Ss.D hss
 have hx9 : C.x = C'.x := hx9
 have hD9 : C.D = C'.D := hD9
 rw [hx9, hD9] at S hss
 have S := S.behind
 have S : Sat w w10 (chW b bl bm last bk bw (IntKind.wrap .i64 (now + 1)) d gs' C'.m C'.x C'.D (pmA A10 c10 os :: stA 60 gx (acV r) :: arrs bt byy bp bsy told says ys prt)) := S
 have S := Sat.unturn (Z := pmA A10 c10 os :: arrs bt byy bp bsy told says ys prt) (S.turn.mask [true, false])
 have hn' := st1.good.num
 have h1 : StayI w gs' C' A B (j + 1) last told says ys prt := StayI.more ⟨hss, hgi, st1, by omega, by rw [st2.len]; exact hI.last, hI.told.step st2 hn hn', hI.says.step st2 hn hn', hI.sy.step st2 hn hn' (fun _ h => h) (fun _ _ h => h.elim), hI.ly, hI.lp, hI.pw, hI.pr⟩
 exact ⟨rfl, d, b, bl, bm, bk, bw, last, _, gs', C', A, B, told, says, ys, prt, A10, c10, os, h1, hI.sy.outs hn st3, fr.sub ⟨rfl, rfl, rfl, rfl, rfl, rfl, rfl, rfl, rfl, trivial⟩, S⟩
)
 refine q_ rfl ?_
 refine cw_f fr rfl ?_
 refine r_ rfl ?_
 repeat refine w_ oSy_ rfl fr fun a fr => ?_
 first | refine e_ ?_ | refine wpList_nil ?_
 repeat with_reducible refine then_n ?_
 refine bs 102 fr rfl (fun q4 fr => ?_) (fun q4 fr => ?_)
 ·refine q_ rfl ?_
  refine cw_t fr rfl ?_
  (
 obtain ⟨C', hC'⟩ : ∃ C', C' = (tickAll C (IntKind.wrap .i64 (now + 1))).1 := ⟨_, rfl⟩
 obtain ⟨os, hos⟩ : ∃ os, os = (tickAll C (IntKind.wrap .i64 (now + 1))).2 := ⟨_, rfl⟩
 have hT : tickAll C (IntKind.wrap .i64 (now + 1)) = (C', os) := by rw [hC', hos]
 obtain ⟨st1, st2, st3⟩ := hI.st.tick (IntKind.wrap .i64 (now + 1))
 have hml := tickAll_m C (IntKind.wrap .i64 (now + 1))
 rw [← hC'] at st1 st2 st3 hml
 rw [← hos] at st3
 have hIm := hI.m
 refine r_ rfl ?_
 repeat refine w_ oSy_ rfl fr fun a fr => ?_
 refine wl_call fr rfl rfl rfl rfl enTickC (tick_step hI.ss rfl hT hI.gi (by omega) (by omega) S) ?_
 rintro _ w10 ⟨A10, c10, gs', rfl, hv10, hss, hgi, -, S⟩
 refine ⟨_, rfl, hv10, fun a fr => ?_⟩
 repeat refine w_ oSy_ rfl fr fun a fr => ?_
 first | refine e_ ?_ | refine wpList_nil ?_
 have hx9 : (ss0 gs' C'.m C.x C.D).x = C'.x := congrArg Ss.x hss
 have hD9 : (ss0 gs' C'.m C.x C.D).D = C'.D := congrArg Ss.D hss
 have hx9 : C.x = C'.x := hx9
 have hD9 : C.D = C'.D := hD9
 rw [hx9, hD9] at S hss
 have S := S.behind
 have S : Sat w w10 (chW b bl bm last bk bw (IntKind.wrap .i64 (now + 1)) d gs' C'.m C'.x C'.D (pmA A10 c10 os :: stA 60 gx (acV r) :: arrs bt byy bp bsy told says ys prt)) := S
 have S := Sat.unturn (Z := pmA A10 c10 os :: arrs bt byy bp bsy told says ys prt) (S.turn.mask [true, false])
 have hn' := st1.good.num
 have h1 : StayI w gs' C' A B (j + 1) last told says ys prt := StayI.more ⟨hss, hgi, st1, by omega, by rw [st2.len]; exact hI.last, hI.told.step st2 hn hn', hI.says.step st2 hn hn', hI.sy.step st2 hn hn' (fun _ h => h) (fun _ _ h => h.elim), hI.ly, hI.lp, hI.pw, hI.pr⟩
 exact ⟨rfl, d, b, bl, bm, bk, bw, last, _, gs', C', A, B, told, says, ys, prt, A10, c10, os, h1, hI.sy.outs hn st3, fr.sub ⟨rfl, rfl, rfl, rfl, rfl, rfl, rfl, rfl, rfl, trivial⟩, S⟩
)
 refine q_ rfl ?_
 refine cw_f fr rfl ?_
 refine r_ rfl ?_
 repeat refine w_ oSy_ rfl fr fun a fr => ?_
 first | refine e_ ?_ | refine wpList_nil ?_
 refine bs 110 fr rfl (fun q5 fr => ?_) (fun q5 fr => ?_)
 ·-- it fails
  refine q_ rfl ?_
  refine cw_t fr rfl ?_
  obtain ⟨tn, htn⟩ : ∃ tn : Int, tn = if r.torn > -1 then r.torn else -1 := ⟨_, rfl⟩
  have htw : (Lit.int .i64 tn).wf = true := by
   rw [htn]
   split
   ·exact hw.torn
   ·rfl
  have htg : -1 ≤ tn := by rw [htn]; split <;> omega
  obtain ⟨hrec, hSt3, hTr, -⟩ := hI.st.fail (by omega) r.keep tn []
  obtain ⟨L', hL'⟩ : ∃ L', L' = A ++ B.take (lead r.keep 0 B.length) := ⟨_, rfl⟩
  rw [← hL'] at hrec hSt3 hTr
  have hfewL : L'.length ≤ 100000 := by have h9 := hSt3.few; have h8 : ([] : List Rc).length = 0 := rfl; omega
  have hOkL := hSt3.good.ok
  have hlast := hSt3.good.last
  obtain ⟨D3, hD3⟩ : ∃ D3, D3 = Dk.fail C.D r.keep tn := ⟨_, rfl⟩
  rw [← hD3] at hrec hSt3
  have hw3 : D3.waits.length ≤ 100000000 := by rw [hD3]; exact Nat.zero_le _
  have hwt : C.D.waits.length ≤ 1000000 := Nat.le_trans (hI.st.b (by omega)).2 (by decide)
  refine r_ rfl ?_
  repeat refine w_ oSy_ rfl fr fun a fr => ?_
  refine wl_ldf oSy_ (v := .int .u64 r.keep) (hbox S (j' := 8) rfl) fr rfl rfl rfl rfl rfl rfl rfl fun a fr => ?_
  repeat refine w_ oSy_ rfl fr fun a fr => ?_
  refine wl_ldf oSy_ (v := .int .i64 r.torn) (hbox S (j' := 9) rfl) fr rfl rfl rfl rfl rfl rfl rfl fun a fr => ?_
  repeat refine w_ oSy_ rfl fr fun a fr => ?_
  have fr := fr.spell (d := 118) rfl (show Value.int .i64 (if r.torn > -1 then r.torn else -1) = .int .i64 tn by rw [htn])
  refine wl_call fr rfl rfl rfl rfl enFailS (disk_fail (S.frontAt 2 rfl) hw.keep htw ⟨hwt, htg⟩) ?_
  rintro _ w10 ⟨d', rfl, S⟩
  rw [← hD3] at S
  refine ⟨_, rfl, rfl, fun a fr => ?_⟩
  repeat refine w_ oSy_ rfl fr fun a fr => ?_
  refine er_ rfl rfl ?_
  repeat refine w_ oSy_ rfl fr fun a fr => ?_
  refine eq_ rfl rfl ?_
  refine cw_f fr rfl ?_
  refine wp_skip ?_
  refine r_ rfl ?_
  repeat refine w_ oSy_ rfl fr fun a fr => ?_
  refine er_ rfl rfl ?_
  repeat refine w_ oSy_ rfl fr fun a fr => ?_
  refine wl_call fr rfl rfl rfl rfl enChNew (chnew_call hrec hOkL hw3 hfewL S) ?_
  rintro _ w11 ⟨b', bl', bm', bk', bw', gs4, rfl, hgs4, hI4, S⟩
  refine ⟨_, rfl, rfl, fun a fr => ?_⟩
  repeat refine w_ oSy_ rfl fr fun a fr => ?_
  refine er_ rfl rfl ?_
  repeat refine w_ oSy_ rfl fr fun a fr => ?_
  refine eq_ rfl rfl ?_
  refine cw_f fr rfl ?_
  refine wp_skip ?_
  have S := Sat.dropOld (Y := diskA d C.D :: chS b bl bm last bk :: logA bl d C.x :: ckS bk bw now :: ckM bw C.m :: glM bm gs :: gsT gs) (Z := stA 60 gx (acV r) :: arrs bt byy bp bsy told says ys prt) S
  have S := (noPm S.before.tl).behind
  have hn' := hSt3.good.num
  have h1 : StayI w gs4 ⟨lrn L', [], ((atD D3 : Nat) : Int), openD D3⟩ L' [] (j + 1) (lastL L') told says ys prt := StayI.more ⟨by unfold ss0; rw [hgs4], hI4, hSt3, Nat.zero_le _, hlast, hI.told.step hTr hn hn', hI.says.step hTr hn hn', hI.sy.step hTr hn hn' (fun _ h => h) (fun _ _ h => h.elim), hI.ly, hI.lp, hI.pw, hI.pr⟩
  exact ⟨rfl, d', b', bl', bm', bk', bw', _, 0, gs4, _, L', [], told, says, ys, prt, none, 0, [], h1, fun o ho => (by cases ho), fr.sub ⟨rfl, rfl, rfl, rfl, rfl, rfl, rfl, rfl, rfl, trivial⟩, S⟩
 refine q_ rfl ?_
 refine cw_f fr rfl ?_
 have hmsg : ∀ {w'} {ys' : List Bool}, Sat w w' (chW b bl bm last bk bw now d gs C.m C.x C.D (stA 60 gx (acV r) :: arrs bt byy bp bsy told says ys' prt)) → ∀ {j' : Nat} {v : Value}, (acV r)[2 + j']? = some v → w'.cell? (((⟨gx, 0, none⟩ : Addr).add 2).add j') = some v ∧ vok v = true := fun S' => fun hj => by
  rw [add_add]; exact hbox S' hj
 have hg0 : 0 ≤ r.g := by
  have h := hw.mg.g
  rw [wf_int] at h
  have e1 : IntKind.u32.min = 0 := by decide
  omega
 (with_reducible refine wp_seq ?_)
 refine cw_any (fun a w2 => ∃ ys' : List Bool, ys'.length = 32 ∧ (∀ i, ys.getD i false = true → ys'.getD i false = true) ∧ (∀ i k, votes r.s r.f r.t r.g i k → i + 1 < 8 → ys'.getD ((i + 1) * 4 + k) false = true) ∧ Fr 141 a [(0, .slice Am ax.length cm), (3, .pointer (some ⟨d, 0, none⟩)), (4, .pointer (some ⟨b, 0, none⟩)), (5, .pointer (some ⟨bt, 0, none⟩)), (6, .pointer (some ⟨bsy, 0, none⟩)), (7, .pointer (some ⟨byy, 0, none⟩)), (8, .pointer (some ⟨bp, 0, none⟩)), (9, .int .i64 (j : Int)), (10, .pointer (some ⟨gx, 0, none⟩))] ∧
  Sat w w2 (chW b bl bm last bk bw now d gs C.m C.x C.D (stA 60 gx (acV r) :: arrs bt byy bp bsy told says ys' prt))) ?_ ?_
 ·
  refine r_ rfl ?_
  repeat refine w_ oSy_ rfl fr fun a fr => ?_
  refine wl_ldf oSy_ (v := .int .u8 r.s) (hmsg S (j' := 0) rfl) fr rfl rfl rfl rfl rfl rfl rfl fun a fr => ?_
  repeat refine w_ oSy_ rfl fr fun a fr => ?_
  refine bs 43 fr rfl (fun p1 fr => ?_) (fun p1 fr => ?_)
  rotate_left
  ·have hno : ¬ (r.s = 2 ∧ r.t = 0 ∧ 1 ≤ r.f ∧ r.f ≤ 3 ∧ r.g < 8) := fun h => by rw [h.1] at p1; exact absurd p1 (by decide)
   repeat refine w_ oSy_ rfl fr fun a fr => ?_
   first | refine e_ ?_ | refine wpList_nil ?_
   (
  refine q_ rfl ?_
  refine cw_f fr rfl ?_
  refine wp_skip ?_
  exact ⟨rfl, ys, hI.ly, fun _ h => h, fun i k hv hi => absurd ⟨hv.1, hv.2.1, hv.2.2.2.2.1, hv.2.2.2.2.2, by have := hv.2.2.1; omega⟩ hno, fr.sub ⟨rfl, rfl, rfl, rfl, rfl, rfl, rfl, rfl, rfl, trivial⟩, S⟩
)
  repeat refine w_ oSy_ rfl fr fun a fr => ?_
  refine wl_ldf oSy_ (v := .int .u8 r.t) (hmsg S (j' := 2) rfl) fr rfl rfl rfl rfl rfl rfl rfl fun a fr => ?_
  repeat refine w_ oSy_ rfl fr fun a fr => ?_
  refine bs 49 fr rfl (fun p2 fr => ?_) (fun p2 fr => ?_)
  rotate_left
  ·have hno : ¬ (r.s = 2 ∧ r.t = 0 ∧ 1 ≤ r.f ∧ r.f ≤ 3 ∧ r.g < 8) := fun h => by rw [h.2.1] at p2; exact absurd p2 (by decide)
   repeat refine w_ oSy_ rfl fr fun a fr => ?_
   first | refine e_ ?_ | refine wpList_nil ?_
   (
  refine q_ rfl ?_
  refine cw_f fr rfl ?_
  refine wp_skip ?_
  exact ⟨rfl, ys, hI.ly, fun _ h => h, fun i k hv hi => absurd ⟨hv.1, hv.2.1, hv.2.2.2.2.1, hv.2.2.2.2.2, by have := hv.2.2.1; omega⟩ hno, fr.sub ⟨rfl, rfl, rfl, rfl, rfl, rfl, rfl, rfl, rfl, trivial⟩, S⟩
)
  repeat refine w_ oSy_ rfl fr fun a fr => ?_
  refine wl_ldf oSy_ (v := .int .u8 r.f) (hmsg S (j' := 1) rfl) fr rfl rfl rfl rfl rfl rfl rfl fun a fr => ?_
  repeat refine w_ oSy_ rfl fr fun a fr => ?_
  refine bs 55 fr rfl (fun p3 fr => ?_) (fun p3 fr => ?_)
  rotate_left
  ·have hno : ¬ (r.s = 2 ∧ r.t = 0 ∧ 1 ≤ r.f ∧ r.f ≤ 3 ∧ r.g < 8) := fun h => by have := of_decide_eq_false p3; omega
   repeat refine w_ oSy_ rfl fr fun a fr => ?_
   first | refine e_ ?_ | refine wpList_nil ?_
   (
  refine q_ rfl ?_
  refine cw_f fr rfl ?_
  refine wp_skip ?_
  exact ⟨rfl, ys, hI.ly, fun _ h => h, fun i k hv hi => absurd ⟨hv.1, hv.2.1, hv.2.2.2.2.1, hv.2.2.2.2.2, by have := hv.2.2.1; omega⟩ hno, fr.sub ⟨rfl, rfl, rfl, rfl, rfl, rfl, rfl, rfl, rfl, trivial⟩, S⟩
)
  repeat refine w_ oSy_ rfl fr fun a fr => ?_
  refine wl_ldf oSy_ (v := .int .u8 r.f) (hmsg S (j' := 1) rfl) fr rfl rfl rfl rfl rfl rfl rfl fun a fr => ?_
  repeat refine w_ oSy_ rfl fr fun a fr => ?_
  refine bs 61 fr rfl (fun p4 fr => ?_) (fun p4 fr => ?_)
  rotate_left
  ·have hno : ¬ (r.s = 2 ∧ r.t = 0 ∧ 1 ≤ r.f ∧ r.f ≤ 3 ∧ r.g < 8) := fun h => by have := of_decide_eq_false p4; omega
   repeat refine w_ oSy_ rfl fr fun a fr => ?_
   first | refine e_ ?_ | refine wpList_nil ?_
   (
  refine q_ rfl ?_
  refine cw_f fr rfl ?_
  refine wp_skip ?_
  exact ⟨rfl, ys, hI.ly, fun _ h => h, fun i k hv hi => absurd ⟨hv.1, hv.2.1, hv.2.2.2.2.1, hv.2.2.2.2.2, by have := hv.2.2.1; omega⟩ hno, fr.sub ⟨rfl, rfl, rfl, rfl, rfl, rfl, rfl, rfl, rfl, trivial⟩, S⟩
)
  repeat refine w_ oSy_ rfl fr fun a fr => ?_
  refine wl_ldf oSy_ (v := .int .u32 r.g) (hmsg S (j' := 3) rfl) fr rfl rfl rfl rfl rfl rfl rfl fun a fr => ?_
  repeat refine w_ oSy_ rfl fr fun a fr => ?_
  first | refine e_ ?_ | refine wpList_nil ?_
  refine bs 66 fr rfl (fun p5 fr => ?_) (fun p5 fr => ?_)
  rotate_left
  ·have hno : ¬ (r.s = 2 ∧ r.t = 0 ∧ 1 ≤ r.f ∧ r.f ≤ 3 ∧ r.g < 8) := fun h => by have := of_decide_eq_false p5; omega
   (
  refine q_ rfl ?_
  refine cw_f fr rfl ?_
  refine wp_skip ?_
  exact ⟨rfl, ys, hI.ly, fun _ h => h, fun i k hv hi => absurd ⟨hv.1, hv.2.1, hv.2.2.2.2.1, hv.2.2.2.2.2, by have := hv.2.2.1; omega⟩ hno, fr.sub ⟨rfl, rfl, rfl, rfl, rfl, rfl, rfl, rfl, rfl, trivial⟩, S⟩
)
  have hf1 := of_decide_eq_true p3
  have hf3 := of_decide_eq_true p4
  have hg8 := of_decide_eq_true p5
  have hlys := hI.ly
  refine q_ rfl ?_
  refine cw_t fr rfl ?_
  have S : Sat w w9 (stA 60 gx (acV r) :: iA bt told :: yA byy ys :: ptA bp prt :: iA bsy says :: chW b bl bm last bk bw now d gs C.m C.x C.D []) := S.turn
  have S := (((S.frontAt 1 rfl).frontAt 1 rfl).frontAt 2 rfl)
  refine wp_region_sl [u_ 0 67, u_ 1 68, u_ 2 69, u_ 3 70, u_ 4 71, u_ 5 72, u_ 6 73, u_ 7 74, .one (8, false, none)]
        [f_ 67 60 10 2,
        f_ 68 42 67 3,
        l_ 69 31 68,
        f_ 70 60 10 2,
        f_ 71 42 70 1,
        l_ 72 5 71,
        i_ 73 56 7 69,
        i_ 74 55 73 72,
        .one ⟨false, none, (.store 4 (.tmp 74) (.const (.bool true))), 0, none⟩]
        (fun v => Sat w v [stA 60 gx (acV r)]) rfl (by kernel_rfl) (by kernel_rfl) ?_ ?_
  ·exact (S.drew.frontAt 1 rfl).firsts [_]
  have S := S.drew
  have hS : Sat w _ [stA 60 gx (acV r)] := (S.frontAt 1 rfl).firsts [_]
  have hld : ∀ w', Sat w w' [stA 60 gx (acV r)] → ∀ {j' : Nat} {v : Value}, (acV r)[2 + j']? = some v → w'.cell? (((⟨gx, 0, none⟩ : Addr).add 2).add j') = some v ∧ vok v = true := fun w' S' => fun hj => by
   rw [add_add]; exact Sat.stAt S' 0 rfl hj
  repeat refine sl_run oSy_ 1 rfl fr fun a fr => ?_
  refine sl_ldf oSy_ (v := .int .u32 r.g) (fun w' S' => hld w' S' (j' := 3) rfl) fr rfl rfl rfl rfl rfl rfl rfl rfl hS fun a fr => ?_
  repeat refine sl_run oSy_ 1 rfl fr fun a fr => ?_
  refine sl_ldf oSy_ (v := .int .u8 r.f) (fun w' S' => hld w' S' (j' := 1) rfl) fr rfl rfl rfl rfl rfl rfl rfl rfl hS fun a fr => ?_
  repeat refine sl_run oSy_ 1 rfl fr fun a fr => ?_
  refine sl_ixa oSy_ fr rfl rfl rfl rfl rfl rfl rfl rfl rfl ⟨by omega, by omega⟩ fun a fr => ?_
  repeat refine sl_run oSy_ 1 rfl fr fun a fr => ?_
  refine sl_ixa oSy_ fr rfl rfl rfl rfl rfl rfl rfl rfl rfl ⟨by omega, by omega⟩ fun a fr => ?_
  refine sl_stfA oSy_ (r.g.toNat * 4 + r.f.toNat) fr rfl rfl rfl rfl rfl (by show ((⟨byy, 0, none⟩ : Addr).add (r.g.toNat * 4)).add (r.f.toNat * 1) = _; rw [add_add, Nat.mul_one]) rfl rfl rfl rfl S (by rw [List.length_map]; omega) ?_
  intro w10 S
  rw [← List.map_set] at S
  have S : Sat w w10 (yA byy (ys.set (r.g.toNat * 4 + r.f.toNat) true) :: stA 60 gx (acV r) :: iA bt told :: ptA bp prt :: iA bsy says :: chW b bl bm last bk bw now d gs C.m C.x C.D []) := S
  refine ⟨(S.frontAt 1 rfl).firsts [_], sl_end ?_⟩
  have S := ((S.frontAt 2 rfl).frontAt 2 rfl)
  have S := Sat.unturn (Z := stA 60 gx (acV r) :: arrs bt byy bp bsy told says (ys.set (r.g.toNat * 4 + r.f.toNat) true) prt) S
  refine ⟨rfl, ys.set (r.g.toNat * 4 + r.f.toNat) true, by rw [List.length_set]; exact hI.ly, fun i h => ?_, fun i k hv hi => ?_, fr.sub ⟨rfl, rfl, rfl, rfl, rfl, rfl, rfl, rfl, rfl, trivial⟩, S⟩
  ·rw [getD_set (by omega)]
   split
   ·rfl
   ·exact h
  ·obtain ⟨-, -, v3, v4, -, -⟩ := hv
   rw [getD_set (by omega), if_pos (by rw [v3, v4]; omega)]
 clear fr S
 rintro a w10 ⟨ys', hly', hmono, hvote, fr, S⟩
 repeat first | with_reducible refine then_n ?_ | with_reducible refine blk_n ?_
 have hrlen : r.rs.length * 24 ≤ 140737488355328 := by
  have := hb.1
  rwa [show (rawL r.rs).length = r.rs.length by simp [rawL]] at this
 have hrows : ∀ y ∈ r.rs, y.2.2.length * 24 ≤ 140737488355328 := fun y hy => hb.2 (y.2.2, ()) (List.mem_map.2 ⟨y, hy, rfl⟩)
 refine r_ rfl ?_
 repeat refine w_ oSy_ rfl fr fun a fr => ?_
 refine wl_ldsub oSy_ (ad := (⟨gx, 0, none⟩ : Addr).add 2) (cs := mgV r.s r.f r.t r.g r.Ao r.ops.length r.co r.Ar r.rs.length r.cr) (fun j' u hu => (hmsg S (j' := j') (by
  rw [show (acV r)[2 + j']? = (mgV r.s r.f r.t r.g r.Ao r.ops.length r.co r.Ar r.rs.length r.cr ++ [.int .u64 r.keep, .int .i64 r.torn])[j']? by rw [Nat.add_comm]; rfl]
  rw [List.getElem?_append_left (List.getElem?_eq_some_iff.1 hu).1]; exact hu)).1) (hw.mg.ok r.Ao r.Ar) fr rfl rfl rfl rfl rfl rfl rfl rfl fun a fr => ?_
 refine wl_call fr rfl rfl rfl rfl enCame (came_call (Ao := r.Ao) (Ar := r.Ar) hw.mg (fun w' S' => (hrd w' S'.below).res) hw.rw hrlen hrows hb hI.gi hbb S) ?_
 rintro _ w11 ⟨A9, c9, gs2, rfl, hv9, hg2, hI2, -, S⟩
 rw [hI.ss] at hv9 hg2 S
 obtain ⟨A', B', st1, st2, st3⟩ := hI.st.came (by omega) r.s r.f r.t r.g (rawL r.rs)
 have hml := cameS_m C r.s r.f r.t r.g (rawL r.rs)
 have hIm := hI.m
 refine ⟨_, by rw [hI.ss], hv9, fun a fr => ?_⟩
 obtain ⟨C2, hC2⟩ : ∃ C2, C2 = cameS C r.s r.f r.t r.g (rawL r.rs) := ⟨_, rfl⟩
 obtain ⟨z, hz⟩ : ∃ z, z = (cameO C r.s r.f r.t r.g (rawL r.rs)).2 := ⟨_, rfl⟩
 obtain ⟨os, hos⟩ : ∃ os, os = (cameO C r.s r.f r.t r.g (rawL r.rs)).1 := ⟨_, rfl⟩
 rw [← hz, ← hos] at fr
 rw [← hC2, ← hos] at S st3
 rw [← hC2] at hg2 st1 st2 hml
 repeat refine w_ oSy_ rfl fr fun a fr => ?_
 first | refine e_ ?_ | refine wpList_nil ?_
 have S := S.behind
 have S : Sat w w11 (chW b bl bm last bk bw now d gs2 C2.m C2.x C2.D (pmA A9 c9 os :: stA 60 gx (acV r) :: arrs bt byy bp bsy told says ys' prt)) := S
 have S := Sat.unturn (Z := pmA A9 c9 os :: arrs bt byy bp bsy told says ys' prt) (S.turn.mask [true, false])
 have hn' := st1.good.num
 have h1 : StayI w gs2 C2 A' B' (j + 1) last told says ys' prt := ⟨by unfold ss0; rw [hg2], hI2, st1, by omega, by rw [st2.len]; exact hI.last, hI.told.step st2 hn hn', hI.says.step st2 hn hn', hI.sy.step st2 hn hn' hmono hvote, hly', hI.lp, hI.pw, hI.pr⟩
 exact ⟨rfl, d, b, bl, bm, bk, bw, last, now, gs2, C2, A', B', told, says, ys', prt, A9, c9, os, h1, hI.sy.outs hn st3, fr.sub ⟨rfl, rfl, rfl, rfl, rfl, rfl, rfl, rfl, rfl, trivial⟩, S⟩
end Go.Proofs.YticnjkdaccacaaaGreat.Sx
namespace Go.Proofs.YticnjkdaccacaaaGreat.Pl
open Go Go.RowKit Base Sx
theorem ChiefsStay_law (A0 : Option Addr) (c0 : Nat) (l0 : List ActT) (W : World) (hc0 : l0.length ≤ c0) (hm0 : c0 ≤ maxLen) (g0 : Rdr.Row actR W A0 l0) {n : Nat} {s1 a1 a2 a3 a4 : Int → Prop} {s2 : List PartT → Prop} {a5 : List OpT → Prop} {s7 : RowT → Prop} {s8 s9 : Unit → Prop} {s10 : Int × Int × Unit → Prop} (z0 : Rdr.smB n (Rdr.smP s1 (Rdr.smP s2 (Rdr.smP (Rdr.smP a1 (Rdr.smP a2 (Rdr.smP a3 (Rdr.smP a4 (Rdr.smP a5 (Rdr.smP (Rdr.smB 24 (Rdr.smP (Rdr.smB 24 s7) s8)) s9)))))) s10))) l0) : Calls Tryz.prog 6 #[.slice A0 l0.length c0] W fun e w' => e = .returned (.bool true) ∧ Below W.heap.size W w' := by
 obtain ⟨ax, hl, hrd, hw, hrl⟩ := acts_of g0
 rw [← hl] at hc0 ⊢
 refine (stay_call (fun w' h => hrd.below h) hw (fun r hr => ?_) ⟨hc0, hm0⟩).mono fun e w' ⟨h1, h2⟩ => ⟨h1, h2.below⟩
 obtain ⟨i, hi, rfl⟩ := List.mem_iff_getElem.1 hr
 have hi' : i < l0.length := by rw [← hl]; exact hi
 rw [hrl i hi hi']
 have h := (z0.2 _ (List.getElem_mem hi')).2.2.1.2.2.2.2.2.1
 exact ⟨Nat.le_trans h.1 (by omega), fun y hy => Nat.le_trans (h.2 y hy).1.1 (by omega)⟩
end Go.Proofs.YticnjkdaccacaaaGreat.Pl
end
section
namespace Go.Proofs.YticnjkdaccacaaaGreat.chiefsStay
open Go.ChangeShapes Go.WideShapes Go.ChangeAt Go.RowKit Base
open Go.ChangeMaps (open_string shut_string)
theorem own : ownKnob Tryz.prog.godebug = none := by kernel_rfl
theorem laidOut : laidOutB Tryz.prog = true := by kernel_rfl
theorem lifted (os : Os) (started : os.Started) (H : Type) (enc : TypeId × Value → H) :
  ReturnsInHanded {} Tryz.checked os 6 .any (Rows.chiefsStaySpec.pre6 enc Tryz.prog Tryz.f6 Rows.chiefsStayRow.domain false) (Rows.chiefsStaySpec.post enc Tryz.prog Tryz.f6 false true false false) := by
 refine returnsInHanded_of_change_sized (C := Tryz.checked) own started (by kernel_rfl) Tryz.func6
  (ChangeSpec.witness6 (enc := enc) (C := Tryz.checked) false ⟨#[], #[.slice none 0 0], []⟩ 8 (by kernel_rfl) (by kernel_rfl) (by kernel_rfl) (by kernel_rfl)) ?_
 intro W base args ds gs before hval0 hW hcnd hsz0 _
 have hsz : (DataW.weightsEach Tryz.prog (Tryz.f6.params.toList ++ Rows.chiefsStaySpec.plain.varTypes Tryz.prog) (ds ++ gs)).all (· ≤ reachBytes) = true := hsz0
 have hval : ∀ (j : Nat) t v, Tryz.f6.params[j]? = some t → args[j]? = some v → Value.okWide Tryz.prog W .any base t v := hval0
 have hW' := hW
 obtain ⟨p, q, hA0, hV, rfl, hfz, hnd⟩ := hW
 have hA : DataW.TrodAll enc Tryz.prog W 0 (fun _ => true) true Tryz.f6.params.toList args.toList ds p := hA0
 rw [Tryz.params6] at hA hval hsz
 obtain ⟨v0, vs0, d0, ds0, p0, q0, hargs, rfl, rfl, h0, r0⟩ := trodAll_cons hA
 obtain ⟨rfl, rfl, rfl⟩ := trodAll_nil r0
 obtain rfl : args = #[v0] := by cases args; simp_all
 obtain ⟨rfl, rfl⟩ := trodVars_none hV
 obtain ⟨a0, len0, cap0, rfl⟩ := okWide_slice Tryz.underlying52 (hval 0 52 v0 rfl rfl)
 have k0 := h0
 have lt0 : ∀ x ∈ p0, x.block < W.heap.size := by obtain ⟨m, hm⟩ := k0; exact DataW.trod_lt m _ _ _ hm
 obtain ⟨l0, rfl, c0, m0, g0, z0⟩ := Rdr.ofS_slice_arg (r := (Rdr.pair (Rdr.int .u8) (Rdr.pair (Rdr.sl (Rdr.pair (Rdr.int .u8) (Rdr.pair (Rdr.sl (Rdr.pair (Rdr.int .u8) (Rdr.pair Rdr.str (Rdr.pair Rdr.str (Rdr.pair (Rdr.int .u32) Rdr.unit))))) Rdr.unit))) (Rdr.pair (Rdr.pair (Rdr.int .u8) (Rdr.pair (Rdr.int .u8) (Rdr.pair (Rdr.int .u8) (Rdr.pair (Rdr.int .u32) (Rdr.pair (Rdr.sl (Rdr.pair (Rdr.int .u8) (Rdr.pair Rdr.str (Rdr.pair Rdr.str (Rdr.pair (Rdr.int .u32) Rdr.unit))))) (Rdr.pair (Rdr.sl (Rdr.pair (Rdr.sl (Rdr.pair Rdr.str (Rdr.pair (Rdr.int .u32) Rdr.unit))) Rdr.unit)) Rdr.unit)))))) (Rdr.pair (Rdr.int .u64) (Rdr.pair (Rdr.int .i64) Rdr.unit)))))) hsz (j := 0) (t := 52) rfl rfl (Rdr.ofB_sl Tryz.underlying52 (by kernel_rfl) (Rdr.ofS_st Tryz.underlying60 (by kernel_rfl) (Rdr.ofFS_cons rfl (Rdr.ofS (Rdr.of_int Tryz.underlying5 (by kernel_rfl))) (Rdr.ofFS_cons rfl (Rdr.ofB_sl Tryz.underlying22 (by kernel_rfl) (Rdr.ofS_st Tryz.underlying39 (by kernel_rfl) (Rdr.ofFS_cons rfl (Rdr.ofS (Rdr.of_int Tryz.underlying5 (by kernel_rfl))) (Rdr.ofFS_cons rfl (Rdr.ofB_sl Tryz.underlying37 (by kernel_rfl) (Rdr.ofS_st Tryz.underlying104 (by kernel_rfl) (Rdr.ofFS_cons rfl (Rdr.ofS (Rdr.of_int Tryz.underlying102 (by kernel_rfl))) (Rdr.ofFS_cons rfl (Rdr.ofS (Rdr.of_str Tryz.underlying9 (by kernel_rfl))) (Rdr.ofFS_cons rfl (Rdr.ofS (Rdr.of_str Tryz.underlying9 (by kernel_rfl))) (Rdr.ofFS_cons rfl (Rdr.ofS (Rdr.of_int Tryz.underlying31 (by kernel_rfl))) (Rdr.ofFS_nil _)))))) (B := 48) (by kernel_rfl) (by decide)) (Rdr.ofFS_nil _)))) (B := 32) (by kernel_rfl) (by decide)) (Rdr.ofFS_cons rfl (Rdr.ofS_st Tryz.underlying42 (by kernel_rfl) (Rdr.ofFS_cons rfl (Rdr.ofS (Rdr.of_int Tryz.underlying36 (by kernel_rfl))) (Rdr.ofFS_cons rfl (Rdr.ofS (Rdr.of_int Tryz.underlying5 (by kernel_rfl))) (Rdr.ofFS_cons rfl (Rdr.ofS (Rdr.of_int Tryz.underlying5 (by kernel_rfl))) (Rdr.ofFS_cons rfl (Rdr.ofS (Rdr.of_int Tryz.underlying31 (by kernel_rfl))) (Rdr.ofFS_cons rfl (Rdr.ofB_sl Tryz.underlying37 (by kernel_rfl) (Rdr.ofS_st Tryz.underlying104 (by kernel_rfl) (Rdr.ofFS_cons rfl (Rdr.ofS (Rdr.of_int Tryz.underlying102 (by kernel_rfl))) (Rdr.ofFS_cons rfl (Rdr.ofS (Rdr.of_str Tryz.underlying9 (by kernel_rfl))) (Rdr.ofFS_cons rfl (Rdr.ofS (Rdr.of_str Tryz.underlying9 (by kernel_rfl))) (Rdr.ofFS_cons rfl (Rdr.ofS (Rdr.of_int Tryz.underlying31 (by kernel_rfl))) (Rdr.ofFS_nil _)))))) (B := 48) (by kernel_rfl) (by decide)) (Rdr.ofFS_cons rfl (Rdr.ofB_sl Tryz.underlying40 (by kernel_rfl) (Rdr.ofS_st Tryz.underlying157 (by kernel_rfl) (Rdr.ofFS_cons rfl (Rdr.ofB_sl Tryz.underlying155 (by kernel_rfl) (Rdr.ofS_st Tryz.underlying160 (by kernel_rfl) (Rdr.ofFS_cons rfl (Rdr.ofS (Rdr.of_str Tryz.underlying9 (by kernel_rfl))) (Rdr.ofFS_cons rfl (Rdr.ofS (Rdr.of_int Tryz.underlying31 (by kernel_rfl))) (Rdr.ofFS_nil _)))) (B := 24) (by kernel_rfl) (by decide)) (Rdr.ofFS_nil _))) (B := 24) (by kernel_rfl) (by decide)) (Rdr.ofFS_nil _)))))))) (Rdr.ofFS_cons rfl (Rdr.ofS (Rdr.of_int Tryz.underlying58 (by kernel_rfl))) (Rdr.ofFS_cons rfl (Rdr.ofS (Rdr.of_int Tryz.underlying3 (by kernel_rfl))) (Rdr.ofFS_nil _))))))) (B := 104) (by kernel_rfl) (by decide)) h0
 clear hA0 hval0 hsz0 hsz
 refine (Pl.ChiefsStay_law a0 cap0 l0 W c0 m0 g0 z0).mono fun e W' ⟨he, bel⟩ => ?_
 subst he
 exact ⟨_, rfl, _, _, _, [], _, [], hW', trodAll_mk1 (shut_bool Tryz.underlying4 _), (trodAll_cons_mk (Below.trod laidOut (by kernel_rfl) (of_decide_eq_true (by kernel_rfl)) k0 bel lt0) trodAll_mk0), rfl, bel.frame _, fun h => by cases h⟩
theorem over : Rows.chiefsStayRow.holds Tryz.pinned (OpenSpec.ofChange Rows.chiefsStaySpec) :=
 OpenClaim.holds_of_wide 6 Tryz.f6 rfl rfl rfl rfl rfl rfl rfl ⟨rfl, rfl, rfl, rfl, rfl⟩ rfl rfl rfl rfl rfl (by kernel_rfl) Tryz.func6 (by kernel_rfl)
  (of_decide_eq_true (by kernel_rfl)) (by unfold Func.isWrapper; first | (rw [if_pos (by decide +kernel)]; kernel_rfl) | (rw [if_neg (by decide +kernel)]; exact ⟨rfl, rfl⟩))
  (fun os started H enc _ => lifted os started H enc)
theorem proved : Rows.ChiefsStaySaid := over
end Go.Proofs.YticnjkdaccacaaaGreat.chiefsStay
namespace Go.Proofs.YticnjkdaccacaaaGreat
theorem chiefsStay_holds : Rows.ChiefsStaySaid := chiefsStay.proved
#print axioms chiefsStay_holds
end Go.Proofs.YticnjkdaccacaaaGreat
end
