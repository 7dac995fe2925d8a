/- slices.Delete of one number, walked. -/
import Derived.Test.YtjdholnlbhkmeaaProg
import Derived.Test.YtjdholnlbhkmeaaSl
import Derived.Test.YtjdholnlbhkmeaaPh
namespace Go.Proofs.Ytjdholnlbhkmeaa.Sx
open Go Go.RowKit Base Own

def orcD : Orc := ⟨[(3, .int .i64), (4, .bool), (23, .int .u32), (22, .slice 23)], [(3, 1), (23, 1)]⟩
theorem orcD_ok : orcD.Ok Try.prog := ⟨⟨Try.underlying3, Try.underlying4, Try.underlying23, Try.underlying22, trivial⟩, ⟨by kernel_rfl, by kernel_rfl, trivial⟩⟩
theorem litD : RowTy Try.prog 22 23 .u32 := ⟨Try.underlying22, 4, by decide, by kernel_rfl⟩
theorem infoD : (Try.prog.info? 23).map (·.size) = some 1 := by kernel_rfl
set_option maxRecDepth 100000 in
set_option maxHeartbeats 1000000 in
theorem delete_walk {w0 w : World} {R : List Asn} {A : Option Addr} {c : Nat} {l : List Int} (i : Nat) (hi : i < l.length) (hb : l.length ≤ 1000000) (S : Sat w0 w (ownA .u32 23 A c l :: R)) :
    Calls Try.prog 28 #[.slice A l.length c, .int .i64 i, .int .i64 ((i + 1 : Nat) : Int)] w fun e w' => e = .returned (.slice A (l.eraseIdx i).length c) ∧ vok (.slice A (l.eraseIdx i).length c) = true ∧ Sat w0 w' (ownA .u32 23 A c (l.eraseIdx i) :: R) := by
  have hown := S.own
  have m0 := hown.2
  refine calls_start (N := 33) [.slice A l.length c, .int .i64 i, .int .i64 ((i + 1 : Nat) : Int)] Try.func28 rfl rfl rfl (vok_c (vok_sl m0) (vok_c (vok_len (by have := m0.2; omega)) (vok_c (vok_len (by have := m0.2; omega)) rfl))) fun a fr => ?_
  skip; (repeat (with_reducible refine wp_seq ?_)); refine wp_region_lit ?_
  refine wl_run orcD_ok 1 rfl fr fun a fr => ?_
  refine wpList_nil ?_; (repeat (with_reducible refine then_n ?_))
  skip; (repeat (with_reducible refine wp_seq ?_)); refine wp_region_lit ?_
  refine wl_run orcD_ok 5 rfl fr fun a fr => ?_
  refine wl_val fr rfl rfl rfl (slice_run orcD_ok fr (vlo := some (.int .i64 i)) (vhi := some (.int .i64 ((i + 1 : Nat) : Int))) (vmx := some (.int .i64 (l.length : Int))) rfl rfl (by exact congrArg some (fr.ev (o := .tmp 9) rfl).1) (by exact congrArg some (fr.ev (o := .tmp 10) rfl).1) (by exact congrArg some (fr.ev (o := .tmp 12) rfl).1) rfl (sl_cut _ 23 .i64 .i64 .i64 Try.underlying22 infoD A l.length c i (i + 1) l.length _ _ _ rfl rfl rfl (by omega) (by omega) m0.1) w) (vok_sl ⟨by omega, by omega⟩) fun a fr => ?_
  refine wpList_nil ?_; (repeat (with_reducible refine then_n ?_))
  skip; (repeat (with_reducible refine wp_seq ?_)); refine wp_region_lit ?_
  refine wl_run orcD_ok 3 rfl fr fun a fr => ?_
  refine wpList_nil ?_; (repeat (with_reducible refine then_n ?_))
  have fr := fr.bool (d := 16) rfl (show ((i : Int) == ((i + 1 : Nat) : Int)) = false by simp; omega)
  skip; (repeat (with_reducible refine wp_seq ?_))
  refine cw_f fr rfl ?_
  refine wp_skip ?_
  (repeat (with_reducible refine then_n ?_))
  skip; (repeat (with_reducible refine wp_seq ?_)); refine wp_region_lit ?_
  refine wl_run orcD_ok 3 rfl fr fun a fr => ?_
  refine wpList_nil ?_; (repeat (with_reducible refine then_n ?_))
  have hlit := litD
  obtain ⟨hl1, hl2⟩ : (l.take i).length = i ∧ (l.drop (i + 1)).length = l.length - (i + 1) := ⟨by rw [List.length_take]; omega, List.length_drop⟩
  have hrk : Rk .u32 w.drew (dropA A c (i + 1)) (l.drop (i + 1)) := ((Sat.ownAt S.drew 0 rfl).drop m0.1)
  have hSt : Sat w0 w.drew (ownA .u32 23 A c (l.take i) :: R) := S.drew.takeTo i
  skip; (repeat (with_reducible refine wp_seq ?_))
  refine wp_region_sl [.one (0, true, some 20), .one (1, true, some 21), .one (2, true, some 22), .one (3, true, some 23), .one (4, true, some 24), .one (5, true, some 25), .one (6, false, some 26), .one (7, true, some 0)]
                [.one ⟨true, some 20, (Go.Op.move (Go.Operand.tmp 0)), 22, none⟩,
                .one ⟨true, some 21, (Go.Op.move (Go.Operand.tmp 1)), 3, none⟩,
                .one ⟨true, some 22, (Go.Op.slice 22 (Go.Operand.tmp 20) none (some (Go.Operand.tmp 21)) none), 22, none⟩,
                .one ⟨true, some 23, (Go.Op.move (Go.Operand.tmp 0)), 22, none⟩,
                .one ⟨true, some 24, (Go.Op.move (Go.Operand.tmp 2)), 3, none⟩,
                .one ⟨true, some 25, (Go.Op.slice 22 (Go.Operand.tmp 23) (some (Go.Operand.tmp 24)) none none), 22, none⟩,
                .one ⟨false, some 26, (Go.Op.call { callee := (Go.Callee.builtin Go.Builtin.append), args := #[(Go.Operand.tmp 22), (Go.Operand.tmp 25)], argTypes := #[22, 22] }), 22, none⟩,
                .one ⟨true, some 0, (Go.Op.assign (Go.Operand.tmp 26)), 22, none⟩]
                (fun _ => True) rfl (by kernel_rfl) (by kernel_rfl) ?_ ?_
  · trivial
  refine sl_run orcD_ok 2 rfl fr fun a fr => ?_
  refine sl_q fr rfl rfl rfl rfl (v := .slice A (l.take i).length c) (fun w _ => slice_run orcD_ok fr (vlo := none) (vhi := some (.int .i64 i)) (vmx := none) rfl rfl rfl (by exact congrArg some (fr.ev (o := .tmp 21) rfl).1) rfl rfl (by rw [hl1]; exact sl_take _ 23 .i64 Try.underlying22 infoD A l.length c i (by omega)) w) (vok_sl ⟨by omega, m0.2⟩) fun a fr => ?_
  refine sl_run orcD_ok 2 rfl fr fun a fr => ?_
  refine sl_q fr rfl rfl rfl rfl (v := .slice (dropA A c (i + 1)) (l.drop (i + 1)).length (c - (i + 1))) (fun w _ => slice_run orcD_ok fr (vlo := some (.int .i64 ((i + 1 : Nat) : Int))) (vhi := none) (vmx := none) rfl rfl (by exact congrArg some (fr.ev (o := .tmp 24) rfl).1) rfl rfl rfl (by rw [hl2]; exact sl_drop _ 23 .i64 Try.underlying22 infoD A l.length c (i + 1) (by omega)) w) (vok_sl ⟨by omega, by omega⟩) fun a fr => ?_
  have he : l.take i ++ l.drop (i + 1) = l.eraseIdx i := (List.eraseIdx_eq_take_drop_succ l i).symm
  have hel : (l.eraseIdx i).length + 1 = l.length := by rw [List.length_eraseIdx_of_lt hi]; omega
  refine sl_appin litD fr rfl rfl rfl rfl rfl rfl rfl rfl rfl hrk (by omega) (by omega) hSt ?_
  intro w2 S
  refine ⟨trivial, fun a fr => ?_⟩
  rw [he] at S fr
  refine sl_run orcD_ok 1 rfl fr fun a fr => ?_
  refine sl_end ?_
  (repeat (with_reducible refine then_n ?_))
  skip; (repeat (with_reducible refine wp_seq ?_)); refine wp_region_lit ?_
  refine wl_run orcD_ok 4 rfl fr fun a fr => ?_
  refine wl_val fr rfl rfl rfl (slice_run orcD_ok fr (vlo := some (.int .i64 ((l.eraseIdx i).length : Int))) (vhi := some (.int .i64 (l.length : Int))) (vmx := none) rfl rfl (by exact congrArg some (fr.ev (o := .tmp 29) rfl).1) (by exact congrArg some (fr.ev (o := .tmp 30) rfl).1) rfl rfl (sl_mid _ 23 .i64 .i64 Try.underlying22 infoD A (l.eraseIdx i).length c (l.eraseIdx i).length l.length _ _ rfl rfl (by omega) m0.1) w2) (vok_sl ⟨by omega, by omega⟩) fun a fr => ?_
  obtain ⟨w3, hc, S⟩ := clear_exec (P := Try.prog) (o := ⟨none, .call { callee := .builtin .clear, args := #[.tmp 31], argTypes := #[22] }, 0, "", #[], none⟩) litD fr rfl rfl (Nat.le_refl _) (by omega) (by omega) S
  refine wl_val0 fr rfl rfl hc ?_
  refine wpList_nil ?_; (repeat (with_reducible refine then_n ?_))
  skip; (repeat (with_reducible refine wp_seq ?_)); refine wp_region_lit ?_
  refine wl_run orcD_ok 2 rfl fr fun a fr => ?_
  refine wpList_nil ?_; (repeat (with_reducible refine then_n ?_))
  refine wp_ret ?_
  refine ret1 fr rfl rfl ?_
  exact ⟨rfl, fr.vok (d := 6) rfl, S⟩
end Go.Proofs.Ytjdholnlbhkmeaa.Sx
