/- Texts of this work, one behind the other. -/
import Derived.Test.YticnjkdaccacaaaGreatDoorVWallsPlay7
section
namespace Go.Proofs.YticnjkdaccacaaaGreatDoor.Sx
open Go Go.RowKit Base _root_.Go.Proofs.YticnjkdaccacaaaGreatDoor.Own OwnV
def orcZ : Orc := ⟨[(3, .int .i64), (4, .bool), (33, .slice 253), (34, .slice 256), (35, .slice 259), (36, .slice 264), (37, .slice 268), (38, .slice 274), (39, .slice 279), (40, .slice 282), (41, .slice 285), (42, .slice 289), (153, .pointer 44), (44, .struct #[Go.Field.mk "n" 3 0 false "" "concordat/concordatlaw01" 0, Go.Field.mk "bytes" 31 1 false "" "concordat/concordatlaw01" 8, Go.Field.mk "ids" 32 2 false "" "concordat/concordatlaw01" 32, Go.Field.mk "ints" 33 3 false "" "concordat/concordatlaw01" 56, Go.Field.mk "texts" 34 4 false "" "concordat/concordatlaw01" 80, Go.Field.mk "rows" 35 5 false "" "concordat/concordatlaw01" 104, Go.Field.mk "ops" 36 6 false "" "concordat/concordatlaw01" 128, Go.Field.mk "spans" 37 7 false "" "concordat/concordatlaw01" 152, Go.Field.mk "changes" 38 8 false "" "concordat/concordatlaw01" 176, Go.Field.mk "results" 39 9 false "" "concordat/concordatlaw01" 200, Go.Field.mk "msgs" 40 10 false "" "concordat/concordatlaw01" 224, Go.Field.mk "parts" 41 11 false "" "concordat/concordatlaw01" 248, Go.Field.mk "deeds" 42 12 false "" "concordat/concordatlaw01" 272])],
  [(3, 1), (4, 1), (33, 1), (34, 1), (35, 1), (36, 1), (37, 1), (38, 1), (39, 1), (40, 1), (41, 1), (42, 1), (153, 1), (44, 13)]⟩
theorem orcZ_ok : orcZ.Ok Tryz.prog := ⟨⟨Tryz.underlying3, Tryz.underlying4, Tryz.underlying33, Tryz.underlying34, Tryz.underlying35, Tryz.underlying36, Tryz.underlying37, Tryz.underlying38, Tryz.underlying39, Tryz.underlying40, Tryz.underlying41, Tryz.underlying42, Tryz.underlying153, Tryz.underlying44, trivial⟩, ⟨by kernel_rfl, by kernel_rfl, by kernel_rfl, by kernel_rfl, by kernel_rfl, by kernel_rfl, by kernel_rfl, by kernel_rfl, by kernel_rfl, by kernel_rfl, by kernel_rfl, by kernel_rfl, by kernel_rfl, by kernel_rfl, trivial⟩⟩
section
variable {w w0 : World} {R L M : List Asn} {b : Nat} {cells : List Value}
set_option maxRecDepth 100000 in
theorem fillInt_call (hj : cells[3]? = some (.slice none 0 0)) (S : Sat w0 w (stA 44 b cells :: R)) : Calls Tryz.prog 86 #[.pointer (some ⟨b, 0, none⟩)] w fun e w' => e = .returned (.tuple #[]) ∧ Sat w0 w' (stA 44 b cells :: R) := by
  refine calls_start (N := 35) [.pointer (some ⟨b, 0, none⟩)] Tryz.func86 rfl rfl rfl (vok_c rfl rfl) fun a fr => ?_
  skip; (repeat (with_reducible refine wp_seq ?_)); refine wp_region_lit ?_
  refine wl_run orcZ_ok 1 rfl fr fun a fr => ?_
  refine wpList_nil ?_; (repeat (with_reducible refine then_n ?_))
  skip; (repeat (with_reducible refine wp_seq ?_))
  refine wp_block ?_
  refine cw_loop (fun q a w1 => q = 1 ∧ Fr 35 a [(0, .pointer (some ⟨b, 0, none⟩)), (2, .int .i64 0)] ∧ Sat w0 w1 (stA 44 b cells :: R)) 1 ⟨rfl, fr.sub ⟨rfl, rfl, trivial⟩, S⟩ ?_ ?_
  · rintro a w1 ⟨h, -⟩
    omega
  clear fr S
  rintro q a w1 ⟨hq, fr, S⟩
  skip; (repeat (with_reducible refine wp_seq ?_)); refine wp_region_lit ?_
  refine wl_run orcZ_ok 4 rfl fr fun a fr => ?_
  refine wl_ldf orcZ_ok (Sat.stAt S 0 rfl hj) fr rfl rfl rfl rfl rfl rfl rfl fun a fr => ?_
  refine wl_run orcZ_ok 2 rfl fr fun a fr => ?_
  refine wpList_nil ?_; (repeat (with_reducible refine then_n ?_))
  skip; (repeat (with_reducible refine wp_seq ?_))
  refine cw_f fr rfl ?_
  refine wp_exit ?_
  skip; (repeat (first | (with_reducible refine then_e ?_) | (with_reducible refine ng_e ?_) | (with_reducible refine blk_e (by decide) ?_))); (with_reducible refine blk_y ?_); (repeat (with_reducible refine then_n ?_))
  refine end_ret ?_
  refine ret0 fr rfl ?_
  exact ⟨rfl, S⟩
set_option maxRecDepth 100000 in
theorem growInt_call (hj : cells[3]? = some (.slice none 0 0)) (S : Sat w0 w (stA 44 b cells :: R)) : Calls Tryz.prog 98 #[.pointer (some ⟨b, 0, none⟩)] w fun e w' => e = .returned (.tuple #[]) ∧ Sat w0 w' (stA 44 b cells :: R) := by
  refine calls_start (N := 42) [.pointer (some ⟨b, 0, none⟩)] Tryz.func98 rfl rfl rfl (vok_c rfl rfl) fun a fr => ?_
  skip; (repeat (with_reducible refine wp_seq ?_)); refine wp_region_lit ?_
  refine wl_run orcZ_ok 1 rfl fr fun a fr => ?_
  refine wpList_nil ?_; (repeat (with_reducible refine then_n ?_))
  skip; (repeat (with_reducible refine wp_seq ?_))
  refine wp_block ?_
  refine cw_loop (fun q a w1 => q = 1 ∧ Fr 42 a [(0, .pointer (some ⟨b, 0, none⟩)), (2, .int .i64 0)] ∧ Sat w0 w1 (stA 44 b cells :: R)) 1 ⟨rfl, fr.sub ⟨rfl, rfl, trivial⟩, S⟩ ?_ ?_
  · rintro a w1 ⟨h, -⟩
    omega
  clear fr S
  rintro q a w1 ⟨hq, fr, S⟩
  skip; (repeat (with_reducible refine wp_seq ?_)); refine wp_region_lit ?_
  refine wl_run orcZ_ok 4 rfl fr fun a fr => ?_
  refine wl_ldf orcZ_ok (Sat.stAt S 0 rfl hj) fr rfl rfl rfl rfl rfl rfl rfl fun a fr => ?_
  refine wl_run orcZ_ok 2 rfl fr fun a fr => ?_
  refine wpList_nil ?_; (repeat (with_reducible refine then_n ?_))
  skip; (repeat (with_reducible refine wp_seq ?_))
  refine cw_f fr rfl ?_
  refine wp_exit ?_
  skip; (repeat (first | (with_reducible refine then_e ?_) | (with_reducible refine ng_e ?_) | (with_reducible refine blk_e (by decide) ?_))); (with_reducible refine blk_y ?_); (repeat (with_reducible refine then_n ?_))
  refine end_ret ?_
  refine ret0 fr rfl ?_
  exact ⟨rfl, S⟩
set_option maxRecDepth 100000 in
theorem lookInt_call (hj : cells[3]? = some (.slice none 0 0)) (S : Sat w0 w (stA 44 b cells :: R)) : Calls Tryz.prog 110 #[.pointer (some ⟨b, 0, none⟩)] w fun e w' => e = .returned (.bool true) ∧ Sat w0 w' (stA 44 b cells :: R) := by
  refine calls_start (N := 64) [.pointer (some ⟨b, 0, none⟩)] Tryz.func110 rfl rfl rfl (vok_c rfl rfl) fun a fr => ?_
  skip; (repeat (with_reducible refine wp_seq ?_)); refine wp_region_lit ?_
  refine wl_run orcZ_ok 1 rfl fr fun a fr => ?_
  refine wpList_nil ?_; (repeat (with_reducible refine then_n ?_))
  skip; (repeat (with_reducible refine wp_seq ?_)); refine wp_region_lit ?_
  refine wl_run orcZ_ok 1 rfl fr fun a fr => ?_
  refine wpList_nil ?_; (repeat (with_reducible refine then_n ?_))
  skip; (repeat (with_reducible refine wp_seq ?_))
  refine wp_block ?_
  refine cw_loop (fun q a w1 => q = 1 ∧ Fr 64 a [(0, .pointer (some ⟨b, 0, none⟩)), (3, .int .i64 0)] ∧ Sat w0 w1 (stA 44 b cells :: R)) 1 ⟨rfl, fr.sub ⟨rfl, rfl, trivial⟩, S⟩ ?_ ?_
  · rintro a w1 ⟨h, -⟩
    omega
  clear fr S
  rintro q a w1 ⟨hq, fr, S⟩
  skip; (repeat (with_reducible refine wp_seq ?_)); refine wp_region_lit ?_
  refine wl_run orcZ_ok 4 rfl fr fun a fr => ?_
  refine wl_ldf orcZ_ok (Sat.stAt S 0 rfl hj) fr rfl rfl rfl rfl rfl rfl rfl fun a fr => ?_
  refine wl_run orcZ_ok 2 rfl fr fun a fr => ?_
  refine wpList_nil ?_; (repeat (with_reducible refine then_n ?_))
  skip; (repeat (with_reducible refine wp_seq ?_))
  refine cw_f fr rfl ?_
  refine wp_exit ?_
  skip; (repeat (first | (with_reducible refine then_e ?_) | (with_reducible refine ng_e ?_) | (with_reducible refine blk_e (by decide) ?_))); (with_reducible refine blk_y ?_); (repeat (with_reducible refine then_n ?_))
  skip; (repeat (with_reducible refine wp_seq ?_)); refine wp_region_lit ?_
  refine wl_run orcZ_ok 1 rfl fr fun a fr => ?_
  refine wpList_nil ?_; (repeat (with_reducible refine then_n ?_))
  refine wp_ret ?_
  skip; (repeat (first | (with_reducible refine then_r ?_) | (with_reducible refine blk_r ?_) | (with_reducible refine ng_r ?_)))
  refine ret1 fr rfl rfl ?_
  exact ⟨rfl, S⟩
set_option maxRecDepth 100000 in
theorem fillText_call (hj : cells[4]? = some (.slice none 0 0)) (S : Sat w0 w (stA 44 b cells :: R)) : Calls Tryz.prog 87 #[.pointer (some ⟨b, 0, none⟩)] w fun e w' => e = .returned (.tuple #[]) ∧ Sat w0 w' (stA 44 b cells :: R) := by
  refine calls_start (N := 35) [.pointer (some ⟨b, 0, none⟩)] Tryz.func87 rfl rfl rfl (vok_c rfl rfl) fun a fr => ?_
  skip; (repeat (with_reducible refine wp_seq ?_)); refine wp_region_lit ?_
  refine wl_run orcZ_ok 1 rfl fr fun a fr => ?_
  refine wpList_nil ?_; (repeat (with_reducible refine then_n ?_))
  skip; (repeat (with_reducible refine wp_seq ?_))
  refine wp_block ?_
  refine cw_loop (fun q a w1 => q = 1 ∧ Fr 35 a [(0, .pointer (some ⟨b, 0, none⟩)), (2, .int .i64 0)] ∧ Sat w0 w1 (stA 44 b cells :: R)) 1 ⟨rfl, fr.sub ⟨rfl, rfl, trivial⟩, S⟩ ?_ ?_
  · rintro a w1 ⟨h, -⟩
    omega
  clear fr S
  rintro q a w1 ⟨hq, fr, S⟩
  skip; (repeat (with_reducible refine wp_seq ?_)); refine wp_region_lit ?_
  refine wl_run orcZ_ok 4 rfl fr fun a fr => ?_
  refine wl_ldf orcZ_ok (Sat.stAt S 0 rfl hj) fr rfl rfl rfl rfl rfl rfl rfl fun a fr => ?_
  refine wl_run orcZ_ok 2 rfl fr fun a fr => ?_
  refine wpList_nil ?_; (repeat (with_reducible refine then_n ?_))
  skip; (repeat (with_reducible refine wp_seq ?_))
  refine cw_f fr rfl ?_
  refine wp_exit ?_
  skip; (repeat (first | (with_reducible refine then_e ?_) | (with_reducible refine ng_e ?_) | (with_reducible refine blk_e (by decide) ?_))); (with_reducible refine blk_y ?_); (repeat (with_reducible refine then_n ?_))
  refine end_ret ?_
  refine ret0 fr rfl ?_
  exact ⟨rfl, S⟩
set_option maxRecDepth 100000 in
theorem growText_call (hj : cells[4]? = some (.slice none 0 0)) (S : Sat w0 w (stA 44 b cells :: R)) : Calls Tryz.prog 99 #[.pointer (some ⟨b, 0, none⟩)] w fun e w' => e = .returned (.tuple #[]) ∧ Sat w0 w' (stA 44 b cells :: R) := by
  refine calls_start (N := 42) [.pointer (some ⟨b, 0, none⟩)] Tryz.func99 rfl rfl rfl (vok_c rfl rfl) fun a fr => ?_
  skip; (repeat (with_reducible refine wp_seq ?_)); refine wp_region_lit ?_
  refine wl_run orcZ_ok 1 rfl fr fun a fr => ?_
  refine wpList_nil ?_; (repeat (with_reducible refine then_n ?_))
  skip; (repeat (with_reducible refine wp_seq ?_))
  refine wp_block ?_
  refine cw_loop (fun q a w1 => q = 1 ∧ Fr 42 a [(0, .pointer (some ⟨b, 0, none⟩)), (2, .int .i64 0)] ∧ Sat w0 w1 (stA 44 b cells :: R)) 1 ⟨rfl, fr.sub ⟨rfl, rfl, trivial⟩, S⟩ ?_ ?_
  · rintro a w1 ⟨h, -⟩
    omega
  clear fr S
  rintro q a w1 ⟨hq, fr, S⟩
  skip; (repeat (with_reducible refine wp_seq ?_)); refine wp_region_lit ?_
  refine wl_run orcZ_ok 4 rfl fr fun a fr => ?_
  refine wl_ldf orcZ_ok (Sat.stAt S 0 rfl hj) fr rfl rfl rfl rfl rfl rfl rfl fun a fr => ?_
  refine wl_run orcZ_ok 2 rfl fr fun a fr => ?_
  refine wpList_nil ?_; (repeat (with_reducible refine then_n ?_))
  skip; (repeat (with_reducible refine wp_seq ?_))
  refine cw_f fr rfl ?_
  refine wp_exit ?_
  skip; (repeat (first | (with_reducible refine then_e ?_) | (with_reducible refine ng_e ?_) | (with_reducible refine blk_e (by decide) ?_))); (with_reducible refine blk_y ?_); (repeat (with_reducible refine then_n ?_))
  refine end_ret ?_
  refine ret0 fr rfl ?_
  exact ⟨rfl, S⟩
set_option maxRecDepth 100000 in
theorem lookText_call (hj : cells[4]? = some (.slice none 0 0)) (S : Sat w0 w (stA 44 b cells :: R)) : Calls Tryz.prog 111 #[.pointer (some ⟨b, 0, none⟩)] w fun e w' => e = .returned (.bool true) ∧ Sat w0 w' (stA 44 b cells :: R) := by
  refine calls_start (N := 64) [.pointer (some ⟨b, 0, none⟩)] Tryz.func111 rfl rfl rfl (vok_c rfl rfl) fun a fr => ?_
  skip; (repeat (with_reducible refine wp_seq ?_)); refine wp_region_lit ?_
  refine wl_run orcZ_ok 1 rfl fr fun a fr => ?_
  refine wpList_nil ?_; (repeat (with_reducible refine then_n ?_))
  skip; (repeat (with_reducible refine wp_seq ?_)); refine wp_region_lit ?_
  refine wl_run orcZ_ok 1 rfl fr fun a fr => ?_
  refine wpList_nil ?_; (repeat (with_reducible refine then_n ?_))
  skip; (repeat (with_reducible refine wp_seq ?_))
  refine wp_block ?_
  refine cw_loop (fun q a w1 => q = 1 ∧ Fr 64 a [(0, .pointer (some ⟨b, 0, none⟩)), (3, .int .i64 0)] ∧ Sat w0 w1 (stA 44 b cells :: R)) 1 ⟨rfl, fr.sub ⟨rfl, rfl, trivial⟩, S⟩ ?_ ?_
  · rintro a w1 ⟨h, -⟩
    omega
  clear fr S
  rintro q a w1 ⟨hq, fr, S⟩
  skip; (repeat (with_reducible refine wp_seq ?_)); refine wp_region_lit ?_
  refine wl_run orcZ_ok 4 rfl fr fun a fr => ?_
  refine wl_ldf orcZ_ok (Sat.stAt S 0 rfl hj) fr rfl rfl rfl rfl rfl rfl rfl fun a fr => ?_
  refine wl_run orcZ_ok 2 rfl fr fun a fr => ?_
  refine wpList_nil ?_; (repeat (with_reducible refine then_n ?_))
  skip; (repeat (with_reducible refine wp_seq ?_))
  refine cw_f fr rfl ?_
  refine wp_exit ?_
  skip; (repeat (first | (with_reducible refine then_e ?_) | (with_reducible refine ng_e ?_) | (with_reducible refine blk_e (by decide) ?_))); (with_reducible refine blk_y ?_); (repeat (with_reducible refine then_n ?_))
  skip; (repeat (with_reducible refine wp_seq ?_)); refine wp_region_lit ?_
  refine wl_run orcZ_ok 1 rfl fr fun a fr => ?_
  refine wpList_nil ?_; (repeat (with_reducible refine then_n ?_))
  refine wp_ret ?_
  skip; (repeat (first | (with_reducible refine then_r ?_) | (with_reducible refine blk_r ?_) | (with_reducible refine ng_r ?_)))
  refine ret1 fr rfl rfl ?_
  exact ⟨rfl, S⟩
set_option maxRecDepth 100000 in
theorem fillRow_call (hj : cells[5]? = some (.slice none 0 0)) (S : Sat w0 w (stA 44 b cells :: R)) : Calls Tryz.prog 88 #[.pointer (some ⟨b, 0, none⟩)] w fun e w' => e = .returned (.tuple #[]) ∧ Sat w0 w' (stA 44 b cells :: R) := by
  refine calls_start (N := 35) [.pointer (some ⟨b, 0, none⟩)] Tryz.func88 rfl rfl rfl (vok_c rfl rfl) fun a fr => ?_
  skip; (repeat (with_reducible refine wp_seq ?_)); refine wp_region_lit ?_
  refine wl_run orcZ_ok 1 rfl fr fun a fr => ?_
  refine wpList_nil ?_; (repeat (with_reducible refine then_n ?_))
  skip; (repeat (with_reducible refine wp_seq ?_))
  refine wp_block ?_
  refine cw_loop (fun q a w1 => q = 1 ∧ Fr 35 a [(0, .pointer (some ⟨b, 0, none⟩)), (2, .int .i64 0)] ∧ Sat w0 w1 (stA 44 b cells :: R)) 1 ⟨rfl, fr.sub ⟨rfl, rfl, trivial⟩, S⟩ ?_ ?_
  · rintro a w1 ⟨h, -⟩
    omega
  clear fr S
  rintro q a w1 ⟨hq, fr, S⟩
  skip; (repeat (with_reducible refine wp_seq ?_)); refine wp_region_lit ?_
  refine wl_run orcZ_ok 4 rfl fr fun a fr => ?_
  refine wl_ldf orcZ_ok (Sat.stAt S 0 rfl hj) fr rfl rfl rfl rfl rfl rfl rfl fun a fr => ?_
  refine wl_run orcZ_ok 2 rfl fr fun a fr => ?_
  refine wpList_nil ?_; (repeat (with_reducible refine then_n ?_))
  skip; (repeat (with_reducible refine wp_seq ?_))
  refine cw_f fr rfl ?_
  refine wp_exit ?_
  skip; (repeat (first | (with_reducible refine then_e ?_) | (with_reducible refine ng_e ?_) | (with_reducible refine blk_e (by decide) ?_))); (with_reducible refine blk_y ?_); (repeat (with_reducible refine then_n ?_))
  refine end_ret ?_
  refine ret0 fr rfl ?_
  exact ⟨rfl, S⟩
set_option maxRecDepth 100000 in
theorem growRow_call (hj : cells[5]? = some (.slice none 0 0)) (S : Sat w0 w (stA 44 b cells :: R)) : Calls Tryz.prog 100 #[.pointer (some ⟨b, 0, none⟩)] w fun e w' => e = .returned (.tuple #[]) ∧ Sat w0 w' (stA 44 b cells :: R) := by
  refine calls_start (N := 42) [.pointer (some ⟨b, 0, none⟩)] Tryz.func100 rfl rfl rfl (vok_c rfl rfl) fun a fr => ?_
  skip; (repeat (with_reducible refine wp_seq ?_)); refine wp_region_lit ?_
  refine wl_run orcZ_ok 1 rfl fr fun a fr => ?_
  refine wpList_nil ?_; (repeat (with_reducible refine then_n ?_))
  skip; (repeat (with_reducible refine wp_seq ?_))
  refine wp_block ?_
  refine cw_loop (fun q a w1 => q = 1 ∧ Fr 42 a [(0, .pointer (some ⟨b, 0, none⟩)), (2, .int .i64 0)] ∧ Sat w0 w1 (stA 44 b cells :: R)) 1 ⟨rfl, fr.sub ⟨rfl, rfl, trivial⟩, S⟩ ?_ ?_
  · rintro a w1 ⟨h, -⟩
    omega
  clear fr S
  rintro q a w1 ⟨hq, fr, S⟩
  skip; (repeat (with_reducible refine wp_seq ?_)); refine wp_region_lit ?_
  refine wl_run orcZ_ok 4 rfl fr fun a fr => ?_
  refine wl_ldf orcZ_ok (Sat.stAt S 0 rfl hj) fr rfl rfl rfl rfl rfl rfl rfl fun a fr => ?_
  refine wl_run orcZ_ok 2 rfl fr fun a fr => ?_
  refine wpList_nil ?_; (repeat (with_reducible refine then_n ?_))
  skip; (repeat (with_reducible refine wp_seq ?_))
  refine cw_f fr rfl ?_
  refine wp_exit ?_
  skip; (repeat (first | (with_reducible refine then_e ?_) | (with_reducible refine ng_e ?_) | (with_reducible refine blk_e (by decide) ?_))); (with_reducible refine blk_y ?_); (repeat (with_reducible refine then_n ?_))
  refine end_ret ?_
  refine ret0 fr rfl ?_
  exact ⟨rfl, S⟩
set_option maxRecDepth 100000 in
theorem lookRow_call (hj : cells[5]? = some (.slice none 0 0)) (S : Sat w0 w (stA 44 b cells :: R)) : Calls Tryz.prog 112 #[.pointer (some ⟨b, 0, none⟩)] w fun e w' => e = .returned (.bool true) ∧ Sat w0 w' (stA 44 b cells :: R) := by
  refine calls_start (N := 64) [.pointer (some ⟨b, 0, none⟩)] Tryz.func112 rfl rfl rfl (vok_c rfl rfl) fun a fr => ?_
  skip; (repeat (with_reducible refine wp_seq ?_)); refine wp_region_lit ?_
  refine wl_run orcZ_ok 1 rfl fr fun a fr => ?_
  refine wpList_nil ?_; (repeat (with_reducible refine then_n ?_))
  skip; (repeat (with_reducible refine wp_seq ?_)); refine wp_region_lit ?_
  refine wl_run orcZ_ok 1 rfl fr fun a fr => ?_
  refine wpList_nil ?_; (repeat (with_reducible refine then_n ?_))
  skip; (repeat (with_reducible refine wp_seq ?_))
  refine wp_block ?_
  refine cw_loop (fun q a w1 => q = 1 ∧ Fr 64 a [(0, .pointer (some ⟨b, 0, none⟩)), (3, .int .i64 0)] ∧ Sat w0 w1 (stA 44 b cells :: R)) 1 ⟨rfl, fr.sub ⟨rfl, rfl, trivial⟩, S⟩ ?_ ?_
  · rintro a w1 ⟨h, -⟩
    omega
  clear fr S
  rintro q a w1 ⟨hq, fr, S⟩
  skip; (repeat (with_reducible refine wp_seq ?_)); refine wp_region_lit ?_
  refine wl_run orcZ_ok 4 rfl fr fun a fr => ?_
  refine wl_ldf orcZ_ok (Sat.stAt S 0 rfl hj) fr rfl rfl rfl rfl rfl rfl rfl fun a fr => ?_
  refine wl_run orcZ_ok 2 rfl fr fun a fr => ?_
  refine wpList_nil ?_; (repeat (with_reducible refine then_n ?_))
  skip; (repeat (with_reducible refine wp_seq ?_))
  refine cw_f fr rfl ?_
  refine wp_exit ?_
  skip; (repeat (first | (with_reducible refine then_e ?_) | (with_reducible refine ng_e ?_) | (with_reducible refine blk_e (by decide) ?_))); (with_reducible refine blk_y ?_); (repeat (with_reducible refine then_n ?_))
  skip; (repeat (with_reducible refine wp_seq ?_)); refine wp_region_lit ?_
  refine wl_run orcZ_ok 1 rfl fr fun a fr => ?_
  refine wpList_nil ?_; (repeat (with_reducible refine then_n ?_))
  refine wp_ret ?_
  skip; (repeat (first | (with_reducible refine then_r ?_) | (with_reducible refine blk_r ?_) | (with_reducible refine ng_r ?_)))
  refine ret1 fr rfl rfl ?_
  exact ⟨rfl, S⟩
set_option maxRecDepth 100000 in
theorem fillOp_call (hj : cells[6]? = some (.slice none 0 0)) (S : Sat w0 w (stA 44 b cells :: R)) : Calls Tryz.prog 89 #[.pointer (some ⟨b, 0, none⟩)] w fun e w' => e = .returned (.tuple #[]) ∧ Sat w0 w' (stA 44 b cells :: R) := by
  refine calls_start (N := 35) [.pointer (some ⟨b, 0, none⟩)] Tryz.func89 rfl rfl rfl (vok_c rfl rfl) fun a fr => ?_
  skip; (repeat (with_reducible refine wp_seq ?_)); refine wp_region_lit ?_
  refine wl_run orcZ_ok 1 rfl fr fun a fr => ?_
  refine wpList_nil ?_; (repeat (with_reducible refine then_n ?_))
  skip; (repeat (with_reducible refine wp_seq ?_))
  refine wp_block ?_
  refine cw_loop (fun q a w1 => q = 1 ∧ Fr 35 a [(0, .pointer (some ⟨b, 0, none⟩)), (2, .int .i64 0)] ∧ Sat w0 w1 (stA 44 b cells :: R)) 1 ⟨rfl, fr.sub ⟨rfl, rfl, trivial⟩, S⟩ ?_ ?_
  · rintro a w1 ⟨h, -⟩
    omega
  clear fr S
  rintro q a w1 ⟨hq, fr, S⟩
  skip; (repeat (with_reducible refine wp_seq ?_)); refine wp_region_lit ?_
  refine wl_run orcZ_ok 4 rfl fr fun a fr => ?_
  refine wl_ldf orcZ_ok (Sat.stAt S 0 rfl hj) fr rfl rfl rfl rfl rfl rfl rfl fun a fr => ?_
  refine wl_run orcZ_ok 2 rfl fr fun a fr => ?_
  refine wpList_nil ?_; (repeat (with_reducible refine then_n ?_))
  skip; (repeat (with_reducible refine wp_seq ?_))
  refine cw_f fr rfl ?_
  refine wp_exit ?_
  skip; (repeat (first | (with_reducible refine then_e ?_) | (with_reducible refine ng_e ?_) | (with_reducible refine blk_e (by decide) ?_))); (with_reducible refine blk_y ?_); (repeat (with_reducible refine then_n ?_))
  refine end_ret ?_
  refine ret0 fr rfl ?_
  exact ⟨rfl, S⟩
set_option maxRecDepth 100000 in
theorem growOp_call (hj : cells[6]? = some (.slice none 0 0)) (S : Sat w0 w (stA 44 b cells :: R)) : Calls Tryz.prog 101 #[.pointer (some ⟨b, 0, none⟩)] w fun e w' => e = .returned (.tuple #[]) ∧ Sat w0 w' (stA 44 b cells :: R) := by
  refine calls_start (N := 42) [.pointer (some ⟨b, 0, none⟩)] Tryz.func101 rfl rfl rfl (vok_c rfl rfl) fun a fr => ?_
  skip; (repeat (with_reducible refine wp_seq ?_)); refine wp_region_lit ?_
  refine wl_run orcZ_ok 1 rfl fr fun a fr => ?_
  refine wpList_nil ?_; (repeat (with_reducible refine then_n ?_))
  skip; (repeat (with_reducible refine wp_seq ?_))
  refine wp_block ?_
  refine cw_loop (fun q a w1 => q = 1 ∧ Fr 42 a [(0, .pointer (some ⟨b, 0, none⟩)), (2, .int .i64 0)] ∧ Sat w0 w1 (stA 44 b cells :: R)) 1 ⟨rfl, fr.sub ⟨rfl, rfl, trivial⟩, S⟩ ?_ ?_
  · rintro a w1 ⟨h, -⟩
    omega
  clear fr S
  rintro q a w1 ⟨hq, fr, S⟩
  skip; (repeat (with_reducible refine wp_seq ?_)); refine wp_region_lit ?_
  refine wl_run orcZ_ok 4 rfl fr fun a fr => ?_
  refine wl_ldf orcZ_ok (Sat.stAt S 0 rfl hj) fr rfl rfl rfl rfl rfl rfl rfl fun a fr => ?_
  refine wl_run orcZ_ok 2 rfl fr fun a fr => ?_
  refine wpList_nil ?_; (repeat (with_reducible refine then_n ?_))
  skip; (repeat (with_reducible refine wp_seq ?_))
  refine cw_f fr rfl ?_
  refine wp_exit ?_
  skip; (repeat (first | (with_reducible refine then_e ?_) | (with_reducible refine ng_e ?_) | (with_reducible refine blk_e (by decide) ?_))); (with_reducible refine blk_y ?_); (repeat (with_reducible refine then_n ?_))
  refine end_ret ?_
  refine ret0 fr rfl ?_
  exact ⟨rfl, S⟩
set_option maxRecDepth 100000 in
theorem lookOp_call (hj : cells[6]? = some (.slice none 0 0)) (S : Sat w0 w (stA 44 b cells :: R)) : Calls Tryz.prog 113 #[.pointer (some ⟨b, 0, none⟩)] w fun e w' => e = .returned (.bool true) ∧ Sat w0 w' (stA 44 b cells :: R) := by
  refine calls_start (N := 64) [.pointer (some ⟨b, 0, none⟩)] Tryz.func113 rfl rfl rfl (vok_c rfl rfl) fun a fr => ?_
  skip; (repeat (with_reducible refine wp_seq ?_)); refine wp_region_lit ?_
  refine wl_run orcZ_ok 1 rfl fr fun a fr => ?_
  refine wpList_nil ?_; (repeat (with_reducible refine then_n ?_))
  skip; (repeat (with_reducible refine wp_seq ?_)); refine wp_region_lit ?_
  refine wl_run orcZ_ok 1 rfl fr fun a fr => ?_
  refine wpList_nil ?_; (repeat (with_reducible refine then_n ?_))
  skip; (repeat (with_reducible refine wp_seq ?_))
  refine wp_block ?_
  refine cw_loop (fun q a w1 => q = 1 ∧ Fr 64 a [(0, .pointer (some ⟨b, 0, none⟩)), (3, .int .i64 0)] ∧ Sat w0 w1 (stA 44 b cells :: R)) 1 ⟨rfl, fr.sub ⟨rfl, rfl, trivial⟩, S⟩ ?_ ?_
  · rintro a w1 ⟨h, -⟩
    omega
  clear fr S
  rintro q a w1 ⟨hq, fr, S⟩
  skip; (repeat (with_reducible refine wp_seq ?_)); refine wp_region_lit ?_
  refine wl_run orcZ_ok 4 rfl fr fun a fr => ?_
  refine wl_ldf orcZ_ok (Sat.stAt S 0 rfl hj) fr rfl rfl rfl rfl rfl rfl rfl fun a fr => ?_
  refine wl_run orcZ_ok 2 rfl fr fun a fr => ?_
  refine wpList_nil ?_; (repeat (with_reducible refine then_n ?_))
  skip; (repeat (with_reducible refine wp_seq ?_))
  refine cw_f fr rfl ?_
  refine wp_exit ?_
  skip; (repeat (first | (with_reducible refine then_e ?_) | (with_reducible refine ng_e ?_) | (with_reducible refine blk_e (by decide) ?_))); (with_reducible refine blk_y ?_); (repeat (with_reducible refine then_n ?_))
  skip; (repeat (with_reducible refine wp_seq ?_)); refine wp_region_lit ?_
  refine wl_run orcZ_ok 1 rfl fr fun a fr => ?_
  refine wpList_nil ?_; (repeat (with_reducible refine then_n ?_))
  refine wp_ret ?_
  skip; (repeat (first | (with_reducible refine then_r ?_) | (with_reducible refine blk_r ?_) | (with_reducible refine ng_r ?_)))
  refine ret1 fr rfl rfl ?_
  exact ⟨rfl, S⟩
set_option maxRecDepth 100000 in
theorem fillSpan_call (hj : cells[7]? = some (.slice none 0 0)) (S : Sat w0 w (stA 44 b cells :: R)) : Calls Tryz.prog 90 #[.pointer (some ⟨b, 0, none⟩)] w fun e w' => e = .returned (.tuple #[]) ∧ Sat w0 w' (stA 44 b cells :: R) := by
  refine calls_start (N := 35) [.pointer (some ⟨b, 0, none⟩)] Tryz.func90 rfl rfl rfl (vok_c rfl rfl) fun a fr => ?_
  skip; (repeat (with_reducible refine wp_seq ?_)); refine wp_region_lit ?_
  refine wl_run orcZ_ok 1 rfl fr fun a fr => ?_
  refine wpList_nil ?_; (repeat (with_reducible refine then_n ?_))
  skip; (repeat (with_reducible refine wp_seq ?_))
  refine wp_block ?_
  refine cw_loop (fun q a w1 => q = 1 ∧ Fr 35 a [(0, .pointer (some ⟨b, 0, none⟩)), (2, .int .i64 0)] ∧ Sat w0 w1 (stA 44 b cells :: R)) 1 ⟨rfl, fr.sub ⟨rfl, rfl, trivial⟩, S⟩ ?_ ?_
  · rintro a w1 ⟨h, -⟩
    omega
  clear fr S
  rintro q a w1 ⟨hq, fr, S⟩
  skip; (repeat (with_reducible refine wp_seq ?_)); refine wp_region_lit ?_
  refine wl_run orcZ_ok 4 rfl fr fun a fr => ?_
  refine wl_ldf orcZ_ok (Sat.stAt S 0 rfl hj) fr rfl rfl rfl rfl rfl rfl rfl fun a fr => ?_
  refine wl_run orcZ_ok 2 rfl fr fun a fr => ?_
  refine wpList_nil ?_; (repeat (with_reducible refine then_n ?_))
  skip; (repeat (with_reducible refine wp_seq ?_))
  refine cw_f fr rfl ?_
  refine wp_exit ?_
  skip; (repeat (first | (with_reducible refine then_e ?_) | (with_reducible refine ng_e ?_) | (with_reducible refine blk_e (by decide) ?_))); (with_reducible refine blk_y ?_); (repeat (with_reducible refine then_n ?_))
  refine end_ret ?_
  refine ret0 fr rfl ?_
  exact ⟨rfl, S⟩
set_option maxRecDepth 100000 in
theorem growSpan_call (hj : cells[7]? = some (.slice none 0 0)) (S : Sat w0 w (stA 44 b cells :: R)) : Calls Tryz.prog 102 #[.pointer (some ⟨b, 0, none⟩)] w fun e w' => e = .returned (.tuple #[]) ∧ Sat w0 w' (stA 44 b cells :: R) := by
  refine calls_start (N := 42) [.pointer (some ⟨b, 0, none⟩)] Tryz.func102 rfl rfl rfl (vok_c rfl rfl) fun a fr => ?_
  skip; (repeat (with_reducible refine wp_seq ?_)); refine wp_region_lit ?_
  refine wl_run orcZ_ok 1 rfl fr fun a fr => ?_
  refine wpList_nil ?_; (repeat (with_reducible refine then_n ?_))
  skip; (repeat (with_reducible refine wp_seq ?_))
  refine wp_block ?_
  refine cw_loop (fun q a w1 => q = 1 ∧ Fr 42 a [(0, .pointer (some ⟨b, 0, none⟩)), (2, .int .i64 0)] ∧ Sat w0 w1 (stA 44 b cells :: R)) 1 ⟨rfl, fr.sub ⟨rfl, rfl, trivial⟩, S⟩ ?_ ?_
  · rintro a w1 ⟨h, -⟩
    omega
  clear fr S
  rintro q a w1 ⟨hq, fr, S⟩
  skip; (repeat (with_reducible refine wp_seq ?_)); refine wp_region_lit ?_
  refine wl_run orcZ_ok 4 rfl fr fun a fr => ?_
  refine wl_ldf orcZ_ok (Sat.stAt S 0 rfl hj) fr rfl rfl rfl rfl rfl rfl rfl fun a fr => ?_
  refine wl_run orcZ_ok 2 rfl fr fun a fr => ?_
  refine wpList_nil ?_; (repeat (with_reducible refine then_n ?_))
  skip; (repeat (with_reducible refine wp_seq ?_))
  refine cw_f fr rfl ?_
  refine wp_exit ?_
  skip; (repeat (first | (with_reducible refine then_e ?_) | (with_reducible refine ng_e ?_) | (with_reducible refine blk_e (by decide) ?_))); (with_reducible refine blk_y ?_); (repeat (with_reducible refine then_n ?_))
  refine end_ret ?_
  refine ret0 fr rfl ?_
  exact ⟨rfl, S⟩
set_option maxRecDepth 100000 in
theorem lookSpan_call (hj : cells[7]? = some (.slice none 0 0)) (S : Sat w0 w (stA 44 b cells :: R)) : Calls Tryz.prog 114 #[.pointer (some ⟨b, 0, none⟩)] w fun e w' => e = .returned (.bool true) ∧ Sat w0 w' (stA 44 b cells :: R) := by
  refine calls_start (N := 64) [.pointer (some ⟨b, 0, none⟩)] Tryz.func114 rfl rfl rfl (vok_c rfl rfl) fun a fr => ?_
  skip; (repeat (with_reducible refine wp_seq ?_)); refine wp_region_lit ?_
  refine wl_run orcZ_ok 1 rfl fr fun a fr => ?_
  refine wpList_nil ?_; (repeat (with_reducible refine then_n ?_))
  skip; (repeat (with_reducible refine wp_seq ?_)); refine wp_region_lit ?_
  refine wl_run orcZ_ok 1 rfl fr fun a fr => ?_
  refine wpList_nil ?_; (repeat (with_reducible refine then_n ?_))
  skip; (repeat (with_reducible refine wp_seq ?_))
  refine wp_block ?_
  refine cw_loop (fun q a w1 => q = 1 ∧ Fr 64 a [(0, .pointer (some ⟨b, 0, none⟩)), (3, .int .i64 0)] ∧ Sat w0 w1 (stA 44 b cells :: R)) 1 ⟨rfl, fr.sub ⟨rfl, rfl, trivial⟩, S⟩ ?_ ?_
  · rintro a w1 ⟨h, -⟩
    omega
  clear fr S
  rintro q a w1 ⟨hq, fr, S⟩
  skip; (repeat (with_reducible refine wp_seq ?_)); refine wp_region_lit ?_
  refine wl_run orcZ_ok 4 rfl fr fun a fr => ?_
  refine wl_ldf orcZ_ok (Sat.stAt S 0 rfl hj) fr rfl rfl rfl rfl rfl rfl rfl fun a fr => ?_
  refine wl_run orcZ_ok 2 rfl fr fun a fr => ?_
  refine wpList_nil ?_; (repeat (with_reducible refine then_n ?_))
  skip; (repeat (with_reducible refine wp_seq ?_))
  refine cw_f fr rfl ?_
  refine wp_exit ?_
  skip; (repeat (first | (with_reducible refine then_e ?_) | (with_reducible refine ng_e ?_) | (with_reducible refine blk_e (by decide) ?_))); (with_reducible refine blk_y ?_); (repeat (with_reducible refine then_n ?_))
  skip; (repeat (with_reducible refine wp_seq ?_)); refine wp_region_lit ?_
  refine wl_run orcZ_ok 1 rfl fr fun a fr => ?_
  refine wpList_nil ?_; (repeat (with_reducible refine then_n ?_))
  refine wp_ret ?_
  skip; (repeat (first | (with_reducible refine then_r ?_) | (with_reducible refine blk_r ?_) | (with_reducible refine ng_r ?_)))
  refine ret1 fr rfl rfl ?_
  exact ⟨rfl, S⟩
set_option maxRecDepth 100000 in
theorem fillChange_call (hj : cells[8]? = some (.slice none 0 0)) (S : Sat w0 w (stA 44 b cells :: R)) : Calls Tryz.prog 91 #[.pointer (some ⟨b, 0, none⟩)] w fun e w' => e = .returned (.tuple #[]) ∧ Sat w0 w' (stA 44 b cells :: R) := by
  refine calls_start (N := 35) [.pointer (some ⟨b, 0, none⟩)] Tryz.func91 rfl rfl rfl (vok_c rfl rfl) fun a fr => ?_
  skip; (repeat (with_reducible refine wp_seq ?_)); refine wp_region_lit ?_
  refine wl_run orcZ_ok 1 rfl fr fun a fr => ?_
  refine wpList_nil ?_; (repeat (with_reducible refine then_n ?_))
  skip; (repeat (with_reducible refine wp_seq ?_))
  refine wp_block ?_
  refine cw_loop (fun q a w1 => q = 1 ∧ Fr 35 a [(0, .pointer (some ⟨b, 0, none⟩)), (2, .int .i64 0)] ∧ Sat w0 w1 (stA 44 b cells :: R)) 1 ⟨rfl, fr.sub ⟨rfl, rfl, trivial⟩, S⟩ ?_ ?_
  · rintro a w1 ⟨h, -⟩
    omega
  clear fr S
  rintro q a w1 ⟨hq, fr, S⟩
  skip; (repeat (with_reducible refine wp_seq ?_)); refine wp_region_lit ?_
  refine wl_run orcZ_ok 4 rfl fr fun a fr => ?_
  refine wl_ldf orcZ_ok (Sat.stAt S 0 rfl hj) fr rfl rfl rfl rfl rfl rfl rfl fun a fr => ?_
  refine wl_run orcZ_ok 2 rfl fr fun a fr => ?_
  refine wpList_nil ?_; (repeat (with_reducible refine then_n ?_))
  skip; (repeat (with_reducible refine wp_seq ?_))
  refine cw_f fr rfl ?_
  refine wp_exit ?_
  skip; (repeat (first | (with_reducible refine then_e ?_) | (with_reducible refine ng_e ?_) | (with_reducible refine blk_e (by decide) ?_))); (with_reducible refine blk_y ?_); (repeat (with_reducible refine then_n ?_))
  refine end_ret ?_
  refine ret0 fr rfl ?_
  exact ⟨rfl, S⟩
set_option maxRecDepth 100000 in
theorem growChange_call (hj : cells[8]? = some (.slice none 0 0)) (S : Sat w0 w (stA 44 b cells :: R)) : Calls Tryz.prog 103 #[.pointer (some ⟨b, 0, none⟩)] w fun e w' => e = .returned (.tuple #[]) ∧ Sat w0 w' (stA 44 b cells :: R) := by
  refine calls_start (N := 42) [.pointer (some ⟨b, 0, none⟩)] Tryz.func103 rfl rfl rfl (vok_c rfl rfl) fun a fr => ?_
  skip; (repeat (with_reducible refine wp_seq ?_)); refine wp_region_lit ?_
  refine wl_run orcZ_ok 1 rfl fr fun a fr => ?_
  refine wpList_nil ?_; (repeat (with_reducible refine then_n ?_))
  skip; (repeat (with_reducible refine wp_seq ?_))
  refine wp_block ?_
  refine cw_loop (fun q a w1 => q = 1 ∧ Fr 42 a [(0, .pointer (some ⟨b, 0, none⟩)), (2, .int .i64 0)] ∧ Sat w0 w1 (stA 44 b cells :: R)) 1 ⟨rfl, fr.sub ⟨rfl, rfl, trivial⟩, S⟩ ?_ ?_
  · rintro a w1 ⟨h, -⟩
    omega
  clear fr S
  rintro q a w1 ⟨hq, fr, S⟩
  skip; (repeat (with_reducible refine wp_seq ?_)); refine wp_region_lit ?_
  refine wl_run orcZ_ok 4 rfl fr fun a fr => ?_
  refine wl_ldf orcZ_ok (Sat.stAt S 0 rfl hj) fr rfl rfl rfl rfl rfl rfl rfl fun a fr => ?_
  refine wl_run orcZ_ok 2 rfl fr fun a fr => ?_
  refine wpList_nil ?_; (repeat (with_reducible refine then_n ?_))
  skip; (repeat (with_reducible refine wp_seq ?_))
  refine cw_f fr rfl ?_
  refine wp_exit ?_
  skip; (repeat (first | (with_reducible refine then_e ?_) | (with_reducible refine ng_e ?_) | (with_reducible refine blk_e (by decide) ?_))); (with_reducible refine blk_y ?_); (repeat (with_reducible refine then_n ?_))
  refine end_ret ?_
  refine ret0 fr rfl ?_
  exact ⟨rfl, S⟩
set_option maxRecDepth 100000 in
theorem lookChange_call (hj : cells[8]? = some (.slice none 0 0)) (S : Sat w0 w (stA 44 b cells :: R)) : Calls Tryz.prog 115 #[.pointer (some ⟨b, 0, none⟩)] w fun e w' => e = .returned (.bool true) ∧ Sat w0 w' (stA 44 b cells :: R) := by
  refine calls_start (N := 64) [.pointer (some ⟨b, 0, none⟩)] Tryz.func115 rfl rfl rfl (vok_c rfl rfl) fun a fr => ?_
  skip; (repeat (with_reducible refine wp_seq ?_)); refine wp_region_lit ?_
  refine wl_run orcZ_ok 1 rfl fr fun a fr => ?_
  refine wpList_nil ?_; (repeat (with_reducible refine then_n ?_))
  skip; (repeat (with_reducible refine wp_seq ?_)); refine wp_region_lit ?_
  refine wl_run orcZ_ok 1 rfl fr fun a fr => ?_
  refine wpList_nil ?_; (repeat (with_reducible refine then_n ?_))
  skip; (repeat (with_reducible refine wp_seq ?_))
  refine wp_block ?_
  refine cw_loop (fun q a w1 => q = 1 ∧ Fr 64 a [(0, .pointer (some ⟨b, 0, none⟩)), (3, .int .i64 0)] ∧ Sat w0 w1 (stA 44 b cells :: R)) 1 ⟨rfl, fr.sub ⟨rfl, rfl, trivial⟩, S⟩ ?_ ?_
  · rintro a w1 ⟨h, -⟩
    omega
  clear fr S
  rintro q a w1 ⟨hq, fr, S⟩
  skip; (repeat (with_reducible refine wp_seq ?_)); refine wp_region_lit ?_
  refine wl_run orcZ_ok 4 rfl fr fun a fr => ?_
  refine wl_ldf orcZ_ok (Sat.stAt S 0 rfl hj) fr rfl rfl rfl rfl rfl rfl rfl fun a fr => ?_
  refine wl_run orcZ_ok 2 rfl fr fun a fr => ?_
  refine wpList_nil ?_; (repeat (with_reducible refine then_n ?_))
  skip; (repeat (with_reducible refine wp_seq ?_))
  refine cw_f fr rfl ?_
  refine wp_exit ?_
  skip; (repeat (first | (with_reducible refine then_e ?_) | (with_reducible refine ng_e ?_) | (with_reducible refine blk_e (by decide) ?_))); (with_reducible refine blk_y ?_); (repeat (with_reducible refine then_n ?_))
  skip; (repeat (with_reducible refine wp_seq ?_)); refine wp_region_lit ?_
  refine wl_run orcZ_ok 1 rfl fr fun a fr => ?_
  refine wpList_nil ?_; (repeat (with_reducible refine then_n ?_))
  refine wp_ret ?_
  skip; (repeat (first | (with_reducible refine then_r ?_) | (with_reducible refine blk_r ?_) | (with_reducible refine ng_r ?_)))
  refine ret1 fr rfl rfl ?_
  exact ⟨rfl, S⟩
set_option maxRecDepth 100000 in
theorem fillResult_call (hj : cells[9]? = some (.slice none 0 0)) (S : Sat w0 w (stA 44 b cells :: R)) : Calls Tryz.prog 92 #[.pointer (some ⟨b, 0, none⟩)] w fun e w' => e = .returned (.tuple #[]) ∧ Sat w0 w' (stA 44 b cells :: R) := by
  refine calls_start (N := 35) [.pointer (some ⟨b, 0, none⟩)] Tryz.func92 rfl rfl rfl (vok_c rfl rfl) fun a fr => ?_
  skip; (repeat (with_reducible refine wp_seq ?_)); refine wp_region_lit ?_
  refine wl_run orcZ_ok 1 rfl fr fun a fr => ?_
  refine wpList_nil ?_; (repeat (with_reducible refine then_n ?_))
  skip; (repeat (with_reducible refine wp_seq ?_))
  refine wp_block ?_
  refine cw_loop (fun q a w1 => q = 1 ∧ Fr 35 a [(0, .pointer (some ⟨b, 0, none⟩)), (2, .int .i64 0)] ∧ Sat w0 w1 (stA 44 b cells :: R)) 1 ⟨rfl, fr.sub ⟨rfl, rfl, trivial⟩, S⟩ ?_ ?_
  · rintro a w1 ⟨h, -⟩
    omega
  clear fr S
  rintro q a w1 ⟨hq, fr, S⟩
  skip; (repeat (with_reducible refine wp_seq ?_)); refine wp_region_lit ?_
  refine wl_run orcZ_ok 4 rfl fr fun a fr => ?_
  refine wl_ldf orcZ_ok (Sat.stAt S 0 rfl hj) fr rfl rfl rfl rfl rfl rfl rfl fun a fr => ?_
  refine wl_run orcZ_ok 2 rfl fr fun a fr => ?_
  refine wpList_nil ?_; (repeat (with_reducible refine then_n ?_))
  skip; (repeat (with_reducible refine wp_seq ?_))
  refine cw_f fr rfl ?_
  refine wp_exit ?_
  skip; (repeat (first | (with_reducible refine then_e ?_) | (with_reducible refine ng_e ?_) | (with_reducible refine blk_e (by decide) ?_))); (with_reducible refine blk_y ?_); (repeat (with_reducible refine then_n ?_))
  refine end_ret ?_
  refine ret0 fr rfl ?_
  exact ⟨rfl, S⟩
set_option maxRecDepth 100000 in
theorem growResult_call (hj : cells[9]? = some (.slice none 0 0)) (S : Sat w0 w (stA 44 b cells :: R)) : Calls Tryz.prog 104 #[.pointer (some ⟨b, 0, none⟩)] w fun e w' => e = .returned (.tuple #[]) ∧ Sat w0 w' (stA 44 b cells :: R) := by
  refine calls_start (N := 42) [.pointer (some ⟨b, 0, none⟩)] Tryz.func104 rfl rfl rfl (vok_c rfl rfl) fun a fr => ?_
  skip; (repeat (with_reducible refine wp_seq ?_)); refine wp_region_lit ?_
  refine wl_run orcZ_ok 1 rfl fr fun a fr => ?_
  refine wpList_nil ?_; (repeat (with_reducible refine then_n ?_))
  skip; (repeat (with_reducible refine wp_seq ?_))
  refine wp_block ?_
  refine cw_loop (fun q a w1 => q = 1 ∧ Fr 42 a [(0, .pointer (some ⟨b, 0, none⟩)), (2, .int .i64 0)] ∧ Sat w0 w1 (stA 44 b cells :: R)) 1 ⟨rfl, fr.sub ⟨rfl, rfl, trivial⟩, S⟩ ?_ ?_
  · rintro a w1 ⟨h, -⟩
    omega
  clear fr S
  rintro q a w1 ⟨hq, fr, S⟩
  skip; (repeat (with_reducible refine wp_seq ?_)); refine wp_region_lit ?_
  refine wl_run orcZ_ok 4 rfl fr fun a fr => ?_
  refine wl_ldf orcZ_ok (Sat.stAt S 0 rfl hj) fr rfl rfl rfl rfl rfl rfl rfl fun a fr => ?_
  refine wl_run orcZ_ok 2 rfl fr fun a fr => ?_
  refine wpList_nil ?_; (repeat (with_reducible refine then_n ?_))
  skip; (repeat (with_reducible refine wp_seq ?_))
  refine cw_f fr rfl ?_
  refine wp_exit ?_
  skip; (repeat (first | (with_reducible refine then_e ?_) | (with_reducible refine ng_e ?_) | (with_reducible refine blk_e (by decide) ?_))); (with_reducible refine blk_y ?_); (repeat (with_reducible refine then_n ?_))
  refine end_ret ?_
  refine ret0 fr rfl ?_
  exact ⟨rfl, S⟩
set_option maxRecDepth 100000 in
theorem lookResult_call (hj : cells[9]? = some (.slice none 0 0)) (S : Sat w0 w (stA 44 b cells :: R)) : Calls Tryz.prog 116 #[.pointer (some ⟨b, 0, none⟩)] w fun e w' => e = .returned (.bool true) ∧ Sat w0 w' (stA 44 b cells :: R) := by
  refine calls_start (N := 64) [.pointer (some ⟨b, 0, none⟩)] Tryz.func116 rfl rfl rfl (vok_c rfl rfl) fun a fr => ?_
  skip; (repeat (with_reducible refine wp_seq ?_)); refine wp_region_lit ?_
  refine wl_run orcZ_ok 1 rfl fr fun a fr => ?_
  refine wpList_nil ?_; (repeat (with_reducible refine then_n ?_))
  skip; (repeat (with_reducible refine wp_seq ?_)); refine wp_region_lit ?_
  refine wl_run orcZ_ok 1 rfl fr fun a fr => ?_
  refine wpList_nil ?_; (repeat (with_reducible refine then_n ?_))
  skip; (repeat (with_reducible refine wp_seq ?_))
  refine wp_block ?_
  refine cw_loop (fun q a w1 => q = 1 ∧ Fr 64 a [(0, .pointer (some ⟨b, 0, none⟩)), (3, .int .i64 0)] ∧ Sat w0 w1 (stA 44 b cells :: R)) 1 ⟨rfl, fr.sub ⟨rfl, rfl, trivial⟩, S⟩ ?_ ?_
  · rintro a w1 ⟨h, -⟩
    omega
  clear fr S
  rintro q a w1 ⟨hq, fr, S⟩
  skip; (repeat (with_reducible refine wp_seq ?_)); refine wp_region_lit ?_
  refine wl_run orcZ_ok 4 rfl fr fun a fr => ?_
  refine wl_ldf orcZ_ok (Sat.stAt S 0 rfl hj) fr rfl rfl rfl rfl rfl rfl rfl fun a fr => ?_
  refine wl_run orcZ_ok 2 rfl fr fun a fr => ?_
  refine wpList_nil ?_; (repeat (with_reducible refine then_n ?_))
  skip; (repeat (with_reducible refine wp_seq ?_))
  refine cw_f fr rfl ?_
  refine wp_exit ?_
  skip; (repeat (first | (with_reducible refine then_e ?_) | (with_reducible refine ng_e ?_) | (with_reducible refine blk_e (by decide) ?_))); (with_reducible refine blk_y ?_); (repeat (with_reducible refine then_n ?_))
  skip; (repeat (with_reducible refine wp_seq ?_)); refine wp_region_lit ?_
  refine wl_run orcZ_ok 1 rfl fr fun a fr => ?_
  refine wpList_nil ?_; (repeat (with_reducible refine then_n ?_))
  refine wp_ret ?_
  skip; (repeat (first | (with_reducible refine then_r ?_) | (with_reducible refine blk_r ?_) | (with_reducible refine ng_r ?_)))
  refine ret1 fr rfl rfl ?_
  exact ⟨rfl, S⟩
set_option maxRecDepth 100000 in
theorem fillMsg_call (hj : cells[10]? = some (.slice none 0 0)) (S : Sat w0 w (stA 44 b cells :: R)) : Calls Tryz.prog 93 #[.pointer (some ⟨b, 0, none⟩)] w fun e w' => e = .returned (.tuple #[]) ∧ Sat w0 w' (stA 44 b cells :: R) := by
  refine calls_start (N := 35) [.pointer (some ⟨b, 0, none⟩)] Tryz.func93 rfl rfl rfl (vok_c rfl rfl) fun a fr => ?_
  skip; (repeat (with_reducible refine wp_seq ?_)); refine wp_region_lit ?_
  refine wl_run orcZ_ok 1 rfl fr fun a fr => ?_
  refine wpList_nil ?_; (repeat (with_reducible refine then_n ?_))
  skip; (repeat (with_reducible refine wp_seq ?_))
  refine wp_block ?_
  refine cw_loop (fun q a w1 => q = 1 ∧ Fr 35 a [(0, .pointer (some ⟨b, 0, none⟩)), (2, .int .i64 0)] ∧ Sat w0 w1 (stA 44 b cells :: R)) 1 ⟨rfl, fr.sub ⟨rfl, rfl, trivial⟩, S⟩ ?_ ?_
  · rintro a w1 ⟨h, -⟩
    omega
  clear fr S
  rintro q a w1 ⟨hq, fr, S⟩
  skip; (repeat (with_reducible refine wp_seq ?_)); refine wp_region_lit ?_
  refine wl_run orcZ_ok 4 rfl fr fun a fr => ?_
  refine wl_ldf orcZ_ok (Sat.stAt S 0 rfl hj) fr rfl rfl rfl rfl rfl rfl rfl fun a fr => ?_
  refine wl_run orcZ_ok 2 rfl fr fun a fr => ?_
  refine wpList_nil ?_; (repeat (with_reducible refine then_n ?_))
  skip; (repeat (with_reducible refine wp_seq ?_))
  refine cw_f fr rfl ?_
  refine wp_exit ?_
  skip; (repeat (first | (with_reducible refine then_e ?_) | (with_reducible refine ng_e ?_) | (with_reducible refine blk_e (by decide) ?_))); (with_reducible refine blk_y ?_); (repeat (with_reducible refine then_n ?_))
  refine end_ret ?_
  refine ret0 fr rfl ?_
  exact ⟨rfl, S⟩
set_option maxRecDepth 100000 in
theorem growMsg_call (hj : cells[10]? = some (.slice none 0 0)) (S : Sat w0 w (stA 44 b cells :: R)) : Calls Tryz.prog 105 #[.pointer (some ⟨b, 0, none⟩)] w fun e w' => e = .returned (.tuple #[]) ∧ Sat w0 w' (stA 44 b cells :: R) := by
  refine calls_start (N := 42) [.pointer (some ⟨b, 0, none⟩)] Tryz.func105 rfl rfl rfl (vok_c rfl rfl) fun a fr => ?_
  skip; (repeat (with_reducible refine wp_seq ?_)); refine wp_region_lit ?_
  refine wl_run orcZ_ok 1 rfl fr fun a fr => ?_
  refine wpList_nil ?_; (repeat (with_reducible refine then_n ?_))
  skip; (repeat (with_reducible refine wp_seq ?_))
  refine wp_block ?_
  refine cw_loop (fun q a w1 => q = 1 ∧ Fr 42 a [(0, .pointer (some ⟨b, 0, none⟩)), (2, .int .i64 0)] ∧ Sat w0 w1 (stA 44 b cells :: R)) 1 ⟨rfl, fr.sub ⟨rfl, rfl, trivial⟩, S⟩ ?_ ?_
  · rintro a w1 ⟨h, -⟩
    omega
  clear fr S
  rintro q a w1 ⟨hq, fr, S⟩
  skip; (repeat (with_reducible refine wp_seq ?_)); refine wp_region_lit ?_
  refine wl_run orcZ_ok 4 rfl fr fun a fr => ?_
  refine wl_ldf orcZ_ok (Sat.stAt S 0 rfl hj) fr rfl rfl rfl rfl rfl rfl rfl fun a fr => ?_
  refine wl_run orcZ_ok 2 rfl fr fun a fr => ?_
  refine wpList_nil ?_; (repeat (with_reducible refine then_n ?_))
  skip; (repeat (with_reducible refine wp_seq ?_))
  refine cw_f fr rfl ?_
  refine wp_exit ?_
  skip; (repeat (first | (with_reducible refine then_e ?_) | (with_reducible refine ng_e ?_) | (with_reducible refine blk_e (by decide) ?_))); (with_reducible refine blk_y ?_); (repeat (with_reducible refine then_n ?_))
  refine end_ret ?_
  refine ret0 fr rfl ?_
  exact ⟨rfl, S⟩
set_option maxRecDepth 100000 in
theorem lookMsg_call (hj : cells[10]? = some (.slice none 0 0)) (S : Sat w0 w (stA 44 b cells :: R)) : Calls Tryz.prog 117 #[.pointer (some ⟨b, 0, none⟩)] w fun e w' => e = .returned (.bool true) ∧ Sat w0 w' (stA 44 b cells :: R) := by
  refine calls_start (N := 64) [.pointer (some ⟨b, 0, none⟩)] Tryz.func117 rfl rfl rfl (vok_c rfl rfl) fun a fr => ?_
  skip; (repeat (with_reducible refine wp_seq ?_)); refine wp_region_lit ?_
  refine wl_run orcZ_ok 1 rfl fr fun a fr => ?_
  refine wpList_nil ?_; (repeat (with_reducible refine then_n ?_))
  skip; (repeat (with_reducible refine wp_seq ?_)); refine wp_region_lit ?_
  refine wl_run orcZ_ok 1 rfl fr fun a fr => ?_
  refine wpList_nil ?_; (repeat (with_reducible refine then_n ?_))
  skip; (repeat (with_reducible refine wp_seq ?_))
  refine wp_block ?_
  refine cw_loop (fun q a w1 => q = 1 ∧ Fr 64 a [(0, .pointer (some ⟨b, 0, none⟩)), (3, .int .i64 0)] ∧ Sat w0 w1 (stA 44 b cells :: R)) 1 ⟨rfl, fr.sub ⟨rfl, rfl, trivial⟩, S⟩ ?_ ?_
  · rintro a w1 ⟨h, -⟩
    omega
  clear fr S
  rintro q a w1 ⟨hq, fr, S⟩
  skip; (repeat (with_reducible refine wp_seq ?_)); refine wp_region_lit ?_
  refine wl_run orcZ_ok 4 rfl fr fun a fr => ?_
  refine wl_ldf orcZ_ok (Sat.stAt S 0 rfl hj) fr rfl rfl rfl rfl rfl rfl rfl fun a fr => ?_
  refine wl_run orcZ_ok 2 rfl fr fun a fr => ?_
  refine wpList_nil ?_; (repeat (with_reducible refine then_n ?_))
  skip; (repeat (with_reducible refine wp_seq ?_))
  refine cw_f fr rfl ?_
  refine wp_exit ?_
  skip; (repeat (first | (with_reducible refine then_e ?_) | (with_reducible refine ng_e ?_) | (with_reducible refine blk_e (by decide) ?_))); (with_reducible refine blk_y ?_); (repeat (with_reducible refine then_n ?_))
  skip; (repeat (with_reducible refine wp_seq ?_)); refine wp_region_lit ?_
  refine wl_run orcZ_ok 1 rfl fr fun a fr => ?_
  refine wpList_nil ?_; (repeat (with_reducible refine then_n ?_))
  refine wp_ret ?_
  skip; (repeat (first | (with_reducible refine then_r ?_) | (with_reducible refine blk_r ?_) | (with_reducible refine ng_r ?_)))
  refine ret1 fr rfl rfl ?_
  exact ⟨rfl, S⟩
set_option maxRecDepth 100000 in
theorem fillPart_call (hj : cells[11]? = some (.slice none 0 0)) (S : Sat w0 w (stA 44 b cells :: R)) : Calls Tryz.prog 94 #[.pointer (some ⟨b, 0, none⟩)] w fun e w' => e = .returned (.tuple #[]) ∧ Sat w0 w' (stA 44 b cells :: R) := by
  refine calls_start (N := 35) [.pointer (some ⟨b, 0, none⟩)] Tryz.func94 rfl rfl rfl (vok_c rfl rfl) fun a fr => ?_
  skip; (repeat (with_reducible refine wp_seq ?_)); refine wp_region_lit ?_
  refine wl_run orcZ_ok 1 rfl fr fun a fr => ?_
  refine wpList_nil ?_; (repeat (with_reducible refine then_n ?_))
  skip; (repeat (with_reducible refine wp_seq ?_))
  refine wp_block ?_
  refine cw_loop (fun q a w1 => q = 1 ∧ Fr 35 a [(0, .pointer (some ⟨b, 0, none⟩)), (2, .int .i64 0)] ∧ Sat w0 w1 (stA 44 b cells :: R)) 1 ⟨rfl, fr.sub ⟨rfl, rfl, trivial⟩, S⟩ ?_ ?_
  · rintro a w1 ⟨h, -⟩
    omega
  clear fr S
  rintro q a w1 ⟨hq, fr, S⟩
  skip; (repeat (with_reducible refine wp_seq ?_)); refine wp_region_lit ?_
  refine wl_run orcZ_ok 4 rfl fr fun a fr => ?_
  refine wl_ldf orcZ_ok (Sat.stAt S 0 rfl hj) fr rfl rfl rfl rfl rfl rfl rfl fun a fr => ?_
  refine wl_run orcZ_ok 2 rfl fr fun a fr => ?_
  refine wpList_nil ?_; (repeat (with_reducible refine then_n ?_))
  skip; (repeat (with_reducible refine wp_seq ?_))
  refine cw_f fr rfl ?_
  refine wp_exit ?_
  skip; (repeat (first | (with_reducible refine then_e ?_) | (with_reducible refine ng_e ?_) | (with_reducible refine blk_e (by decide) ?_))); (with_reducible refine blk_y ?_); (repeat (with_reducible refine then_n ?_))
  refine end_ret ?_
  refine ret0 fr rfl ?_
  exact ⟨rfl, S⟩
set_option maxRecDepth 100000 in
theorem growPart_call (hj : cells[11]? = some (.slice none 0 0)) (S : Sat w0 w (stA 44 b cells :: R)) : Calls Tryz.prog 106 #[.pointer (some ⟨b, 0, none⟩)] w fun e w' => e = .returned (.tuple #[]) ∧ Sat w0 w' (stA 44 b cells :: R) := by
  refine calls_start (N := 42) [.pointer (some ⟨b, 0, none⟩)] Tryz.func106 rfl rfl rfl (vok_c rfl rfl) fun a fr => ?_
  skip; (repeat (with_reducible refine wp_seq ?_)); refine wp_region_lit ?_
  refine wl_run orcZ_ok 1 rfl fr fun a fr => ?_
  refine wpList_nil ?_; (repeat (with_reducible refine then_n ?_))
  skip; (repeat (with_reducible refine wp_seq ?_))
  refine wp_block ?_
  refine cw_loop (fun q a w1 => q = 1 ∧ Fr 42 a [(0, .pointer (some ⟨b, 0, none⟩)), (2, .int .i64 0)] ∧ Sat w0 w1 (stA 44 b cells :: R)) 1 ⟨rfl, fr.sub ⟨rfl, rfl, trivial⟩, S⟩ ?_ ?_
  · rintro a w1 ⟨h, -⟩
    omega
  clear fr S
  rintro q a w1 ⟨hq, fr, S⟩
  skip; (repeat (with_reducible refine wp_seq ?_)); refine wp_region_lit ?_
  refine wl_run orcZ_ok 4 rfl fr fun a fr => ?_
  refine wl_ldf orcZ_ok (Sat.stAt S 0 rfl hj) fr rfl rfl rfl rfl rfl rfl rfl fun a fr => ?_
  refine wl_run orcZ_ok 2 rfl fr fun a fr => ?_
  refine wpList_nil ?_; (repeat (with_reducible refine then_n ?_))
  skip; (repeat (with_reducible refine wp_seq ?_))
  refine cw_f fr rfl ?_
  refine wp_exit ?_
  skip; (repeat (first | (with_reducible refine then_e ?_) | (with_reducible refine ng_e ?_) | (with_reducible refine blk_e (by decide) ?_))); (with_reducible refine blk_y ?_); (repeat (with_reducible refine then_n ?_))
  refine end_ret ?_
  refine ret0 fr rfl ?_
  exact ⟨rfl, S⟩
set_option maxRecDepth 100000 in
theorem lookPart_call (hj : cells[11]? = some (.slice none 0 0)) (S : Sat w0 w (stA 44 b cells :: R)) : Calls Tryz.prog 118 #[.pointer (some ⟨b, 0, none⟩)] w fun e w' => e = .returned (.bool true) ∧ Sat w0 w' (stA 44 b cells :: R) := by
  refine calls_start (N := 64) [.pointer (some ⟨b, 0, none⟩)] Tryz.func118 rfl rfl rfl (vok_c rfl rfl) fun a fr => ?_
  skip; (repeat (with_reducible refine wp_seq ?_)); refine wp_region_lit ?_
  refine wl_run orcZ_ok 1 rfl fr fun a fr => ?_
  refine wpList_nil ?_; (repeat (with_reducible refine then_n ?_))
  skip; (repeat (with_reducible refine wp_seq ?_)); refine wp_region_lit ?_
  refine wl_run orcZ_ok 1 rfl fr fun a fr => ?_
  refine wpList_nil ?_; (repeat (with_reducible refine then_n ?_))
  skip; (repeat (with_reducible refine wp_seq ?_))
  refine wp_block ?_
  refine cw_loop (fun q a w1 => q = 1 ∧ Fr 64 a [(0, .pointer (some ⟨b, 0, none⟩)), (3, .int .i64 0)] ∧ Sat w0 w1 (stA 44 b cells :: R)) 1 ⟨rfl, fr.sub ⟨rfl, rfl, trivial⟩, S⟩ ?_ ?_
  · rintro a w1 ⟨h, -⟩
    omega
  clear fr S
  rintro q a w1 ⟨hq, fr, S⟩
  skip; (repeat (with_reducible refine wp_seq ?_)); refine wp_region_lit ?_
  refine wl_run orcZ_ok 4 rfl fr fun a fr => ?_
  refine wl_ldf orcZ_ok (Sat.stAt S 0 rfl hj) fr rfl rfl rfl rfl rfl rfl rfl fun a fr => ?_
  refine wl_run orcZ_ok 2 rfl fr fun a fr => ?_
  refine wpList_nil ?_; (repeat (with_reducible refine then_n ?_))
  skip; (repeat (with_reducible refine wp_seq ?_))
  refine cw_f fr rfl ?_
  refine wp_exit ?_
  skip; (repeat (first | (with_reducible refine then_e ?_) | (with_reducible refine ng_e ?_) | (with_reducible refine blk_e (by decide) ?_))); (with_reducible refine blk_y ?_); (repeat (with_reducible refine then_n ?_))
  skip; (repeat (with_reducible refine wp_seq ?_)); refine wp_region_lit ?_
  refine wl_run orcZ_ok 1 rfl fr fun a fr => ?_
  refine wpList_nil ?_; (repeat (with_reducible refine then_n ?_))
  refine wp_ret ?_
  skip; (repeat (first | (with_reducible refine then_r ?_) | (with_reducible refine blk_r ?_) | (with_reducible refine ng_r ?_)))
  refine ret1 fr rfl rfl ?_
  exact ⟨rfl, S⟩
set_option maxRecDepth 100000 in
theorem fillDeed_call (hj : cells[12]? = some (.slice none 0 0)) (S : Sat w0 w (stA 44 b cells :: R)) : Calls Tryz.prog 95 #[.pointer (some ⟨b, 0, none⟩)] w fun e w' => e = .returned (.tuple #[]) ∧ Sat w0 w' (stA 44 b cells :: R) := by
  refine calls_start (N := 35) [.pointer (some ⟨b, 0, none⟩)] Tryz.func95 rfl rfl rfl (vok_c rfl rfl) fun a fr => ?_
  skip; (repeat (with_reducible refine wp_seq ?_)); refine wp_region_lit ?_
  refine wl_run orcZ_ok 1 rfl fr fun a fr => ?_
  refine wpList_nil ?_; (repeat (with_reducible refine then_n ?_))
  skip; (repeat (with_reducible refine wp_seq ?_))
  refine wp_block ?_
  refine cw_loop (fun q a w1 => q = 1 ∧ Fr 35 a [(0, .pointer (some ⟨b, 0, none⟩)), (2, .int .i64 0)] ∧ Sat w0 w1 (stA 44 b cells :: R)) 1 ⟨rfl, fr.sub ⟨rfl, rfl, trivial⟩, S⟩ ?_ ?_
  · rintro a w1 ⟨h, -⟩
    omega
  clear fr S
  rintro q a w1 ⟨hq, fr, S⟩
  skip; (repeat (with_reducible refine wp_seq ?_)); refine wp_region_lit ?_
  refine wl_run orcZ_ok 4 rfl fr fun a fr => ?_
  refine wl_ldf orcZ_ok (Sat.stAt S 0 rfl hj) fr rfl rfl rfl rfl rfl rfl rfl fun a fr => ?_
  refine wl_run orcZ_ok 2 rfl fr fun a fr => ?_
  refine wpList_nil ?_; (repeat (with_reducible refine then_n ?_))
  skip; (repeat (with_reducible refine wp_seq ?_))
  refine cw_f fr rfl ?_
  refine wp_exit ?_
  skip; (repeat (first | (with_reducible refine then_e ?_) | (with_reducible refine ng_e ?_) | (with_reducible refine blk_e (by decide) ?_))); (with_reducible refine blk_y ?_); (repeat (with_reducible refine then_n ?_))
  refine end_ret ?_
  refine ret0 fr rfl ?_
  exact ⟨rfl, S⟩
set_option maxRecDepth 100000 in
theorem growDeed_call (hj : cells[12]? = some (.slice none 0 0)) (S : Sat w0 w (stA 44 b cells :: R)) : Calls Tryz.prog 107 #[.pointer (some ⟨b, 0, none⟩)] w fun e w' => e = .returned (.tuple #[]) ∧ Sat w0 w' (stA 44 b cells :: R) := by
  refine calls_start (N := 42) [.pointer (some ⟨b, 0, none⟩)] Tryz.func107 rfl rfl rfl (vok_c rfl rfl) fun a fr => ?_
  skip; (repeat (with_reducible refine wp_seq ?_)); refine wp_region_lit ?_
  refine wl_run orcZ_ok 1 rfl fr fun a fr => ?_
  refine wpList_nil ?_; (repeat (with_reducible refine then_n ?_))
  skip; (repeat (with_reducible refine wp_seq ?_))
  refine wp_block ?_
  refine cw_loop (fun q a w1 => q = 1 ∧ Fr 42 a [(0, .pointer (some ⟨b, 0, none⟩)), (2, .int .i64 0)] ∧ Sat w0 w1 (stA 44 b cells :: R)) 1 ⟨rfl, fr.sub ⟨rfl, rfl, trivial⟩, S⟩ ?_ ?_
  · rintro a w1 ⟨h, -⟩
    omega
  clear fr S
  rintro q a w1 ⟨hq, fr, S⟩
  skip; (repeat (with_reducible refine wp_seq ?_)); refine wp_region_lit ?_
  refine wl_run orcZ_ok 4 rfl fr fun a fr => ?_
  refine wl_ldf orcZ_ok (Sat.stAt S 0 rfl hj) fr rfl rfl rfl rfl rfl rfl rfl fun a fr => ?_
  refine wl_run orcZ_ok 2 rfl fr fun a fr => ?_
  refine wpList_nil ?_; (repeat (with_reducible refine then_n ?_))
  skip; (repeat (with_reducible refine wp_seq ?_))
  refine cw_f fr rfl ?_
  refine wp_exit ?_
  skip; (repeat (first | (with_reducible refine then_e ?_) | (with_reducible refine ng_e ?_) | (with_reducible refine blk_e (by decide) ?_))); (with_reducible refine blk_y ?_); (repeat (with_reducible refine then_n ?_))
  refine end_ret ?_
  refine ret0 fr rfl ?_
  exact ⟨rfl, S⟩
set_option maxRecDepth 100000 in
theorem lookDeed_call (hj : cells[12]? = some (.slice none 0 0)) (S : Sat w0 w (stA 44 b cells :: R)) : Calls Tryz.prog 119 #[.pointer (some ⟨b, 0, none⟩)] w fun e w' => e = .returned (.bool true) ∧ Sat w0 w' (stA 44 b cells :: R) := by
  refine calls_start (N := 64) [.pointer (some ⟨b, 0, none⟩)] Tryz.func119 rfl rfl rfl (vok_c rfl rfl) fun a fr => ?_
  skip; (repeat (with_reducible refine wp_seq ?_)); refine wp_region_lit ?_
  refine wl_run orcZ_ok 1 rfl fr fun a fr => ?_
  refine wpList_nil ?_; (repeat (with_reducible refine then_n ?_))
  skip; (repeat (with_reducible refine wp_seq ?_)); refine wp_region_lit ?_
  refine wl_run orcZ_ok 1 rfl fr fun a fr => ?_
  refine wpList_nil ?_; (repeat (with_reducible refine then_n ?_))
  skip; (repeat (with_reducible refine wp_seq ?_))
  refine wp_block ?_
  refine cw_loop (fun q a w1 => q = 1 ∧ Fr 64 a [(0, .pointer (some ⟨b, 0, none⟩)), (3, .int .i64 0)] ∧ Sat w0 w1 (stA 44 b cells :: R)) 1 ⟨rfl, fr.sub ⟨rfl, rfl, trivial⟩, S⟩ ?_ ?_
  · rintro a w1 ⟨h, -⟩
    omega
  clear fr S
  rintro q a w1 ⟨hq, fr, S⟩
  skip; (repeat (with_reducible refine wp_seq ?_)); refine wp_region_lit ?_
  refine wl_run orcZ_ok 4 rfl fr fun a fr => ?_
  refine wl_ldf orcZ_ok (Sat.stAt S 0 rfl hj) fr rfl rfl rfl rfl rfl rfl rfl fun a fr => ?_
  refine wl_run orcZ_ok 2 rfl fr fun a fr => ?_
  refine wpList_nil ?_; (repeat (with_reducible refine then_n ?_))
  skip; (repeat (with_reducible refine wp_seq ?_))
  refine cw_f fr rfl ?_
  refine wp_exit ?_
  skip; (repeat (first | (with_reducible refine then_e ?_) | (with_reducible refine ng_e ?_) | (with_reducible refine blk_e (by decide) ?_))); (with_reducible refine blk_y ?_); (repeat (with_reducible refine then_n ?_))
  skip; (repeat (with_reducible refine wp_seq ?_)); refine wp_region_lit ?_
  refine wl_run orcZ_ok 1 rfl fr fun a fr => ?_
  refine wpList_nil ?_; (repeat (with_reducible refine then_n ?_))
  refine wp_ret ?_
  skip; (repeat (first | (with_reducible refine then_r ?_) | (with_reducible refine blk_r ?_) | (with_reducible refine ng_r ?_)))
  refine ret1 fr rfl rfl ?_
  exact ⟨rfl, S⟩
theorem enfillByte : Enters Tryz.prog 84 := fun _ _ => by kernel_rfl
theorem enfillId : Enters Tryz.prog 85 := fun _ _ => by kernel_rfl
theorem enfillInt : Enters Tryz.prog 86 := fun _ _ => by kernel_rfl
theorem enfillText : Enters Tryz.prog 87 := fun _ _ => by kernel_rfl
theorem enfillRow : Enters Tryz.prog 88 := fun _ _ => by kernel_rfl
theorem enfillOp : Enters Tryz.prog 89 := fun _ _ => by kernel_rfl
theorem enfillSpan : Enters Tryz.prog 90 := fun _ _ => by kernel_rfl
theorem enfillChange : Enters Tryz.prog 91 := fun _ _ => by kernel_rfl
theorem enfillResult : Enters Tryz.prog 92 := fun _ _ => by kernel_rfl
theorem enfillMsg : Enters Tryz.prog 93 := fun _ _ => by kernel_rfl
theorem enfillPart : Enters Tryz.prog 94 := fun _ _ => by kernel_rfl
theorem enfillDeed : Enters Tryz.prog 95 := fun _ _ => by kernel_rfl
theorem engrowByte : Enters Tryz.prog 96 := fun _ _ => by kernel_rfl
theorem engrowId : Enters Tryz.prog 97 := fun _ _ => by kernel_rfl
theorem engrowInt : Enters Tryz.prog 98 := fun _ _ => by kernel_rfl
theorem engrowText : Enters Tryz.prog 99 := fun _ _ => by kernel_rfl
theorem engrowRow : Enters Tryz.prog 100 := fun _ _ => by kernel_rfl
theorem engrowOp : Enters Tryz.prog 101 := fun _ _ => by kernel_rfl
theorem engrowSpan : Enters Tryz.prog 102 := fun _ _ => by kernel_rfl
theorem engrowChange : Enters Tryz.prog 103 := fun _ _ => by kernel_rfl
theorem engrowResult : Enters Tryz.prog 104 := fun _ _ => by kernel_rfl
theorem engrowMsg : Enters Tryz.prog 105 := fun _ _ => by kernel_rfl
theorem engrowPart : Enters Tryz.prog 106 := fun _ _ => by kernel_rfl
theorem engrowDeed : Enters Tryz.prog 107 := fun _ _ => by kernel_rfl
theorem enlookByte : Enters Tryz.prog 108 := fun _ _ => by kernel_rfl
theorem enlookId : Enters Tryz.prog 109 := fun _ _ => by kernel_rfl
theorem enlookInt : Enters Tryz.prog 110 := fun _ _ => by kernel_rfl
theorem enlookText : Enters Tryz.prog 111 := fun _ _ => by kernel_rfl
theorem enlookRow : Enters Tryz.prog 112 := fun _ _ => by kernel_rfl
theorem enlookOp : Enters Tryz.prog 113 := fun _ _ => by kernel_rfl
theorem enlookSpan : Enters Tryz.prog 114 := fun _ _ => by kernel_rfl
theorem enlookChange : Enters Tryz.prog 115 := fun _ _ => by kernel_rfl
theorem enlookResult : Enters Tryz.prog 116 := fun _ _ => by kernel_rfl
theorem enlookMsg : Enters Tryz.prog 117 := fun _ _ => by kernel_rfl
theorem enlookPart : Enters Tryz.prog 118 := fun _ _ => by kernel_rfl
theorem enlookDeed : Enters Tryz.prog 119 := fun _ _ => by kernel_rfl
theorem Sat.lasts (X : List Asn) (S : Sat w0 w (X ++ R)) : Sat w0 w R := by
  induction X with
  | nil => exact S
  | cons A X ih => exact ih S.tl
theorem Sat.ofAll (S : Sat w0 w (allA L :: R)) : Sat w0 w (L ++ R) := by
  induction L generalizing R with
  | nil => exact S.tl
  | cons A L ih =>
    have S : Sat w0 w (A :: allA L :: R) := Sat.ofSep S
    have S : Sat w0 w (L ++ (A :: R)) := ih (S.perm (List.Perm.swap _ _ _))
    exact S.perm (List.perm_middle (l₁ := L) (a := A) (l₂ := R))
theorem Sat.toAll (S : Sat w0 w (L ++ R)) : Sat w0 w (allA L :: R) := by
  induction L generalizing R with
  | nil => exact S.empA
  | cons A L ih =>
    have S : Sat w0 w (allA L :: A :: R) := ih (S.perm (List.perm_middle (l₁ := L) (a := A) (l₂ := R)).symm)
    exact Sat.toSep (S.perm (List.Perm.swap _ _ _))
theorem two_swap {X a c : Asn} {L M : List Asn} (S : Sat w0 w (X :: a :: (L ++ (c :: (M ++ R))))) : Sat w0 w (X :: c :: (M ++ (a :: (L ++ R)))) :=
  S.perm (List.Perm.cons X (rows_mv (H := a :: L) (X := c :: M) (Y := R)))
theorem grewByte_ok {hs hs' : List Hd} (hf : ∀ h ∈ hs, (∀ z ∈ h.l, z = mkByte h.k) ∧ h.l.length ≤ 100000000000) (h : GrewByte hs.length hs hs') : ∀ h ∈ hs', (∀ z ∈ h.l, z = mkByte h.k) ∧ h.l.length ≤ 100000000000 ∧ ∃ A c, h.g = some (A, c, h.l ++ List.replicate 40 (mkByte h.k)) := by
  intro x hx
  obtain ⟨i, hi, rfl⟩ := List.getElem_of_mem hx
  have hilt : i < hs.length := by rw [← h.1]; exact hi
  have h2 := h.2 i hilt
  rw [if_pos hilt] at h2
  obtain ⟨A, c, h2⟩ := h2
  rw [List.getElem?_eq_getElem hi] at h2
  injection h2 with h2
  have h3 := hf hs[i] (List.getElem_mem hilt)
  rw [h2]
  exact ⟨h3.1, h3.2, A, c, rfl⟩
theorem grewId_ok {hs hs' : List Hd} (hf : ∀ h ∈ hs, (∀ z ∈ h.l, z = mkId h.k) ∧ h.l.length ≤ 100000000000) (h : GrewId hs.length hs hs') : ∀ h ∈ hs', (∀ z ∈ h.l, z = mkId h.k) ∧ h.l.length ≤ 100000000000 ∧ ∃ A c, h.g = some (A, c, h.l ++ List.replicate 40 (mkId h.k)) := by
  intro x hx
  obtain ⟨i, hi, rfl⟩ := List.getElem_of_mem hx
  have hilt : i < hs.length := by rw [← h.1]; exact hi
  have h2 := h.2 i hilt
  rw [if_pos hilt] at h2
  obtain ⟨A, c, h2⟩ := h2
  rw [List.getElem?_eq_getElem hi] at h2
  injection h2 with h2
  have h3 := hf hs[i] (List.getElem_mem hilt)
  rw [h2]
  exact ⟨h3.1, h3.2, A, c, rfl⟩
abbrev BkI := (Option Addr × Nat × List Hd) × (Option Addr × Nat × List Hd)
def bkC (n : Int) (p : BkI) : List Value := .int .i64 n :: .slice p.1.1 p.1.2.2.length p.1.2.1 :: .slice p.2.1 p.2.2.2.length p.2.2.1 :: List.replicate 10 (.slice none 0 0)
def Bok (n : Int) (p : BkI) : Prop := (∀ h ∈ p.1.2.2, h.g = none ∧ h.l.length ≤ 100000000000) ∧ (∀ h ∈ p.2.2.2, h.g = none ∧ h.l.length ≤ 100000000000) ∧ (p.1.2.2.length : Int) + p.2.2.2.length ≤ n ∧ n ≤ 1000000000
def bookA (b : Nat) (n : Int) : Asn := exA fun p : { p : BkI // Bok n p } => sepA (stA 44 b (bkC n p.1)) (sepA (rvA 246 3 p.1.1.1 p.1.1.2.1 p.1.1.2.2.length (hdsV p.1.1.2.2)) (sepA (allA (p.1.1.2.2.map (hdA .u8 5))) (sepA (rvA 249 3 p.1.2.1 p.1.2.2.1 p.1.2.2.2.length (hdsV p.1.2.2.2)) (allA (p.1.2.2.2.map (hdA .u32 86))))))
theorem Sat.ofBook {n : Int} (S : Sat w0 w (bookA b n :: R)) : ∃ Ab cb hb Ai ci hi, Bok n ((Ab, cb, hb), (Ai, ci, hi)) ∧ Sat w0 w (stA 44 b (bkC n ((Ab, cb, hb), (Ai, ci, hi))) :: rvA 246 3 Ab cb hb.length (hdsV hb) :: (hb.map (hdA .u8 5) ++ (rvA 249 3 Ai ci hi.length (hdsV hi) :: (hi.map (hdA .u32 86) ++ R)))) := by
  obtain ⟨⟨⟨⟨Ab, cb, hb⟩, ⟨Ai, ci, hi⟩⟩, hok⟩, S⟩ := Sat.ofEx S
  refine ⟨Ab, cb, hb, Ai, ci, hi, hok, ?_⟩
  have S := Sat.ofSep S
  have S := Sat.ofSep (S.frontAt 1 rfl)
  have S := Sat.ofSep (S.frontAt 1 rfl)
  have S := Sat.ofSep (S.frontAt 1 rfl)
  have S := Sat.ofAll (S.frontAt 1 rfl)
  have S := S.perm (List.perm_middle (l₁ := hi.map (hdA .u32 86)))
  have S : Sat w0 w ((rvA 249 3 Ai ci hi.length (hdsV hi) :: (hi.map (hdA .u32 86))) ++ (allA (hb.map (hdA .u8 5)) :: (rvA 246 3 Ab cb hb.length (hdsV hb) :: stA 44 b (bkC n ((Ab, cb, hb), (Ai, ci, hi))) :: R))) := S
  have S := Sat.ofAll (S.perm List.perm_middle)
  refine S.perm ?_
  generalize hb.map (hdA .u8 5) = X
  generalize hi.map (hdA .u32 86) = Y
  generalize stA 44 b (bkC n ((Ab, cb, hb), (Ai, ci, hi))) = s1
  generalize rvA 246 3 Ab cb hb.length (hdsV hb) = s2
  generalize rvA 249 3 Ai ci hi.length (hdsV hi) = s3
  have h1 : (X ++ ((s3 :: Y) ++ (s2 :: s1 :: R))) = (X ++ (s3 :: Y)) ++ (s2 :: s1 :: R) := by simp
  have h2 : (s1 :: s2 :: (X ++ (s3 :: (Y ++ R)))) = [s1, s2] ++ ((X ++ (s3 :: Y)) ++ R) := by simp
  rw [h1, h2]
  refine (rows_mv (H := X ++ (s3 :: Y)) (X := [s2, s1]) (Y := R)).trans ?_
  exact List.Perm.append_right _ (List.Perm.swap _ _ _)
theorem Sat.toBook {n : Int} {Ab Ai : Option Addr} {cb ci : Nat} {hb hi : List Hd} (hok : Bok n ((Ab, cb, hb), (Ai, ci, hi))) (S : Sat w0 w (stA 44 b (bkC n ((Ab, cb, hb), (Ai, ci, hi))) :: rvA 246 3 Ab cb hb.length (hdsV hb) :: (hb.map (hdA .u8 5) ++ (rvA 249 3 Ai ci hi.length (hdsV hi) :: (hi.map (hdA .u32 86) ++ R))))) : Sat w0 w (bookA b n :: R) := by
  refine Sat.toEx (f := fun p : { p : BkI // Bok n p } => sepA (stA 44 b (bkC n p.1)) (sepA (rvA 246 3 p.1.1.1 p.1.1.2.1 p.1.1.2.2.length (hdsV p.1.1.2.2)) (sepA (allA (p.1.1.2.2.map (hdA .u8 5))) (sepA (rvA 249 3 p.1.2.1 p.1.2.2.1 p.1.2.2.2.length (hdsV p.1.2.2.2)) (allA (p.1.2.2.2.map (hdA .u32 86))))))) ⟨((Ab, cb, hb), (Ai, ci, hi)), hok⟩ ?_
  refine Sat.toSep (S := ?_)
  refine Sat.perm (L := sepA (rvA 246 3 Ab cb hb.length (hdsV hb)) (sepA (allA (hb.map (hdA .u8 5))) (sepA (rvA 249 3 Ai ci hi.length (hdsV hi)) (allA (hi.map (hdA .u32 86))))) :: stA 44 b (bkC n ((Ab, cb, hb), (Ai, ci, hi))) :: R) ?_ (List.Perm.swap _ _ _)
  refine Sat.toSep (S := ?_)
  refine Sat.perm (L := sepA (allA (hb.map (hdA .u8 5))) (sepA (rvA 249 3 Ai ci hi.length (hdsV hi)) (allA (hi.map (hdA .u32 86)))) :: rvA 246 3 Ab cb hb.length (hdsV hb) :: stA 44 b (bkC n ((Ab, cb, hb), (Ai, ci, hi))) :: R) ?_ (List.Perm.swap _ _ _)
  refine Sat.toSep (S := ?_)
  refine Sat.toAll ?_
  have hS : Sat w0 w (sepA (rvA 249 3 Ai ci hi.length (hdsV hi)) (allA (hi.map (hdA .u32 86))) :: (hb.map (hdA .u8 5) ++ (rvA 246 3 Ab cb hb.length (hdsV hb) :: stA 44 b (bkC n ((Ab, cb, hb), (Ai, ci, hi))) :: R))) := by
    refine Sat.toSep (S := ?_)
    refine Sat.perm (L := allA (hi.map (hdA .u32 86)) :: rvA 249 3 Ai ci hi.length (hdsV hi) :: (hb.map (hdA .u8 5) ++ (rvA 246 3 Ab cb hb.length (hdsV hb) :: stA 44 b (bkC n ((Ab, cb, hb), (Ai, ci, hi))) :: R))) ?_ (List.Perm.swap _ _ _)
    refine Sat.toAll (S.perm ?_)
    generalize hb.map (hdA .u8 5) = X
    generalize hi.map (hdA .u32 86) = Y
    generalize stA 44 b (bkC n ((Ab, cb, hb), (Ai, ci, hi))) = s1
    generalize rvA 246 3 Ab cb hb.length (hdsV hb) = s2
    generalize rvA 249 3 Ai ci hi.length (hdsV hi) = s3
    have e1 : (s1 :: s2 :: (X ++ (s3 :: (Y ++ R)))) = ([s1, s2] ++ X ++ [s3]) ++ (Y ++ R) := by simp
    have e2 : (Y ++ (s3 :: (X ++ (s2 :: s1 :: R)))) = Y ++ (([s3] ++ X ++ [s2, s1]) ++ R) := by simp
    rw [e1, e2]
    refine (rows_mv (H := [s1, s2] ++ X ++ [s3]) (X := Y) (Y := R)).trans (List.Perm.append_left Y (List.Perm.append_right R ?_))
    have p1 : ([s1, s2] ++ X ++ [s3]).Perm (s3 :: ([s1, s2] ++ X)) := List.perm_append_comm
    have p2 : ([s1, s2] ++ X).Perm (X ++ [s2, s1]) := List.perm_append_comm.trans (List.Perm.append_left X (List.Perm.swap _ _ _))
    exact p1.trans (List.Perm.cons s3 p2)
  exact hS.perm (List.perm_middle (l₁ := hb.map (hdA .u8 5))).symm
theorem Sat.newBook (S : Sat w0 w (stA 44 b (.int .i64 0 :: List.replicate 12 (.slice none 0 0)) :: R)) : Sat w0 w (bookA b 0 :: R) := by
  have S1 := rv_nil 246 3 S
  have S2 := rv_nil 249 3 S1
  refine Sat.toBook (Ab := none) (Ai := none) (cb := 0) (ci := 0) (hb := []) (hi := []) ⟨fun h hh => (by cases hh), fun h hh => (by cases hh), by decide, by decide⟩ ?_
  exact ((S2.frontAt 1 rfl).frontAt 2 rfl)
theorem enBytes : Enters Tryz.prog 19 := fun _ _ => by kernel_rfl
set_option maxRecDepth 100000 in
theorem book_bytes {n : Int} {A : Option Addr} {c : Nat} {l : List Int} (hl : l.length ≤ 100000000000 ∧ n < 1000000000) (S : Sat w0 w (ownA .u8 5 A c l :: bookA b n :: R)) : Calls Tryz.prog 19 #[.pointer (some ⟨b, 0, none⟩), .slice A l.length c] w fun e w' => e = .returned (.tuple #[]) ∧ Sat w0 w' (bookA b (n + 1) :: R) := by
  have hm := S.own.2
  obtain ⟨Ab, cb, hb, Ai, ci, hi, hok, S⟩ := Sat.ofBook (S.frontAt 1 rfl)
  obtain ⟨k1, k2, k3, k4⟩ := hok
  simp only at k1 k2 k3
  have S : Sat w0 w (stA 44 b (bkC n ((Ab, cb, hb), (Ai, ci, hi))) :: rvA 246 3 Ab cb hb.length (hdsV hb) :: (hb.map (hdA .u8 5) ++ (rvA 249 3 Ai ci hi.length (hdsV hi) :: (hi.map (hdA .u32 86) ++ (ownA .u8 5 A c l :: R))))) := S
  have S : Sat w0 w (ownA .u8 5 A c l :: stA 44 b (bkC n ((Ab, cb, hb), (Ai, ci, hi))) :: rvA 246 3 Ab cb hb.length (hdsV hb) :: (hb.map (hdA .u8 5) ++ (rvA 249 3 Ai ci hi.length (hdsV hi) :: (hi.map (hdA .u32 86) ++ R)))) := by
    refine S.perm ?_
    generalize hb.map (hdA .u8 5) = X
    generalize hi.map (hdA .u32 86) = Y
    generalize stA 44 b (bkC n ((Ab, cb, hb), (Ai, ci, hi))) = s1
    generalize rvA 246 3 Ab cb hb.length (hdsV hb) = s2
    generalize rvA 249 3 Ai ci hi.length (hdsV hi) = s3
    have e1 : (s1 :: s2 :: (X ++ (s3 :: (Y ++ (ownA .u8 5 A c l :: R))))) = ([s1, s2] ++ X ++ [s3] ++ Y) ++ (ownA .u8 5 A c l :: R) := by simp
    have e2 : (s1 :: s2 :: (X ++ (s3 :: (Y ++ R)))) = ([s1, s2] ++ X ++ [s3] ++ Y) ++ R := by simp
    rw [e1, e2]
    exact List.perm_middle
  refine calls_start (N := 7) [.pointer (some ⟨b, 0, none⟩), .slice A l.length c] Tryz.func19 rfl rfl rfl (vok_c rfl (vok_c (vok_sl hm) rfl)) fun a fr => ?_
  skip; (repeat (with_reducible refine wp_seq ?_)); refine wp_region_lit ?_
  refine wl_run orcByte_ok 2 rfl fr fun a fr => ?_
  refine wl_call fr rfl rfl rfl rfl enKeepByte (keepByte_call (r := (A, c, l)) hm ⟨by omega, by omega⟩ rfl rfl (by omega) S) ?_
  rintro _ w2 ⟨A', c', rfl, S⟩
  refine ⟨_, rfl, rfl, fun a fr => ?_⟩
  refine wpList_nil ?_; (repeat (with_reducible refine then_n ?_))
  refine end_ret ?_
  refine ret0 fr rfl ?_
  refine ⟨rfl, ?_⟩
  have S : Sat w0 w2 (ownA .u8 5 A c l :: stA 44 b (bkC (n + 1) ((A', c', hb ++ [(⟨A, c, l, none, n + 1⟩ : Hd)]), (Ai, ci, hi))) :: rvA 246 3 A' c' (hb ++ [(⟨A, c, l, none, n + 1⟩ : Hd)]).length (hdsV (hb ++ [(⟨A, c, l, none, n + 1⟩ : Hd)])) :: (hb.map (hdA .u8 5) ++ (rvA 249 3 Ai ci hi.length (hdsV hi) :: (hi.map (hdA .u32 86) ++ R)))) := by
    have e : (hb ++ [(⟨A, c, l, none, n + 1⟩ : Hd)]).length = hb.length + 1 := by simp
    unfold bkC
    rw [e]
    exact S
  refine Sat.toBook (Ab := A') (cb := c') (hb := hb ++ [(⟨A, c, l, none, n + 1⟩ : Hd)]) (Ai := Ai) (ci := ci) (hi := hi) ⟨fun h hh => ?_, k2, by simp; omega, by omega⟩ ?_
  · rcases List.mem_append.1 hh with hh | hh
    · exact k1 h hh
    · rw [List.mem_singleton] at hh; subst hh; exact ⟨rfl, hl.1⟩
  · refine S.perm ?_
    rw [List.map_append]
    generalize hb.map (hdA .u8 5) = X
    have e3 : List.map (hdA .u8 5) [(⟨A, c, l, none, n + 1⟩ : Hd)] = [ownA .u8 5 A c l] := rfl
    rw [e3]
    refine (List.Perm.swap _ _ _).trans (List.Perm.cons _ ((List.Perm.swap _ _ _).trans (List.Perm.cons _ ?_)))
    rw [List.append_assoc]
    exact List.perm_middle.symm
theorem enIds2 : Enters Tryz.prog 46 := fun _ _ => by kernel_rfl
set_option maxRecDepth 100000 in
theorem book_ids {n : Int} {A : Option Addr} {c : Nat} {l : List Int} (hl : l.length ≤ 100000000000 ∧ n < 1000000000) (S : Sat w0 w (ownA .u32 86 A c l :: bookA b n :: R)) : Calls Tryz.prog 46 #[.pointer (some ⟨b, 0, none⟩), .slice A l.length c] w fun e w' => e = .returned (.tuple #[]) ∧ Sat w0 w' (bookA b (n + 1) :: R) := by
  have hm := S.own.2
  obtain ⟨Ab, cb, hb, Ai, ci, hi, hok, S⟩ := Sat.ofBook (S.frontAt 1 rfl)
  obtain ⟨k1, k2, k3, k4⟩ := hok
  simp only at k1 k2 k3
  have S : Sat w0 w (stA 44 b (bkC n ((Ab, cb, hb), (Ai, ci, hi))) :: rvA 246 3 Ab cb hb.length (hdsV hb) :: (hb.map (hdA .u8 5) ++ (rvA 249 3 Ai ci hi.length (hdsV hi) :: (hi.map (hdA .u32 86) ++ (ownA .u32 86 A c l :: R))))) := S
  have S := two_swap S
  have S : Sat w0 w (ownA .u32 86 A c l :: stA 44 b (bkC n ((Ab, cb, hb), (Ai, ci, hi))) :: rvA 249 3 Ai ci hi.length (hdsV hi) :: (hi.map (hdA .u32 86) ++ (rvA 246 3 Ab cb hb.length (hdsV hb) :: (hb.map (hdA .u8 5) ++ R)))) := by
    refine S.perm ?_
    generalize hb.map (hdA .u8 5) = X
    generalize hi.map (hdA .u32 86) = Y
    generalize stA 44 b (bkC n ((Ab, cb, hb), (Ai, ci, hi))) = s1
    generalize rvA 246 3 Ab cb hb.length (hdsV hb) = s2
    generalize rvA 249 3 Ai ci hi.length (hdsV hi) = s3
    have e1 : (s1 :: s3 :: (Y ++ (s2 :: (X ++ (ownA .u32 86 A c l :: R))))) = ([s1, s3] ++ Y ++ [s2] ++ X) ++ (ownA .u32 86 A c l :: R) := by simp
    have e2 : (s1 :: s3 :: (Y ++ (s2 :: (X ++ R)))) = ([s1, s3] ++ Y ++ [s2] ++ X) ++ R := by simp
    rw [e1, e2]
    exact List.perm_middle
  refine calls_start (N := 7) [.pointer (some ⟨b, 0, none⟩), .slice A l.length c] Tryz.func46 rfl rfl rfl (vok_c rfl (vok_c (vok_sl hm) rfl)) fun a fr => ?_
  skip; (repeat (with_reducible refine wp_seq ?_)); refine wp_region_lit ?_
  refine wl_run orcId_ok 2 rfl fr fun a fr => ?_
  refine wl_call fr rfl rfl rfl rfl enKeepId (keepId_call (r := (A, c, l)) hm ⟨by omega, by omega⟩ rfl rfl (by omega) S) ?_
  rintro _ w2 ⟨A', c', rfl, S⟩
  refine ⟨_, rfl, rfl, fun a fr => ?_⟩
  refine wpList_nil ?_; (repeat (with_reducible refine then_n ?_))
  refine end_ret ?_
  refine ret0 fr rfl ?_
  refine ⟨rfl, ?_⟩
  have S : Sat w0 w2 (ownA .u32 86 A c l :: stA 44 b (bkC (n + 1) ((Ab, cb, hb), (A', c', hi ++ [(⟨A, c, l, none, n + 1⟩ : Hd)]))) :: rvA 249 3 A' c' (hi ++ [(⟨A, c, l, none, n + 1⟩ : Hd)]).length (hdsV (hi ++ [(⟨A, c, l, none, n + 1⟩ : Hd)])) :: (hi.map (hdA .u32 86) ++ (rvA 246 3 Ab cb hb.length (hdsV hb) :: (hb.map (hdA .u8 5) ++ R)))) := by
    have e : (hi ++ [(⟨A, c, l, none, n + 1⟩ : Hd)]).length = hi.length + 1 := by simp
    unfold bkC
    rw [e]
    exact S
  refine Sat.toBook (Ab := Ab) (cb := cb) (hb := hb) (Ai := A') (ci := c') (hi := hi ++ [(⟨A, c, l, none, n + 1⟩ : Hd)]) ⟨k1, fun h hh => ?_, by simp; omega, by omega⟩ (two_swap ?_)
  · rcases List.mem_append.1 hh with hh | hh
    · exact k2 h hh
    · rw [List.mem_singleton] at hh; subst hh; exact ⟨rfl, hl.1⟩
  · refine S.perm ?_
    rw [List.map_append]
    generalize hi.map (hdA .u32 86) = X
    have e3 : List.map (hdA .u32 86) [(⟨A, c, l, none, n + 1⟩ : Hd)] = [ownA .u32 86 A c l] := rfl
    rw [e3]
    refine (List.Perm.swap _ _ _).trans (List.Perm.cons _ ((List.Perm.swap _ _ _).trans (List.Perm.cons _ ?_)))
    rw [List.append_assoc]
    exact List.perm_middle.symm
theorem zeroBook : ∀ W, (zeroValue 44).run Tryz.prog W = .ok (.agg (Value.int .i64 0 :: List.replicate 12 (Value.slice none 0 0)).toArray) W := fun _ => by kernel_rfl
theorem enApart : Enters Tryz.prog 26 := fun _ _ => by kernel_rfl
set_option maxRecDepth 100000 in
set_option maxHeartbeats 1000000 in
theorem book_apart {n : Int} (S : Sat w0 w (bookA b n :: R)) : Calls Tryz.prog 26 #[.pointer (some ⟨b, 0, none⟩)] w fun e w' => e = .returned (.bool true) ∧ Sat w0 w' R := by
  obtain ⟨Ab, cb, hb, Ai, ci, hi, hok, S⟩ := Sat.ofBook S
  obtain ⟨k1, k2, k3, k4⟩ := hok
  simp only at k1 k2 k3
  obtain ⟨cells, hcs⟩ : ∃ cells, bkC n ((Ab, cb, hb), (Ai, ci, hi)) = cells := ⟨_, rfl⟩
  have c1 : cells[1]? = some (.slice Ab hb.length cb) := by rw [← hcs]; rfl
  have c2 : cells[2]? = some (.slice Ai hi.length ci) := by rw [← hcs]; rfl
  have c3 : cells[3]? = some (.slice none 0 0) := by rw [← hcs]; rfl
  have c4 : cells[4]? = some (.slice none 0 0) := by rw [← hcs]; rfl
  have c5 : cells[5]? = some (.slice none 0 0) := by rw [← hcs]; rfl
  have c6 : cells[6]? = some (.slice none 0 0) := by rw [← hcs]; rfl
  have c7 : cells[7]? = some (.slice none 0 0) := by rw [← hcs]; rfl
  have c8 : cells[8]? = some (.slice none 0 0) := by rw [← hcs]; rfl
  have c9 : cells[9]? = some (.slice none 0 0) := by rw [← hcs]; rfl
  have c10 : cells[10]? = some (.slice none 0 0) := by rw [← hcs]; rfl
  have c11 : cells[11]? = some (.slice none 0 0) := by rw [← hcs]; rfl
  have c12 : cells[12]? = some (.slice none 0 0) := by rw [← hcs]; rfl
  rw [hcs] at S
  clear hcs
  refine calls_start (N := 97) [.pointer (some ⟨b, 0, none⟩)] Tryz.func26 rfl rfl rfl (vok_c rfl rfl) fun a fr => ?_
  skip; (repeat (with_reducible refine wp_seq ?_)); refine wp_region_lit ?_
  refine wl_run orcZ_ok 1 rfl fr fun a fr => ?_
  refine wpList_nil ?_; (repeat (with_reducible refine then_n ?_))
  skip; (repeat (with_reducible refine wp_seq ?_)); refine wp_region_lit ?_
  refine wl_run orcZ_ok 1 rfl fr fun a fr => ?_
  refine wl_call fr rfl rfl rfl rfl enfillByte (fillByte_call (fun h hh => (k1 h hh).1) c1 (by omega) S) ?_
  rintro _ w ⟨rfl, S⟩
  refine ⟨_, rfl, rfl, fun a fr => ?_⟩
  refine wpList_nil ?_; (repeat (with_reducible refine then_n ?_))
  have S := two_swap S
  skip; (repeat (with_reducible refine wp_seq ?_)); refine wp_region_lit ?_
  refine wl_run orcZ_ok 1 rfl fr fun a fr => ?_
  refine wl_call fr rfl rfl rfl rfl enfillId (fillId_call (fun h hh => (k2 h hh).1) c2 (by omega) S) ?_
  rintro _ w ⟨rfl, S⟩
  refine ⟨_, rfl, rfl, fun a fr => ?_⟩
  refine wpList_nil ?_; (repeat (with_reducible refine then_n ?_))
  skip; (repeat (with_reducible refine wp_seq ?_)); refine wp_region_lit ?_
  refine wl_run orcZ_ok 1 rfl fr fun a fr => ?_
  refine wl_call fr rfl rfl rfl rfl enfillInt (fillInt_call c3 S) ?_
  rintro _ w ⟨rfl, S⟩
  refine ⟨_, rfl, rfl, fun a fr => ?_⟩
  refine wpList_nil ?_; (repeat (with_reducible refine then_n ?_))
  skip; (repeat (with_reducible refine wp_seq ?_)); refine wp_region_lit ?_
  refine wl_run orcZ_ok 1 rfl fr fun a fr => ?_
  refine wl_call fr rfl rfl rfl rfl enfillText (fillText_call c4 S) ?_
  rintro _ w ⟨rfl, S⟩
  refine ⟨_, rfl, rfl, fun a fr => ?_⟩
  refine wpList_nil ?_; (repeat (with_reducible refine then_n ?_))
  skip; (repeat (with_reducible refine wp_seq ?_)); refine wp_region_lit ?_
  refine wl_run orcZ_ok 1 rfl fr fun a fr => ?_
  refine wl_call fr rfl rfl rfl rfl enfillRow (fillRow_call c5 S) ?_
  rintro _ w ⟨rfl, S⟩
  refine ⟨_, rfl, rfl, fun a fr => ?_⟩
  refine wpList_nil ?_; (repeat (with_reducible refine then_n ?_))
  skip; (repeat (with_reducible refine wp_seq ?_)); refine wp_region_lit ?_
  refine wl_run orcZ_ok 1 rfl fr fun a fr => ?_
  refine wl_call fr rfl rfl rfl rfl enfillOp (fillOp_call c6 S) ?_
  rintro _ w ⟨rfl, S⟩
  refine ⟨_, rfl, rfl, fun a fr => ?_⟩
  refine wpList_nil ?_; (repeat (with_reducible refine then_n ?_))
  skip; (repeat (with_reducible refine wp_seq ?_)); refine wp_region_lit ?_
  refine wl_run orcZ_ok 1 rfl fr fun a fr => ?_
  refine wl_call fr rfl rfl rfl rfl enfillSpan (fillSpan_call c7 S) ?_
  rintro _ w ⟨rfl, S⟩
  refine ⟨_, rfl, rfl, fun a fr => ?_⟩
  refine wpList_nil ?_; (repeat (with_reducible refine then_n ?_))
  skip; (repeat (with_reducible refine wp_seq ?_)); refine wp_region_lit ?_
  refine wl_run orcZ_ok 1 rfl fr fun a fr => ?_
  refine wl_call fr rfl rfl rfl rfl enfillChange (fillChange_call c8 S) ?_
  rintro _ w ⟨rfl, S⟩
  refine ⟨_, rfl, rfl, fun a fr => ?_⟩
  refine wpList_nil ?_; (repeat (with_reducible refine then_n ?_))
  skip; (repeat (with_reducible refine wp_seq ?_)); refine wp_region_lit ?_
  refine wl_run orcZ_ok 1 rfl fr fun a fr => ?_
  refine wl_call fr rfl rfl rfl rfl enfillResult (fillResult_call c9 S) ?_
  rintro _ w ⟨rfl, S⟩
  refine ⟨_, rfl, rfl, fun a fr => ?_⟩
  refine wpList_nil ?_; (repeat (with_reducible refine then_n ?_))
  skip; (repeat (with_reducible refine wp_seq ?_)); refine wp_region_lit ?_
  refine wl_run orcZ_ok 1 rfl fr fun a fr => ?_
  refine wl_call fr rfl rfl rfl rfl enfillMsg (fillMsg_call c10 S) ?_
  rintro _ w ⟨rfl, S⟩
  refine ⟨_, rfl, rfl, fun a fr => ?_⟩
  refine wpList_nil ?_; (repeat (with_reducible refine then_n ?_))
  skip; (repeat (with_reducible refine wp_seq ?_)); refine wp_region_lit ?_
  refine wl_run orcZ_ok 1 rfl fr fun a fr => ?_
  refine wl_call fr rfl rfl rfl rfl enfillPart (fillPart_call c11 S) ?_
  rintro _ w ⟨rfl, S⟩
  refine ⟨_, rfl, rfl, fun a fr => ?_⟩
  refine wpList_nil ?_; (repeat (with_reducible refine then_n ?_))
  skip; (repeat (with_reducible refine wp_seq ?_)); refine wp_region_lit ?_
  refine wl_run orcZ_ok 1 rfl fr fun a fr => ?_
  refine wl_call fr rfl rfl rfl rfl enfillDeed (fillDeed_call c12 S) ?_
  rintro _ w ⟨rfl, S⟩
  refine ⟨_, rfl, rfl, fun a fr => ?_⟩
  refine wpList_nil ?_; (repeat (with_reducible refine then_n ?_))
  have S := two_swap S
  have e1 : (hb.map fillByte).length = hb.length := by simp
  have e2 : (hi.map fillId).length = hi.length := by simp
  rw [← hdsV_same hb fillByte (fun x _ => fillByte_V x), ← hdsV_same hi fillId (fun x _ => fillId_V x), ← e1, ← e2] at S
  rw [← e1] at c1
  rw [← e2] at c2
  clear e1 e2
  have f1 : ∀ h ∈ hb.map fillByte, (∀ z ∈ h.l, z = mkByte h.k) ∧ h.l.length ≤ 100000000000 := fun h hh => by
    obtain ⟨x, hx, rfl⟩ := List.mem_map.1 hh
    exact ⟨fun z hz => List.eq_of_mem_replicate hz, by show (List.replicate _ _).length ≤ _; rw [List.length_replicate]; exact (k1 x hx).2⟩
  have f2 : ∀ h ∈ hi.map fillId, (∀ z ∈ h.l, z = mkId h.k) ∧ h.l.length ≤ 100000000000 := fun h hh => by
    obtain ⟨x, hx, rfl⟩ := List.mem_map.1 hh
    exact ⟨fun z hz => List.eq_of_mem_replicate hz, by show (List.replicate _ _).length ≤ _; rw [List.length_replicate]; exact (k2 x hx).2⟩
  have g1 : ∀ h ∈ hb.map fillByte, h.g = none := fun h hh => by
    obtain ⟨x, hx, rfl⟩ := List.mem_map.1 hh
    exact (k1 x hx).1
  have g2 : ∀ h ∈ hi.map fillId, h.g = none := fun h hh => by
    obtain ⟨x, hx, rfl⟩ := List.mem_map.1 hh
    exact (k2 x hx).1
  have l1 : (hb.map fillByte).length ≤ 1000000000 := by rw [List.length_map]; omega
  have l2 : (hi.map fillId).length ≤ 1000000000 := by rw [List.length_map]; omega
  generalize hb.map fillByte = xb at S c1 f1 g1 l1
  generalize hi.map fillId = xi at S c2 f2 g2 l2
  skip; (repeat (with_reducible refine wp_seq ?_)); refine wp_region_lit ?_
  refine wl_run orcZ_ok 1 rfl fr fun a fr => ?_
  refine wl_call fr rfl rfl rfl rfl engrowByte (growByte_call g1 (fun h hh => (f1 h hh).2) c1 l1 S) ?_
  rintro _ w ⟨yb, hyb, rfl, S⟩
  refine ⟨_, rfl, rfl, fun a fr => ?_⟩
  refine wpList_nil ?_; (repeat (with_reducible refine then_n ?_))
  have S := two_swap S
  skip; (repeat (with_reducible refine wp_seq ?_)); refine wp_region_lit ?_
  refine wl_run orcZ_ok 1 rfl fr fun a fr => ?_
  refine wl_call fr rfl rfl rfl rfl engrowId (growId_call g2 (fun h hh => (f2 h hh).2) c2 l2 S) ?_
  rintro _ w ⟨yi, hyi, rfl, S⟩
  refine ⟨_, rfl, rfl, fun a fr => ?_⟩
  refine wpList_nil ?_; (repeat (with_reducible refine then_n ?_))
  skip; (repeat (with_reducible refine wp_seq ?_)); refine wp_region_lit ?_
  refine wl_run orcZ_ok 1 rfl fr fun a fr => ?_
  refine wl_call fr rfl rfl rfl rfl engrowInt (growInt_call c3 S) ?_
  rintro _ w ⟨rfl, S⟩
  refine ⟨_, rfl, rfl, fun a fr => ?_⟩
  refine wpList_nil ?_; (repeat (with_reducible refine then_n ?_))
  skip; (repeat (with_reducible refine wp_seq ?_)); refine wp_region_lit ?_
  refine wl_run orcZ_ok 1 rfl fr fun a fr => ?_
  refine wl_call fr rfl rfl rfl rfl engrowText (growText_call c4 S) ?_
  rintro _ w ⟨rfl, S⟩
  refine ⟨_, rfl, rfl, fun a fr => ?_⟩
  refine wpList_nil ?_; (repeat (with_reducible refine then_n ?_))
  skip; (repeat (with_reducible refine wp_seq ?_)); refine wp_region_lit ?_
  refine wl_run orcZ_ok 1 rfl fr fun a fr => ?_
  refine wl_call fr rfl rfl rfl rfl engrowRow (growRow_call c5 S) ?_
  rintro _ w ⟨rfl, S⟩
  refine ⟨_, rfl, rfl, fun a fr => ?_⟩
  refine wpList_nil ?_; (repeat (with_reducible refine then_n ?_))
  skip; (repeat (with_reducible refine wp_seq ?_)); refine wp_region_lit ?_
  refine wl_run orcZ_ok 1 rfl fr fun a fr => ?_
  refine wl_call fr rfl rfl rfl rfl engrowOp (growOp_call c6 S) ?_
  rintro _ w ⟨rfl, S⟩
  refine ⟨_, rfl, rfl, fun a fr => ?_⟩
  refine wpList_nil ?_; (repeat (with_reducible refine then_n ?_))
  skip; (repeat (with_reducible refine wp_seq ?_)); refine wp_region_lit ?_
  refine wl_run orcZ_ok 1 rfl fr fun a fr => ?_
  refine wl_call fr rfl rfl rfl rfl engrowSpan (growSpan_call c7 S) ?_
  rintro _ w ⟨rfl, S⟩
  refine ⟨_, rfl, rfl, fun a fr => ?_⟩
  refine wpList_nil ?_; (repeat (with_reducible refine then_n ?_))
  skip; (repeat (with_reducible refine wp_seq ?_)); refine wp_region_lit ?_
  refine wl_run orcZ_ok 1 rfl fr fun a fr => ?_
  refine wl_call fr rfl rfl rfl rfl engrowChange (growChange_call c8 S) ?_
  rintro _ w ⟨rfl, S⟩
  refine ⟨_, rfl, rfl, fun a fr => ?_⟩
  refine wpList_nil ?_; (repeat (with_reducible refine then_n ?_))
  skip; (repeat (with_reducible refine wp_seq ?_)); refine wp_region_lit ?_
  refine wl_run orcZ_ok 1 rfl fr fun a fr => ?_
  refine wl_call fr rfl rfl rfl rfl engrowResult (growResult_call c9 S) ?_
  rintro _ w ⟨rfl, S⟩
  refine ⟨_, rfl, rfl, fun a fr => ?_⟩
  refine wpList_nil ?_; (repeat (with_reducible refine then_n ?_))
  skip; (repeat (with_reducible refine wp_seq ?_)); refine wp_region_lit ?_
  refine wl_run orcZ_ok 1 rfl fr fun a fr => ?_
  refine wl_call fr rfl rfl rfl rfl engrowMsg (growMsg_call c10 S) ?_
  rintro _ w ⟨rfl, S⟩
  refine ⟨_, rfl, rfl, fun a fr => ?_⟩
  refine wpList_nil ?_; (repeat (with_reducible refine then_n ?_))
  skip; (repeat (with_reducible refine wp_seq ?_)); refine wp_region_lit ?_
  refine wl_run orcZ_ok 1 rfl fr fun a fr => ?_
  refine wl_call fr rfl rfl rfl rfl engrowPart (growPart_call c11 S) ?_
  rintro _ w ⟨rfl, S⟩
  refine ⟨_, rfl, rfl, fun a fr => ?_⟩
  refine wpList_nil ?_; (repeat (with_reducible refine then_n ?_))
  skip; (repeat (with_reducible refine wp_seq ?_)); refine wp_region_lit ?_
  refine wl_run orcZ_ok 1 rfl fr fun a fr => ?_
  refine wl_call fr rfl rfl rfl rfl engrowDeed (growDeed_call c12 S) ?_
  rintro _ w ⟨rfl, S⟩
  refine ⟨_, rfl, rfl, fun a fr => ?_⟩
  refine wpList_nil ?_; (repeat (with_reducible refine then_n ?_))
  have S := two_swap S
  have m1 := grewByte_ok f1 hyb
  have m2 := grewId_ok f2 hyi
  rw [← hyb.1] at c1 l1
  rw [← hyi.1] at c2 l2
  skip; (repeat (with_reducible refine wp_seq ?_)); refine wp_region_lit ?_
  refine wl_run orcZ_ok 1 rfl fr fun a fr => ?_
  refine wl_call fr rfl rfl rfl rfl enlookByte (lookByte_call m1 c1 l1 S) ?_
  rintro _ w ⟨rfl, S⟩
  refine ⟨_, rfl, rfl, fun a fr => ?_⟩
  have S := two_swap S
  refine wl_run orcZ_ok 2 rfl fr fun a fr => ?_
  refine wl_call fr rfl rfl rfl rfl enlookId (lookId_call m2 c2 l2 S) ?_
  rintro _ w ⟨rfl, S⟩
  refine ⟨_, rfl, rfl, fun a fr => ?_⟩
  refine wl_run orcZ_ok 3 rfl fr fun a fr => ?_
  refine wl_call fr rfl rfl rfl rfl enlookInt (lookInt_call c3 S) ?_
  rintro _ w ⟨rfl, S⟩
  refine ⟨_, rfl, rfl, fun a fr => ?_⟩
  refine wl_run orcZ_ok 3 rfl fr fun a fr => ?_
  refine wl_call fr rfl rfl rfl rfl enlookText (lookText_call c4 S) ?_
  rintro _ w ⟨rfl, S⟩
  refine ⟨_, rfl, rfl, fun a fr => ?_⟩
  refine wl_run orcZ_ok 3 rfl fr fun a fr => ?_
  refine wl_call fr rfl rfl rfl rfl enlookRow (lookRow_call c5 S) ?_
  rintro _ w ⟨rfl, S⟩
  refine ⟨_, rfl, rfl, fun a fr => ?_⟩
  refine wl_run orcZ_ok 3 rfl fr fun a fr => ?_
  refine wl_call fr rfl rfl rfl rfl enlookOp (lookOp_call c6 S) ?_
  rintro _ w ⟨rfl, S⟩
  refine ⟨_, rfl, rfl, fun a fr => ?_⟩
  refine wl_run orcZ_ok 3 rfl fr fun a fr => ?_
  refine wl_call fr rfl rfl rfl rfl enlookSpan (lookSpan_call c7 S) ?_
  rintro _ w ⟨rfl, S⟩
  refine ⟨_, rfl, rfl, fun a fr => ?_⟩
  refine wl_run orcZ_ok 3 rfl fr fun a fr => ?_
  refine wl_call fr rfl rfl rfl rfl enlookChange (lookChange_call c8 S) ?_
  rintro _ w ⟨rfl, S⟩
  refine ⟨_, rfl, rfl, fun a fr => ?_⟩
  refine wl_run orcZ_ok 3 rfl fr fun a fr => ?_
  refine wl_call fr rfl rfl rfl rfl enlookResult (lookResult_call c9 S) ?_
  rintro _ w ⟨rfl, S⟩
  refine ⟨_, rfl, rfl, fun a fr => ?_⟩
  refine wl_run orcZ_ok 3 rfl fr fun a fr => ?_
  refine wl_call fr rfl rfl rfl rfl enlookMsg (lookMsg_call c10 S) ?_
  rintro _ w ⟨rfl, S⟩
  refine ⟨_, rfl, rfl, fun a fr => ?_⟩
  refine wl_run orcZ_ok 3 rfl fr fun a fr => ?_
  refine wl_call fr rfl rfl rfl rfl enlookPart (lookPart_call c11 S) ?_
  rintro _ w ⟨rfl, S⟩
  refine ⟨_, rfl, rfl, fun a fr => ?_⟩
  refine wl_run orcZ_ok 3 rfl fr fun a fr => ?_
  refine wl_call fr rfl rfl rfl rfl enlookDeed (lookDeed_call c12 S) ?_
  rintro _ w ⟨rfl, S⟩
  refine ⟨_, rfl, rfl, fun a fr => ?_⟩
  refine wl_run orcZ_ok 2 rfl fr fun a fr => ?_
  refine wpList_nil ?_; (repeat (with_reducible refine then_n ?_))
  refine wp_ret ?_
  refine ret1 fr rfl rfl ?_
  refine ⟨rfl, ?_⟩
  have S := Sat.lasts (yi.map (hdA .u32 86)) S.tl.tl
  exact Sat.lasts (yb.map (hdA .u8 5)) S.tl
end
end Go.Proofs.YticnjkdaccacaaaGreatDoor.Sx
end
section
namespace Go.Proofs.YticnjkdaccacaaaGreatDoor.Sx
open Go Go.RowKit Base _root_.Go.Proofs.YticnjkdaccacaaaGreatDoor.Own
theorem rs_get {α : Type} [Inhabited α] {r : Rdr α} {w : World} {A : Option Addr} {l : List α} (h : Rdr.Row r w A l) {i : Int} (hi : 0 ≤ i ∧ i < (l.length : Int)) :
    ∃ cs, r.R w cs (l.getD i.toNat default) ∧ ∃ ad, A = some ad ∧ ∀ j u, cs[j]? = some u → w.cell? (ad.add (i.toNat * r.sz + j)) = some u := by
  obtain ⟨j, rfl⟩ : ∃ j : Nat, i = j := ⟨i.toNat, by omega⟩
  have hj : j < l.length := by omega
  obtain ⟨ad, e, _, h2⟩ := h (by intro e; rw [e] at hj; exact absurd hj (Nat.not_lt_zero _))
  obtain ⟨c, h3, h4⟩ := h2 j _ (List.getElem?_eq_getElem hj)
  have hg : l.getD j default = l[j] := by rw [List.getD_eq_getElem?_getD, List.getElem?_eq_getElem hj]; rfl
  rw [Int.toNat_natCast, hg]
  exact ⟨c, h3, ad, e, h4⟩
theorem rs_facts {α : Type} {r : Rdr α} {w : World} {A : Option Addr} {l : List α} (h : Rdr.Row r w A l) : ∀ x ∈ l, ∃ cs, r.R w cs x := fun x hx => by
  obtain ⟨i, hi, rfl⟩ := List.getElem_of_mem hx
  obtain ⟨ad, e, _, h2⟩ := h (by intro e; rw [e] at hi; exact absurd hi (Nat.not_lt_zero _))
  obtain ⟨c, h3, _⟩ := h2 i _ (List.getElem?_eq_getElem hi)
  exact ⟨c, h3⟩
section
variable {P : Program} {T : Orc} {ops : Array Oper} {Q : Exit → Act → World → Prop} {S' : World → Prop} {Df : List Deferred} {N : Nat} {a : Act} {w w0 : World} {L : Env} {R : List Asn}
theorem ldagg_at (hT : T.Ok P) (fr : FrD Df N a L) {o : Oper} {t : TypeId} {x : Operand} (ho : o.op = .load t x) {ad : Addr} {cs : List Value} {d : TypeDesc} (hx : ev L x = some (.pointer (some ad))) (ht : T.ty.lookup t = some d) (hd : aggD d = true) (hs : T.sz.lookup t = some cs.length)
    (hc : ∀ j u, cs[j]? = some u → w.cell? (ad.add j) = some u) : (execOp a.eval o).run P w = .ok (.value (.agg cs.toArray)) w := by
  have hld := run_loadCells_list (P := P) w ad cs hc
  unfold execOp
  simp only [ho, (fr.ev hx).1, Instr.loadAt, Instr.sureAddr, loadVar]
  simp [isAgg_run (hT.und ht), hd, size_run hT hs, hld]
theorem vok_agl {cs : List Value} (h : ∀ v ∈ cs, vok1 v = true) : vok (.agg cs.toArray) = true := by
  simp only [vok, vokC, List.all_eq_true]
  exact h
theorem wl_ldrs (hT : T.Ok P) {o1 o2 : Oper} {rest : List Oper} {t te : TypeId} {x ix : Operand} {d1 d2 : Nat} {n c e z : Nat} {A : Option Addr} {ki : IntKind} {i : Int} {de : TypeDesc} {cs : List Value}
    (hr : ∃ ad, A = some ad ∧ ∀ j u, cs[j]? = some u → w.cell? (ad.add (i.toNat * z + j)) = some u) (hv : vok (.agg cs.toArray) = true) (fr : FrD Df N a L) (hw : wantL ops L o1 = some true) (ho1 : o1.op = .indexAddr t x ix) (hd1 : o1.dst = some d1) (hw2 : wantL ops L o2 = some true) (ho2 : o2.op = .load te (.tmp d1)) (hd2 : o2.dst = some d2) (hl1 : Nat.blt d1 N = true) (hl2 : Nat.blt d2 N = true)
    (hx : ev L x = some (.slice A n c)) (hi : ev L ix = some (.int ki i)) (ht : T.ty.lookup t = some (.slice e)) (hs : T.sz.lookup e = some z) (hte : T.ty.lookup te = some de) (hde : aggD de = true) (hse : T.sz.lookup te = some cs.length) (hf : L.lookup d1 = none) (hb : 0 ≤ i ∧ i < (n : Int))
    (h : ∀ a', FrD Df N a' ((d2, .agg cs.toArray) :: L) → wpList P ops Q rest a' w) : wpList P ops Q (o1 :: o2 :: rest) a w := by
  obtain ⟨ad, rfl, hc⟩ := hr
  refine wl_val fr hw hd1 hl1 (indexAddr_run hT fr ho1 hx hi ht hs hb.1 hb.2 w) rfl fun a1 fr1 => ?_
  exact wl_val fr1 (want_skip hw2 hf) hd2 hl2 (ldagg_at hT fr1 ho2 (by show ((d1, _) :: L).lookup d1 = _; rw [lookup_cons, if_pos rfl]) hte hde hse (fun j u hu => by rw [add_add]; exact hc j u hu)) hv fun a2 fr2 => h a2 (fr2.skip2 hf)
theorem mid_run (hT : T.Ok P) (fr : FrD Df N a L) {o : Oper} {t : TypeId} {x y z : Operand} (ho : o.op = .slice t x (some y) (some z) none) {A : Option Addr} {n c e : Nat} {k1 k2 : IntKind} {i j : Int} (hx : ev L x = some (.slice A n c)) (hy : ev L y = some (.int k1 i)) (hz : ev L z = some (.int k2 j))
    (ht : T.ty.lookup t = some (.slice e)) (hi : (P.info? e).map (·.size) = some 1) (hb : (0 ≤ i ∧ i ≤ j) ∧ j ≤ (c : Int)) (w : World) : (execOp a.eval o).run P w = .ok (.value (.slice (dropA A c i.toNat) (j.toNat - i.toNat) (c - i.toNat))) w := by
  refine slice_run hT fr ho hx (vlo := some (.int k1 i)) (vhi := some (.int k2 j)) (vmx := none) (by simp [(fr.ev hy).1]) (by simp [(fr.ev hz).1]) rfl ht (fun w => ?_) w
  exact sl_mid t e k1 k2 (hT.und ht) hi A n c i.toNat j.toNat i j (by omega) (by omega) (by omega) (by omega) w
theorem wl_mid (hT : T.Ok P) {o : Oper} {rest : List Oper} {t : TypeId} {x y z : Operand} {d : Nat} {A : Option Addr} {l : List Int} {n c e : Nat} {k1 k2 : IntKind} {i j : Int} (fr : FrD Df N a L) (hw : wantL ops L o = some true) (ho : o.op = .slice t x (some y) (some z) none) (hd : o.dst = some d) (hlt : Nat.blt d N = true)
    (hx : ev L x = some (.slice A n c)) (hy : ev L y = some (.int k1 i)) (hz : ev L z = some (.int k2 j)) (ht : T.ty.lookup t = some (.slice e)) (hi : (P.info? e).map (·.size) = some 1) (hn : n = l.length) (hb : (0 ≤ i ∧ i ≤ j) ∧ j ≤ (l.length : Int))
    (h : ∀ a', FrD Df N a' ((d, .slice (dropA A c i.toNat) ((l.take j.toNat).drop i.toNat).length (c - i.toNat)) :: L) → wpList P ops Q rest a' w) : wpList P ops Q (o :: rest) a w := by
  subst hn
  have hs := fr.ev hx
  have hc : l.length ≤ c ∧ c ≤ maxLen := by simpa [vok, vokC, vok1] using hs.2
  have e : ((l.take j.toNat).drop i.toNat).length = j.toNat - i.toNat := by rw [List.length_drop, List.length_take]; omega
  rw [e] at h
  exact wl_val fr hw hd hlt (mid_run hT fr ho hx hy hz ht hi ⟨hb.1, by omega⟩ w) (vok_sl ⟨by omega, by omega⟩) h
end
end Go.Proofs.YticnjkdaccacaaaGreatDoor.Sx
end
section
namespace Go.Proofs.YticnjkdaccacaaaGreatDoor.Sx
open Go Go.RowKit Base _root_.Go.Proofs.YticnjkdaccacaaaGreatDoor.Own
theorem btsF_wf {l : List Int} (h : ∀ z ∈ l, 0 ≤ z ∧ z < 256) : ∀ z ∈ l, (Lit.int .u8 z).wf = true := fun z hz => by
  have := h z hz
  rw [wf_int]
  have h1 : IntKind.u8.min = 0 := by decide
  have h2 : IntKind.u8.max = 255 := by decide
  omega
section
variable {P : Program} {T : Orc} {ops : Array Oper} {Q : Exit → Act → World → Prop} {S' : World → Prop} {Df : List Deferred} {N : Nat} {a : Act} {w w0 : World} {L : Env}
theorem conv2_run {src dst e : TypeId} (hs : P.underlying src = some (.slice e)) (he : P.underlying e = some (.int .u8)) (hdt : P.underlying dst = some .string) {A : Option Addr} {n c : Nat} {l : List Int} (rk : Rk .u8 w A l) (fr : FrD Df N a L) {o : Oper} {x : Operand} (ho : o.op = .convert src dst x) (hx : ev L x = some (.slice A n c)) (hn : n = l.length) :
    (execOp a.eval o).run P w = .ok (.value (.string (strOfNums l))) w := by
  have h := Same.conv_str P w src e hs he A n c l hn.symm rk.rd dst hdt
  unfold execOp
  simp only [ho, (fr.ev hx).1]
  rw [Sem.run_bind, h]; rfl
theorem sl_convq {src dst e : TypeId} (hs : P.underlying src = some (.slice e)) (he : P.underlying e = some (.int .u8)) (hdt : P.underlying dst = some .string) {s : SOp} {rest : List Itm} {x : Operand} {d : Nat} {A : Option Addr} {n c : Nat} {l : List Int} (hr : ∀ w, S' w → Rk .u8 w A l) (fr : FrD Df N a L) (hw : wantS L s = some true) (hq : s.q = true) (ho : s.op = .convert src dst x) (hd : s.dst = some d) (hlt : Nat.blt d N = true) (hx : ev L x = some (.slice A n c)) (hn : n = l.length)
    (h : ∀ a', FrD Df N a' ((d, .string (strOfNums l)) :: L) → SL P Q S' rest a' w) : SL P Q S' (.one s :: rest) a w :=
  sl_q fr hw hq hd hlt (fun w' hS' => conv2_run hs he hdt (hr w' hS') fr (o := s.oper) ho hx hn) rfl h
end
def putR (l : List Int) : List Int := if l.length ≤ 16384 then Frames.put l else []
def putE (l : List Int) : Int := if l.length ≤ 16384 then 0 else 3
def getR (b : List Int) : List Int := match Frames.get b with | none => [] | some p => p.1
def getN (b : List Int) : Int := match Frames.get b with | none => 0 | some p => (p.2 : Int)
def getE (b : List Int) : Int := match Frames.get b with | none => 4 | some _ => 0
section
variable {w w0 : World} {R : List Asn}
theorem vok_t2 {A : Option Addr} {n c : Nat} {x : Int} (h : vok (.slice A n c) = true) (hx : (Lit.int .i64 x).wf = true) : vok (.tuple #[.slice A n c, .int .i64 x]) = true := by
  show [_, _].all vokC = true
  have h1 : vokC (.slice A n c) = true := h
  have h2 : vokC (.int .i64 x) = true := hx
  rw [List.all_cons, h1, List.all_cons, h2]; rfl
theorem vok_t3 {A : Option Addr} {n c : Nat} {x y : Int} (h : vok (.slice A n c) = true) (hx : (Lit.int .i64 x).wf = true) (hy : (Lit.int .i64 y).wf = true) : vok (.tuple #[.slice A n c, .int .i64 x, .int .i64 y]) = true := by
  show [_, _, _].all vokC = true
  have h1 : vokC (.slice A n c) = true := h
  have h2 : vokC (.int .i64 x) = true := hx
  have h3 : vokC (.int .i64 y) = true := hy
  rw [List.all_cons, h1, List.all_cons, h2, List.all_cons, h3]; rfl
theorem fput_call {A : Option Addr} {c : Nat} {l : List Int} (rk : Rk .u8 w A l) (hl : l.length ≤ 1000000000) (S : Sat w0 w R) :
    Calls Tryz.prog 124 #[.slice A l.length c] w fun e w' => ∃ A' c', e = .returned (.tuple #[.slice A' (putR l).length c', .int .i64 (putE l)]) ∧ vok (.tuple #[.slice A' (putR l).length c', .int .i64 (putE l)]) = true ∧ Sat w0 w' (ownA .u8 5 A' c' (putR l) :: R) := by
  unfold putR putE
  by_cases h : l.length ≤ 16384
  · rw [if_pos h, if_pos h]
    refine (Frames.put_any A c l w h rk.bytes rk.rd).mono ?_
    rintro e w' ⟨v, rfl, h1, h2⟩
    obtain ⟨A', c', rfl, h3, h4⟩ := S.row h2 h1 (btsF_wf (Frames.put_bts rk.bytes))
    exact ⟨A', c', rfl, vok_t2 h3 rfl, h4⟩
  · rw [if_neg h, if_neg h]
    refine (Frames.put_big A l.length c w (by omega) hl).mono ?_
    rintro e w' ⟨rfl, h2⟩
    exact ⟨none, 0, rfl, rfl, (S.new h2).nilRow .u8 5⟩
theorem fget_call {A : Option Addr} {c : Nat} {b : List Int} (rk : Rk .u8 w A b) (hc : b.length ≤ c ∧ c ≤ maxLen) (hl : b.length ≤ 100000000) (S : Sat w0 w R) :
    Calls Tryz.prog 210 #[.slice A b.length c] w fun e w' => ∃ A' c', e = .returned (.tuple #[.slice A' (getR b).length c', .int .i64 (getN b), .int .i64 (getE b)]) ∧ vok (.tuple #[.slice A' (getR b).length c', .int .i64 (getN b), .int .i64 (getE b)]) = true ∧ Sat w0 w' (ownA .u8 5 A' c' (getR b) :: R) := by
  refine (Frames.get_any A c b w hl rk.bytes rk.rd hc.1).mono ?_
  rintro e w' ⟨h1, h2⟩
  unfold getR getN getE
  cases hg : Frames.get b with
  | none =>
    rw [hg] at h1
    exact ⟨none, 0, h1, rfl, (S.new h2).nilRow .u8 5⟩
  | some p =>
    obtain ⟨r, k⟩ := p
    rw [hg] at h1
    obtain ⟨v, rfl, ho⟩ := h1
    obtain ⟨g1, g2, g3, g4, g5⟩ := Frames.get_some hg
    obtain ⟨A', c', rfl, h3, h4⟩ := S.row h2 ho (fun z hz => rk.wf z (by rw [g5] at hz; exact List.mem_of_mem_drop (List.mem_of_mem_take hz)))
    refine ⟨A', c', rfl, vok_t3 h3 ?_ rfl, h4⟩
    rw [wf_int]
    have q1 : IntKind.i64.min = -9223372036854775808 := by decide
    have q2 : IntKind.i64.max = 9223372036854775807 := by decide
    show IntKind.i64.min ≤ (k : Int) ∧ (k : Int) ≤ IntKind.i64.max
    omega
theorem num_wf (n : BitVec 32) : (Lit.int .u32 (Crc.num n)).wf = true := by
  have := Crc.num_range n
  rw [wf_int]
  have h1 : IntKind.u32.min = 0 := by decide
  have h2 : IntKind.u32.max = 4294967295 := by decide
  omega
theorem of3_call {A : Option Addr} {c : Nat} {l : List Int} (rk : Rk .u8 w A l) (hl : l.length ≤ 1000000000) (S : Sat w0 w R) :
    Calls Tryz.prog 216 #[.slice A l.length c] w fun e w' => e = .returned (.int .u32 (Crc.num (Crc.on 0#32 l))) ∧ vok (.int .u32 (Crc.num (Crc.on 0#32 l))) = true ∧ Sat w0 w' R := by
  refine (Ref03.of_any A c l w (by omega) rk.bytes rk.rd).mono ?_
  rintro e w' ⟨rfl, h⟩
  subst h
  exact ⟨rfl, num_wf _, S⟩
theorem same_call {A B : Option Addr} {ca cb : Nat} {a b : List Int} (ra : Rk .u8 w A a) (rb : Rk .u8 w B b) (hl : a.length ≤ 1000000000 ∧ b.length ≤ 1000000000) (S : Sat w0 w R) :
    Calls Tryz.prog 18 #[.slice A a.length ca, .slice B b.length cb] w fun e w' => e = .returned (.bool (decide (a = b))) ∧ Sat w0 w' R :=
  (Same.sameBytes A B ca cb a b w hl.1 hl.2 ra.rd rb.rd).mono fun e w' ⟨h1, h2⟩ => ⟨h1, S.new h2⟩
end
end Go.Proofs.YticnjkdaccacaaaGreatDoor.Sx
end
