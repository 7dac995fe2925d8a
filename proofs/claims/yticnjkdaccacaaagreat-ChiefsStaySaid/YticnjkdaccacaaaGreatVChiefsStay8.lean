/- Texts of this work, one behind the other. -/
import Derived.Test.YticnjkdaccacaaaGreatVChiefsStay7
import Derived.Test.YticnjkdaccacaaaGreatProg
set_option maxRecDepth 100000
set_option maxHeartbeats 16000000
section
namespace Go.Proofs.YticnjkdaccacaaaGreat.Sx
open Go Go.RowKit Base Oq
abbrev OpT := Int × ByteArray × ByteArray × Int × Unit
abbrev PartT := Int × List OpT × Unit
def opV (x : OpT) : List Value := [.int .u8 x.1, .string x.2.1, .string x.2.2.1, .int .u32 x.2.2.2.1]
abbrev opR : Rdr OpT := Rdr.pair (Rdr.int .u8) (Rdr.pair Rdr.str (Rdr.pair Rdr.str (Rdr.pair (Rdr.int .u32) Rdr.unit)))
abbrev partR : Rdr PartT := Rdr.pair (Rdr.int .u8) (Rdr.pair (Rdr.sl opR) Rdr.unit)
structure OpW (x : OpT) : Prop where
 k : (Lit.int .u8 x.1).wf = true
 a : x.2.1.size ≤ maxLen
 b : x.2.2.1.size ≤ maxLen
 v : (Lit.int .u32 x.2.2.2.1).wf = true
theorem op_of {w : World} {cs : List Value} {x : OpT} (h : opR.R w cs x) : cs = opV x ∧ OpW x := by
 obtain ⟨c1, d1, rfl, ⟨rfl, h1⟩, c2, d2, rfl, ⟨rfl, h2⟩, c3, d3, rfl, ⟨rfl, h3⟩, c4, d4, rfl, ⟨rfl, h4⟩, h5⟩ := h
 have h5 : d4 = [] := h5
 subst h5
 exact ⟨rfl, h1, h2, h3, h4⟩
theorem opV_ok {x : OpT} (h : OpW x) : (opV x).all vok1 = true := by
 have h1 : vok1 (.int .u8 x.1) = true := h.k
 have h4 : vok1 (.int .u32 x.2.2.2.1) = true := h.v
 show (vok1 (.int .u8 x.1) && (true && (true && (vok1 (.int .u32 x.2.2.2.1) && true)))) = true
 rw [h1, h4]; rfl
theorem opV_okv {x : OpT} (h : OpW x) : (opV x).all vok = true := by
 have h1 : vok (.int .u8 x.1) = true := h.k
 have h4 : vok (.int .u32 x.2.2.2.1) = true := h.v
 show (vok (.int .u8 x.1) && (true && (true && (vok (.int .u32 x.2.2.2.1) && true)))) = true
 rw [h1, h4]; rfl
def spanV (f t : ByteArray) : List Value := [.string f, .string t]
def orcP : Orc := ⟨[(3, .int .i64), (4, .bool), (5, .int .u8), (31, .int .u32), (9, .string), (102, .int .u8), (104, .struct #[Go.Field.mk "Kind" 102 0 false "" "" 0, Go.Field.mk "Key" 9 1 false "" "" 8, Go.Field.mk "To" 9 2 false "" "" 24, Go.Field.mk "Value" 31 3 false "" "" 40]), (141, .struct #[Go.Field.mk "From" 9 0 false "" "" 0, Go.Field.mk "To" 9 1 false "" "" 16]), (39, .struct #[Go.Field.mk "Site" 5 0 false "" "" 0, Go.Field.mk "Ops" 37 1 false "" "" 8]), (37, .slice 104), (22, .slice 39)],
 [(3, 1), (4, 1), (5, 1), (31, 1), (9, 1), (102, 1), (104, 4), (141, 2), (39, 2), (37, 1), (22, 1)]⟩
theorem oP_ : orcP.Ok Tryz.prog := ⟨⟨Tryz.underlying3, Tryz.underlying4, Tryz.underlying5, Tryz.underlying31, Tryz.underlying9, Tryz.underlying102, Tryz.underlying104, Tryz.underlying141, Tryz.underlying39, Tryz.underlying37, Tryz.underlying22, trivial⟩, ⟨by kernel_rfl, by kernel_rfl, by kernel_rfl, by kernel_rfl, by kernel_rfl, by kernel_rfl, by kernel_rfl, by kernel_rfl, by kernel_rfl, by kernel_rfl, by kernel_rfl, trivial⟩⟩
theorem enRowCheck : Enters Tryz.prog 62 := fun _ _ => by kernel_rfl
theorem enSpanOf : Enters Tryz.prog 64 := fun _ _ => by kernel_rfl
theorem enMeet : Enters Tryz.prog 63 := fun _ _ => by kernel_rfl
theorem enReserved : Enters Tryz.prog 65 := fun _ _ => by kernel_rfl
theorem enPlan1 : Enters Tryz.prog 61 := fun _ _ => by kernel_rfl
theorem enIdxOp : Enters Tryz.prog 90 := fun _ _ => by kernel_rfl
theorem enContOp : Enters Tryz.prog 66 := fun _ _ => by kernel_rfl
theorem enPlanCheck : Enters Tryz.prog 32 := fun _ _ => by kernel_rfl
def toOk (x : OpT) : Bool := if x.1 == 4 then keyOk x.2.2.1 else x.2.2.1.toList == ByteArray.empty.toList
def rowOk (x : OpT) : Bool := decide (x.1 ≥ 1) && (decide (x.1 ≤ 4) && (keyOk x.2.1 && (toOk x && (x.2.2.2.1 == 0 || x.1 == 2))))
section
variable {w w0 : World} {R : List Asn}
theorem rowcheck_call {x : OpT} (hx : OpW x) (S : Sat w0 w R) : Calls Tryz.prog 62 #[.agg (opV x).toArray] w fun e w' => e = .returned (.bool (rowOk x)) ∧ Sat w0 w' R := by
 refine calls_start (N := 39) [.agg (opV x).toArray] Tryz.func62 rfl rfl rfl (vok_c (opV_ok hx) rfl) fun a fr => ?_
 refine r_ rfl ?_
 refine wl_boxs fr rfl rfl rfl rfl rfl (opV_okv hx) S ?_
 intro w1 b S a fr
 have S : Sat w0 w1 (stA 104 b [.int .u8 x.1, .string x.2.1, .string x.2.2.1, .int .u32 x.2.2.2.1] :: R) := S
 (repeat (first | refine wl_run oP_ 1 rfl fr fun a fr => ?_ | refine wl_ldf oP_ (Sat.stAt S 0 rfl rfl) fr rfl rfl rfl rfl rfl rfl rfl fun a fr => ?_))
 refine er_ rfl rfl ?_
 (repeat (first | refine wl_run oP_ 1 rfl fr fun a fr => ?_ | refine wl_ldf oP_ (Sat.stAt S 0 rfl rfl) fr rfl rfl rfl rfl rfl rfl rfl fun a fr => ?_))
 refine er_ rfl rfl ?_
 (repeat (first | refine wl_run oP_ 1 rfl fr fun a fr => ?_ | refine wl_ldf oP_ (Sat.stAt S 0 rfl rfl) fr rfl rfl rfl rfl rfl rfl rfl fun a fr => ?_))
 first | refine e_ ?_ | refine wpList_nil ?_
 refine cw_at (fun a w2 => Fr 39 a [(1, .pointer (some ⟨b, 0, none⟩)), (3, .bool (toOk x))] ∧ Sat w0 w2 (stA 104 b [.int .u8 x.1, .string x.2.1, .string x.2.2.1, .int .u32 x.2.2.2.1] :: R)) ?_ ?_
 ·refine bs 9 fr rfl (fun h1 fr => ?_) (fun h1 fr => ?_)
  ·refine cw_t fr rfl ?_
   refine r_ rfl ?_
   (repeat (first | refine wl_run oP_ 1 rfl fr fun a fr => ?_ | refine wl_ldf oP_ (Sat.stAt S 0 rfl rfl) fr rfl rfl rfl rfl rfl rfl rfl fun a fr => ?_))
   refine wl_call fr rfl rfl rfl rfl enKeyCheck (keycheck_call hx.b S) ?_
   rintro _ w2 ⟨rfl, S⟩
   refine ⟨_, rfl, rfl, fun a fr => ?_⟩
   (repeat (first | refine wl_run oP_ 1 rfl fr fun a fr => ?_ | refine wl_ldf oP_ (Sat.stAt S 0 rfl rfl) fr rfl rfl rfl rfl rfl rfl rfl fun a fr => ?_))
   first | refine e_ ?_ | refine wpList_nil ?_
   have fr := fr.spell (d := 3) rfl (show Value.bool (keyOk x.2.2.1) = Value.bool (toOk x) by unfold toOk; rw [h1]; rfl)
   exact ⟨fr.sub ⟨rfl, rfl, trivial⟩, S⟩
  ·refine cw_f fr rfl ?_
   refine wp_skip ?_
   repeat with_reducible refine then_n ?_
   have fr := fr.spell (d := 3) rfl (show Value.bool (x.2.2.1.toList == ByteArray.empty.toList) = Value.bool (toOk x) by unfold toOk; rw [h1]; rfl)
   exact ⟨fr.sub ⟨rfl, rfl, trivial⟩, S⟩
 clear fr S
 rintro a w2 ⟨fr, S⟩
 have key : ∀ {a : Act} {w2 : World} {L : Env} {r : Bool}, FrD [] 39 a L → L.lookup 2 = some (.bool r) → r = rowOk x → Sat w0 w2 (stA 104 b [.int .u8 x.1, .string x.2.1, .string x.2.2.1, .int .u32 x.2.2.2.1] :: R) → bodyPost Tryz.prog Tryz.f62 (fun e w' => e = .returned (.bool (rowOk x)) ∧ Sat w0 w' R) .ret a w2 := by
  intro a w2 L r fr hl hr S
  subst hr
  exact ret1 fr rfl hl ⟨rfl, S.tl⟩
 refine r_ rfl ?_
 (repeat (first | refine wl_run oP_ 1 rfl fr fun a fr => ?_ | refine wl_ldf oP_ (Sat.stAt S 0 rfl rfl) fr rfl rfl rfl rfl rfl rfl rfl fun a fr => ?_))
 refine bs 16 fr rfl (fun h1 fr => ?_) (fun h1 fr => ?_)
 rotate_left
 ·(repeat (first | refine wl_run oP_ 1 rfl fr fun a fr => ?_ | refine wl_ldf oP_ (Sat.stAt S 0 rfl rfl) fr rfl rfl rfl rfl rfl rfl rfl fun a fr => ?_))
  first | refine e_ ?_ | refine wpList_nil ?_
  refine wp_ret ?_
  exact key fr rfl (by unfold rowOk; rw [h1]; rfl) S
 (repeat (first | refine wl_run oP_ 1 rfl fr fun a fr => ?_ | refine wl_ldf oP_ (Sat.stAt S 0 rfl rfl) fr rfl rfl rfl rfl rfl rfl rfl fun a fr => ?_))
 refine bs 21 fr rfl (fun h2 fr => ?_) (fun h2 fr => ?_)
 rotate_left
 ·(repeat (first | refine wl_run oP_ 1 rfl fr fun a fr => ?_ | refine wl_ldf oP_ (Sat.stAt S 0 rfl rfl) fr rfl rfl rfl rfl rfl rfl rfl fun a fr => ?_))
  first | refine e_ ?_ | refine wpList_nil ?_
  refine wp_ret ?_
  exact key fr rfl (by unfold rowOk; rw [h1, h2]; rfl) S
 (repeat (first | refine wl_run oP_ 1 rfl fr fun a fr => ?_ | refine wl_ldf oP_ (Sat.stAt S 0 rfl rfl) fr rfl rfl rfl rfl rfl rfl rfl fun a fr => ?_))
 refine wl_call fr rfl rfl rfl rfl enKeyCheck (keycheck_call hx.a S) ?_
 rintro _ w3 ⟨rfl, S⟩
 refine ⟨_, rfl, rfl, fun a fr => ?_⟩
 (repeat (first | refine wl_run oP_ 1 rfl fr fun a fr => ?_ | refine wl_ldf oP_ (Sat.stAt S 0 rfl rfl) fr rfl rfl rfl rfl rfl rfl rfl fun a fr => ?_))
 refine bs 26 fr rfl (fun h3 fr => ?_) (fun h3 fr => ?_)
 rotate_left
 ·(repeat (first | refine wl_run oP_ 1 rfl fr fun a fr => ?_ | refine wl_ldf oP_ (Sat.stAt S 0 rfl rfl) fr rfl rfl rfl rfl rfl rfl rfl fun a fr => ?_))
  first | refine e_ ?_ | refine wpList_nil ?_
  refine wp_ret ?_
  exact key fr rfl (by unfold rowOk; rw [h1, h2, h3]; rfl) S
 (repeat (first | refine wl_run oP_ 1 rfl fr fun a fr => ?_ | refine wl_ldf oP_ (Sat.stAt S 0 rfl rfl) fr rfl rfl rfl rfl rfl rfl rfl fun a fr => ?_))
 refine bs 29 fr rfl (fun h4 fr => ?_) (fun h4 fr => ?_)
 rotate_left
 ·(repeat (first | refine wl_run oP_ 1 rfl fr fun a fr => ?_ | refine wl_ldf oP_ (Sat.stAt S 0 rfl rfl) fr rfl rfl rfl rfl rfl rfl rfl fun a fr => ?_))
  first | refine e_ ?_ | refine wpList_nil ?_
  refine wp_ret ?_
  exact key fr rfl (by unfold rowOk; rw [h1, h2, h3, h4]; rfl) S
 (repeat (first | refine wl_run oP_ 1 rfl fr fun a fr => ?_ | refine wl_ldf oP_ (Sat.stAt S 0 rfl rfl) fr rfl rfl rfl rfl rfl rfl rfl fun a fr => ?_))
 refine bs 33 fr rfl (fun h5 fr => ?_) (fun h5 fr => ?_)
 ·(repeat (first | refine wl_run oP_ 1 rfl fr fun a fr => ?_ | refine wl_ldf oP_ (Sat.stAt S 0 rfl rfl) fr rfl rfl rfl rfl rfl rfl rfl fun a fr => ?_))
  first | refine e_ ?_ | refine wpList_nil ?_
  refine wp_ret ?_
  exact key fr rfl (by unfold rowOk; rw [h1, h2, h3, h4, h5]; rfl) S
 (repeat (first | refine wl_run oP_ 1 rfl fr fun a fr => ?_ | refine wl_ldf oP_ (Sat.stAt S 0 rfl rfl) fr rfl rfl rfl rfl rfl rfl rfl fun a fr => ?_))
 first | refine e_ ?_ | refine wpList_nil ?_
 refine wp_ret ?_
 exact key fr rfl (by unfold rowOk; rw [h1, h2, h3, h4, h5]; rfl) S
def opTo (x : OpT) : ByteArray := if x.1 != 4 then x.2.1 else x.2.2.1
theorem of_call {x : OpT} (hx : OpW x) (S : Sat w0 w R) : Calls Tryz.prog 64 #[.agg (opV x).toArray] w fun e w' => e = .returned (.agg (spanV x.2.1 (opTo x)).toArray) ∧ Sat w0 w' R := by
 refine calls_start (N := 14) [.agg (opV x).toArray] Tryz.func64 rfl rfl rfl (vok_c (opV_ok hx) rfl) fun a fr => ?_
 refine r_ rfl ?_
 refine wl_boxs fr rfl rfl rfl rfl rfl (opV_okv hx) S ?_
 intro w1 b S a fr
 have S : Sat w0 w1 (stA 104 b [.int .u8 x.1, .string x.2.1, .string x.2.2.1, .int .u32 x.2.2.2.1] :: R) := S
 refine wl_allocg (zs := [.string ByteArray.empty, .string ByteArray.empty]) fr rfl rfl rfl rfl (fun _ => by kernel_rfl) rfl S ?_
 intro w2 g S a fr
 refine er_ rfl rfl ?_
 (repeat (first | refine wl_run oP_ 1 rfl fr fun a fr => ?_ | refine wl_ldf oP_ (Sat.stAt S 0 rfl rfl) fr rfl rfl rfl rfl rfl rfl rfl fun a fr => ?_ | refine wl_ldf oP_ (Sat.stAt S 1 rfl rfl) fr rfl rfl rfl rfl rfl rfl rfl fun a fr => ?_))
 first | refine e_ ?_ | refine wpList_nil ?_
 refine cw_at (fun a w2 => ∃ _k : Value, Fr 14 a [(1, .pointer (some ⟨b, 0, none⟩)), (2, .pointer (some ⟨g, 0, none⟩))] ∧ Sat w0 w2 (stA 104 b [.int .u8 x.1, .string x.2.1, .string (opTo x), .int .u32 x.2.2.2.1] :: stA 141 g [.string ByteArray.empty, .string ByteArray.empty] :: R)) ?_ ?_
 ·refine bs 5 fr rfl (fun h1 fr => ?_) (fun h1 fr => ?_)
  ·refine cw_t fr rfl ?_
   refine r_ rfl ?_
   (repeat (first | refine wl_run oP_ 1 rfl fr fun a fr => ?_ | refine wl_ldf oP_ (Sat.stAt S 0 rfl rfl) fr rfl rfl rfl rfl rfl rfl rfl fun a fr => ?_ | refine wl_ldf oP_ (Sat.stAt S 1 rfl rfl) fr rfl rfl rfl rfl rfl rfl rfl fun a fr => ?_))
   have S : Sat w0 w2 (stA 104 b [.int .u8 x.1, .string x.2.1, .string x.2.2.1, .int .u32 x.2.2.2.1] :: stA 141 g [.string ByteArray.empty, .string ByteArray.empty] :: R) := S.frontAt 1 rfl
   refine wl_stf (j := 2) oP_ fr rfl rfl rfl rfl rfl rfl rfl rfl S rfl ?_
   intro w3 S
   first | refine e_ ?_ | refine wpList_nil ?_
   refine ⟨.bool true, fr.sub ⟨rfl, rfl, trivial⟩, ?_⟩
   have e : opTo x = x.2.1 := by unfold opTo; rw [h1]; rfl
   rw [e]
   exact S
  ·refine cw_f fr rfl ?_
   refine wp_skip ?_
   repeat with_reducible refine then_n ?_
   refine ⟨.bool true, fr.sub ⟨rfl, rfl, trivial⟩, ?_⟩
   have e : opTo x = x.2.2.1 := by unfold opTo; rw [h1]; rfl
   rw [e]
   exact S.frontAt 1 rfl
 clear fr S
 rintro a w3 ⟨-, fr, S⟩
 refine r_ rfl ?_
 (repeat (first | refine wl_run oP_ 1 rfl fr fun a fr => ?_ | refine wl_ldf oP_ (Sat.stAt S 0 rfl rfl) fr rfl rfl rfl rfl rfl rfl rfl fun a fr => ?_ | refine wl_ldf oP_ (Sat.stAt S 1 rfl rfl) fr rfl rfl rfl rfl rfl rfl rfl fun a fr => ?_))
 refine wl_build (cs := spanV x.2.1 (opTo x)) (L2 := [(0, .string x.2.1), (1, .string (opTo x))]) fr rfl rfl rfl rfl (by
   have e1 := (fr.ev (o := .tmp 10) rfl).1
   have e2 := (fr.ev (o := .tmp 12) rfl).1
   simp [e1, e2]) (by kernel_rfl) rfl fun a fr => ?_
 have S := S.frontAt 1 rfl
 refine wl_stg (cs := [.string ByteArray.empty, .string ByteArray.empty]) oP_ fr rfl rfl rfl rfl rfl rfl rfl rfl S ?_
 intro w4 S
 first | refine e_ ?_ | refine wpList_nil ?_
 refine wp_ret ?_
 refine ret1c oP_ fr rfl rfl rfl rfl rfl (fun j u hu => ?_) ⟨rfl, S.tl.tl⟩
 rw [addr0]
 have := (S.stAt 0 rfl hu).1
 rwa [addr0] at this
def rsvA : ByteArray := ⟨#[95]⟩
def rsvB : ByteArray := ⟨#[95, 122, 122, 122, 122, 122, 122, 122, 122, 122, 122, 122, 122, 122, 122, 122]⟩
theorem reserved_call (S : Sat w0 w R) : Calls Tryz.prog 65 #[] w fun e w' => e = .returned (.agg (spanV rsvA rsvB).toArray) ∧ Sat w0 w' R := by
 refine calls_start (N := 2) [] Tryz.func65 rfl rfl rfl rfl fun a fr => ?_
 refine r_ rfl ?_
 refine wl_allocg (zs := [.string ByteArray.empty, .string ByteArray.empty]) fr rfl rfl rfl rfl (fun _ => by kernel_rfl) rfl S ?_
 intro w2 g S a fr
 refine er_ rfl rfl ?_
 refine wl_build (cs := spanV rsvA rsvB) (L2 := [(0, .string rsvA), (1, .string rsvB)]) fr rfl rfl rfl rfl (by simp [Act.eval, rsvA, rsvB]) (by kernel_rfl) rfl fun a fr => ?_
 refine wl_stg (cs := [.string ByteArray.empty, .string ByteArray.empty]) oP_ fr rfl rfl rfl rfl rfl rfl rfl rfl S ?_
 intro w4 S
 first | refine e_ ?_ | refine wpList_nil ?_
 refine wp_ret ?_
 refine ret1c oP_ fr rfl rfl rfl rfl rfl (fun j u hu => ?_) ⟨rfl, S.tl⟩
 rw [addr0]
 have := (S.stAt 0 rfl hu).1
 rwa [addr0] at this
def meetS (a b c d : ByteArray) : Bool := inS (sMax a c) a b && inS (sMax a c) c d
theorem meet_call {p q r s : ByteArray} (S : Sat w0 w R) : Calls Tryz.prog 63 #[.agg (spanV p q).toArray, .agg (spanV r s).toArray] w fun e w' => e = .returned (.bool (meetS p q r s)) ∧ Sat w0 w' R := by
 refine calls_start (N := 25) [.agg (spanV p q).toArray, .agg (spanV r s).toArray] Tryz.func63 rfl rfl rfl rfl fun a fr => ?_
 refine r_ rfl ?_
 refine wl_boxs fr rfl rfl rfl rfl rfl rfl S ?_
 intro w1 b S a fr
 refine wl_boxs fr rfl rfl rfl rfl rfl rfl S ?_
 intro w2 g S a fr
 have S : Sat w0 w2 (stA 141 g [.string r, .string s] :: stA 141 b [.string p, .string q] :: R) := S
 (repeat (first | refine wl_run oP_ 1 rfl fr fun a fr => ?_ | refine wl_ldf oP_ (Sat.stAt S 0 rfl rfl) fr rfl rfl rfl rfl rfl rfl rfl fun a fr => ?_ | refine wl_ldf oP_ (Sat.stAt S 1 rfl rfl) fr rfl rfl rfl rfl rfl rfl rfl fun a fr => ?_))
 refine er_ rfl rfl ?_
 (repeat (first | refine wl_run oP_ 1 rfl fr fun a fr => ?_ | refine wl_ldf oP_ (Sat.stAt S 0 rfl rfl) fr rfl rfl rfl rfl rfl rfl rfl fun a fr => ?_ | refine wl_ldf oP_ (Sat.stAt S 1 rfl rfl) fr rfl rfl rfl rfl rfl rfl rfl fun a fr => ?_))
 refine wl_smax fr rfl rfl rfl rfl rfl rfl fun a fr => ?_
 (repeat (first | refine wl_run oP_ 1 rfl fr fun a fr => ?_ | refine wl_ldf oP_ (Sat.stAt S 0 rfl rfl) fr rfl rfl rfl rfl rfl rfl rfl fun a fr => ?_ | refine wl_ldf oP_ (Sat.stAt S 1 rfl rfl) fr rfl rfl rfl rfl rfl rfl rfl fun a fr => ?_))
 refine er_ rfl rfl ?_
 (repeat (first | refine wl_run oP_ 1 rfl fr fun a fr => ?_ | refine wl_ldf oP_ (Sat.stAt S 0 rfl rfl) fr rfl rfl rfl rfl rfl rfl rfl fun a fr => ?_ | refine wl_ldf oP_ (Sat.stAt S 1 rfl rfl) fr rfl rfl rfl rfl rfl rfl rfl fun a fr => ?_))
 refine wl_call fr rfl rfl rfl rfl enKeyIn in_call ?_
 rintro _ w3 ⟨rfl, rfl⟩
 refine ⟨_, rfl, rfl, fun a fr => ?_⟩
 (repeat (first | refine wl_run oP_ 1 rfl fr fun a fr => ?_ | refine wl_ldf oP_ (Sat.stAt S 0 rfl rfl) fr rfl rfl rfl rfl rfl rfl rfl fun a fr => ?_ | refine wl_ldf oP_ (Sat.stAt S 1 rfl rfl) fr rfl rfl rfl rfl rfl rfl rfl fun a fr => ?_))
 refine bs 17 fr rfl (fun h1 fr => ?_) (fun h1 fr => ?_)
 ·(repeat (first | refine wl_run oP_ 1 rfl fr fun a fr => ?_ | refine wl_ldf oP_ (Sat.stAt S 0 rfl rfl) fr rfl rfl rfl rfl rfl rfl rfl fun a fr => ?_ | refine wl_ldf oP_ (Sat.stAt S 1 rfl rfl) fr rfl rfl rfl rfl rfl rfl rfl fun a fr => ?_))
  refine wl_call fr rfl rfl rfl rfl enKeyIn in_call ?_
  rintro _ w3 ⟨rfl, rfl⟩
  refine ⟨_, rfl, rfl, fun a fr => ?_⟩
  (repeat (first | refine wl_run oP_ 1 rfl fr fun a fr => ?_ | refine wl_ldf oP_ (Sat.stAt S 0 rfl rfl) fr rfl rfl rfl rfl rfl rfl rfl fun a fr => ?_ | refine wl_ldf oP_ (Sat.stAt S 1 rfl rfl) fr rfl rfl rfl rfl rfl rfl rfl fun a fr => ?_))
  first | refine e_ ?_ | refine wpList_nil ?_
  refine wp_ret ?_
  exact ret1 fr rfl rfl ⟨by unfold meetS; rw [h1]; rfl, S.tl.tl⟩
 ·(repeat (first | refine wl_run oP_ 1 rfl fr fun a fr => ?_ | refine wl_ldf oP_ (Sat.stAt S 0 rfl rfl) fr rfl rfl rfl rfl rfl rfl rfl fun a fr => ?_ | refine wl_ldf oP_ (Sat.stAt S 1 rfl rfl) fr rfl rfl rfl rfl rfl rfl rfl fun a fr => ?_))
  first | refine e_ ?_ | refine wpList_nil ?_
  refine wp_ret ?_
  exact ret1 fr rfl rfl ⟨by unfold meetS; rw [h1]; rfl, S.tl.tl⟩
def oddOp (x : OpT) : Bool := !rowOk x || meetS x.2.1 (opTo x) rsvA rsvB
theorem odd_call {x : OpT} (hx : OpW x) (S : Sat w0 w R) : Calls Tryz.prog 61 #[.agg (opV x).toArray] w fun e w' => e = .returned (.bool (oddOp x)) ∧ Sat w0 w' R := by
 refine calls_start (N := 12) [.agg (opV x).toArray] Tryz.func61 rfl rfl rfl (vok_c (opV_ok hx) rfl) fun a fr => ?_
 refine r_ rfl ?_
 refine wl_boxs fr rfl rfl rfl rfl rfl (opV_okv hx) S ?_
 intro w1 b S a fr
 repeat refine w_ oP_ rfl fr fun a fr => ?_
 refine er_ rfl rfl ?_
 refine wl_ldsub (cs := opV x) oP_ (fun j u hu => by rw [addr0]; have := (S.stAt 0 rfl hu).1; rwa [addr0] at this) (opV_ok hx) fr rfl rfl rfl rfl rfl rfl rfl rfl fun a fr => ?_
 refine wl_call fr rfl rfl rfl rfl enRowCheck (rowcheck_call hx S) ?_
 rintro _ w2 ⟨rfl, S⟩
 refine ⟨_, rfl, rfl, fun a fr => ?_⟩
 repeat refine w_ oP_ rfl fr fun a fr => ?_
 refine bs 6 fr rfl (fun h1 fr => ?_) (fun h1 fr => ?_)
 ·repeat refine w_ oP_ rfl fr fun a fr => ?_
  first | refine e_ ?_ | refine wpList_nil ?_
  refine wp_ret ?_
  exact ret1 fr rfl rfl ⟨by unfold oddOp; rw [h1]; rfl, S.tl⟩
 ·repeat refine w_ oP_ rfl fr fun a fr => ?_
  refine wl_ldsub (cs := opV x) oP_ (fun j u hu => by rw [addr0]; have := (S.stAt 0 rfl hu).1; rwa [addr0] at this) (opV_ok hx) fr rfl rfl rfl rfl rfl rfl rfl rfl fun a fr => ?_
  refine wl_call fr rfl rfl rfl rfl enSpanOf (of_call hx S) ?_
  rintro _ w3 ⟨rfl, S⟩
  refine ⟨_, rfl, rfl, fun a fr => ?_⟩
  refine wl_call fr rfl rfl rfl rfl enReserved (reserved_call S) ?_
  rintro _ w4 ⟨rfl, S⟩
  refine ⟨_, rfl, rfl, fun a fr => ?_⟩
  refine wl_call fr rfl rfl rfl rfl enMeet (meet_call S) ?_
  rintro _ w5 ⟨rfl, S⟩
  refine ⟨_, rfl, rfl, fun a fr => ?_⟩
  repeat refine w_ oP_ rfl fr fun a fr => ?_
  first | refine e_ ?_ | refine wpList_nil ?_
  refine wp_ret ?_
  exact ret1 fr rfl rfl ⟨by unfold oddOp; rw [h1]; rfl, S.tl⟩
theorem row_get {α : Type} {r : Rdr α} {w : World} {A : Option Addr} {l : List α} (h : Rdr.Row r w A l) {i : Nat} (hi : i < l.length) :
  ∃ cs, r.R w cs l[i] ∧ ∃ ad, A = some ad ∧ ∀ j u, cs[j]? = some u → w.cell? (ad.add (i * r.sz + j)) = some u := by
 obtain ⟨ad, h1, h2, h3⟩ := h (fun e => by rw [e] at hi; simp at hi)
 obtain ⟨c, h4, h5⟩ := h3 i l[i] (List.getElem?_eq_getElem hi)
 exact ⟨c, h4, ad, h1, h5⟩
structure RdOps (w : World) (A : Option Addr) (l : List OpT) : Prop where
 none : A = none → l = []
 cell : ∀ ad, A = some ad → ∀ j u, (l.flatMap opV)[j]? = some u → w.cell? (ad.add j) = some u
theorem RdOps.some {w : World} {A : Option Addr} {l : List OpT} (h : RdOps w A l) {i : Nat} (hi : i < l.length) : ∃ ad, A = some ad := by
 cases A with
 | none => have := h.none rfl; rw [this] at hi; simp at hi
 | some ad => exact ⟨ad, rfl⟩
abbrev RawP := Int × Option Addr × Nat × List OpT
def pcV (p : RawP) : List Value := [.int .u8 p.1, .slice p.2.1 p.2.2.2.length p.2.2.1]
def partOf (p : RawP) : PartT := (p.1, p.2.2.2, ())
structure RdParts (w : World) (A : Option Addr) (ps : List RawP) : Prop where
 none : A = none → ps = []
 cell : ∀ i (hi : i < ps.length) ad, A = some ad → ∀ j u, (pcV ps[i])[j]? = some u → w.cell? (ad.add (i * 2 + j)) = some u
 ops : ∀ p ∈ ps, RdOps w p.2.1 p.2.2.2
structure PartsW (ps : List RawP) : Prop where
 k : ∀ p ∈ ps, (Lit.int .u8 p.1).wf = true
 m : ∀ p ∈ ps, p.2.2.2.length ≤ p.2.2.1 ∧ p.2.2.1 ≤ maxLen
 o : ∀ p ∈ ps, ∀ x ∈ p.2.2.2, OpW x
theorem RdParts.some {w : World} {A : Option Addr} {l : List RawP} (h : RdParts w A l) {i : Nat} (hi : i < l.length) : ∃ ad, A = some ad := by
 cases A with
 | none => have := h.none rfl; rw [this] at hi; simp at hi
 | some ad => exact ⟨ad, rfl⟩
theorem idxop_call {A : Option Addr} {c : Nat} {l : List OpT} (hr : ∀ w', Sat w0 w' R → RdOps w' A l) (hW : ∀ x ∈ l, OpW x) (hm : l.length ≤ c ∧ c ≤ maxLen) (S : Sat w0 w R) : Calls Tryz.prog 90 #[.slice A l.length c, .func (.func 61) #[] #[]] w fun e w' => ∃ r : Int, e = .returned (.int .i64 r) ∧ vok (.int .i64 r) = true ∧ (decide (r ≥ 0) = l.any oddOp) ∧ Sat w0 w' R := by
 refine calls_start (N := 19) [.slice A l.length c, .func (.func 61) #[] #[]] Tryz.func90 rfl rfl rfl (vok_c (vok_sl hm) (vok_c rfl rfl)) fun a fr => ?_
 refine r_ rfl ?_
 repeat refine w_ oP_ rfl fr fun a fr => ?_
 refine er_ rfl rfl ?_
 repeat refine w_ oP_ rfl fr fun a fr => ?_
 refine eq_ rfl rfl ?_
 refine wp_block ?_
 refine cw_loop (fun q a w2 => ∃ i : Nat, i + q = l.length + 1 ∧ i ≤ l.length ∧ (∀ j (hj : j < l.length), j < i → oddOp l[j] = false) ∧ Fr 19 a [(0, .slice A l.length c), (1, .func (.func 61) #[] #[]), (7, .int .i64 (l.length : Int)), (8, .int .i64 (i : Int))] ∧ Sat w0 w2 R) (l.length + 1)
  ⟨0, by omega, by omega, fun j _ hj => by omega, fr.sub ⟨rfl, rfl, rfl, rfl, trivial⟩, S⟩ ?_ ?_
 ·rintro a w2 ⟨i, h, h', -⟩
  omega
 clear fr S
 rintro q a w2 ⟨i, hi, hi', hno, fr, S⟩
 refine r_ rfl ?_
 repeat refine w_ oP_ rfl fr fun a fr => ?_
 first | refine e_ ?_ | refine wpList_nil ?_
 by_cases hlt : i < l.length
 rotate_left
 ·have fr := fr.bool (d := 9) rfl (decide_eq_false (show ¬ (i : Int) < (l.length : Int) by omega))
  refine q_ rfl ?_
  refine cw_f fr rfl ?_
  refine wp_exit ?_
  refine xr_ rfl rfl ?_
  repeat refine w_ oP_ rfl fr fun a fr => ?_
  first | refine e_ ?_ | refine wpList_nil ?_
  refine wp_ret ?_
  refine ret1 fr rfl rfl ⟨-1, rfl, rfl, ?_, S⟩
  have : l.any oddOp = false := List.any_eq_false.2 fun x hx => by
   obtain ⟨j, hj, rfl⟩ := List.mem_iff_getElem.1 hx
   rw [hno j hj (by omega)]; decide
  rw [this]; rfl
 have fr := fr.bool (d := 9) rfl (decide_eq_true (show (i : Int) < (l.length : Int) by omega))
 refine q_ rfl ?_
 refine cw_t fr rfl ?_
 refine wp_skip ?_
 refine q_ rfl ?_
 refine wp_block ?_
 refine r_ rfl ?_
 repeat refine w_ oP_ rfl fr fun a fr => ?_
 first | refine e_ ?_ | refine wpList_nil ?_
 have hw := hW l[i] (List.getElem_mem hlt)
 obtain ⟨ad, hA⟩ := (hr _ S).some hlt
 have hcell : ∀ j u, (opV l[i])[j]? = some u → w2.cell? (ad.add (i * 4 + j)) = some u := fun j u hu => (hr _ S).cell ad hA _ u (el_get (f := opV) (fun _ => rfl) l i j u hlt hu)
 refine r_ rfl ?_
 repeat refine w_ oP_ rfl fr fun a fr => ?_
 refine wl_ldrs oP_ (i := (i : Int)) (z := 4) ⟨ad, hA, fun j u hu => hcell j u hu⟩ (opV_ok hw) fr rfl rfl rfl rfl rfl rfl rfl rfl rfl rfl rfl rfl rfl rfl rfl rfl ⟨by omega, by omega⟩ fun a fr => ?_
 refine wl_callv fr rfl rfl rfl rfl rfl rfl rfl enPlan1 (odd_call hw S) ?_
 rintro _ w3 ⟨rfl, S⟩
 refine ⟨_, rfl, rfl, fun a fr => ?_⟩
 first | refine e_ ?_ | refine wpList_nil ?_
 refine bs 16 fr rfl (fun h1 fr => ?_) (fun h1 fr => ?_)
 ·refine q_ rfl ?_
  refine cw_t fr rfl ?_
  refine r_ rfl ?_
  repeat refine w_ oP_ rfl fr fun a fr => ?_
  first | refine e_ ?_ | refine wpList_nil ?_
  refine wp_ret ?_
  try simp only [Exit.then, Exit.inBlock]
  refine ret1 fr rfl rfl ⟨i, rfl, fr.vok (d := 4) rfl, ?_, S⟩
  have : l.any oddOp = true := List.any_eq_true.2 ⟨l[i], List.getElem_mem hlt, h1⟩
  rw [this, decide_eq_true]; omega
 ·refine q_ rfl ?_
  refine cw_f fr rfl ?_
  refine wp_skip ?_
  refine blk_n ?_
  refine r_ rfl ?_
  repeat refine w_ oP_ rfl fr fun a fr => ?_
  first | refine e_ ?_ | refine wpList_nil ?_
  have fr := fr.spell (d := 8) rfl (congrArg (Value.int .i64) (i64_next hlt (by have h9 := hm.2; unfold maxLen at h9; omega)))
  refine ⟨i + 1, by omega, by omega, fun j hj hj2 => ?_, fr.sub ⟨rfl, rfl, rfl, rfl, trivial⟩, S⟩
  by_cases he : j = i
  ·subst he; exact h1
  ·exact hno j hj (by omega)
theorem contop_call {A : Option Addr} {c : Nat} {l : List OpT} (hr : ∀ w', Sat w0 w' R → RdOps w' A l) (hW : ∀ x ∈ l, OpW x) (hm : l.length ≤ c ∧ c ≤ maxLen) (S : Sat w0 w R) : Calls Tryz.prog 66 #[.slice A l.length c, .func (.func 61) #[] #[]] w fun e w' => e = .returned (.bool (l.any oddOp)) ∧ Sat w0 w' R := by
 refine calls_start (N := 9) [.slice A l.length c, .func (.func 61) #[] #[]] Tryz.func66 rfl rfl rfl (vok_c (vok_sl hm) (vok_c rfl rfl)) fun a fr => ?_
 refine r_ rfl ?_
 repeat refine w_ oP_ rfl fr fun a fr => ?_
 refine er_ rfl rfl ?_
 repeat refine w_ oP_ rfl fr fun a fr => ?_
 refine wl_call fr rfl rfl rfl rfl enIdxOp (idxop_call hr hW hm S) ?_
 rintro _ w2 ⟨r, rfl, hv, hd, S⟩
 refine ⟨_, rfl, hv, fun a fr => ?_⟩
 repeat refine w_ oP_ rfl fr fun a fr => ?_
 first | refine e_ ?_ | refine wpList_nil ?_
 refine wp_ret ?_
 refine ret1 fr rfl rfl ⟨by rw [hd], S⟩
def badPart (last : Int) (p : PartT) : Bool := decide (p.1 ≤ last) || (decide (p.1 > 3) || (decide ((p.2.1.length : Int) < 1) || (decide ((p.2.1.length : Int) > 16) || p.2.1.any oddOp)))
def planGo : Int → List PartT → Bool
 | _, [] => true
 | last, p :: r => !badPart last p && planGo p.1 r
def planOk (l : List PartT) : Bool := planGo 0 l && decide ((l.length : Int) > 0)
theorem part_of {w : World} {cs : List Value} {x : PartT} (h : partR.R w cs x) : ∃ A c, cs = [.int .u8 x.1, .slice A x.2.1.length c] ∧ (Lit.int .u8 x.1).wf = true ∧ (x.2.1.length ≤ c ∧ c ≤ maxLen) ∧ Rdr.Row opR w A x.2.1 := by
 obtain ⟨c1, d1, rfl, ⟨rfl, h1⟩, c2, d2, rfl, ⟨A, c, rfl, h2, h3, h4⟩, h5⟩ := h
 have h5 : d2 = [] := h5
 subst h5
 exact ⟨A, c, rfl, h1, ⟨h2, h3⟩, h4⟩
theorem plancheck_call {A : Option Addr} {c : Nat} {ps : List RawP} (hr : ∀ w', Sat w0 w' R → RdParts w' A ps) (hW : PartsW ps) (hm : ps.length ≤ c ∧ c ≤ maxLen) (S : Sat w0 w R) : Calls Tryz.prog 32 #[.slice A ps.length c] w fun e w' => e = .returned (.bool (planOk (ps.map partOf))) ∧ Sat w0 w' R := by
 refine calls_start (N := 46) [.slice A ps.length c] Tryz.func32 rfl rfl rfl (vok_c (vok_sl hm) rfl) fun a fr => ?_
 refine r_ rfl ?_
 repeat refine w_ oP_ rfl fr fun a fr => ?_
 refine er_ rfl rfl ?_
 repeat refine w_ oP_ rfl fr fun a fr => ?_
 refine er_ rfl rfl ?_
 repeat refine w_ oP_ rfl fr fun a fr => ?_
 refine eq_ rfl rfl ?_
 refine wp_block ?_
 refine cw_loop (fun q a w2 => ∃ (i : Nat) (last : Int), i + q = ps.length + 1 ∧ i ≤ ps.length ∧ planGo 0 (ps.map partOf) = planGo last ((ps.drop i).map partOf) ∧ Fr 46 a [(0, .slice A ps.length c), (3, .int .u8 last), (7, .slice A ps.length c), (8, .int .i64 (ps.length : Int)), (9, .int .i64 (i : Int))] ∧ Sat w0 w2 R) (ps.length + 1)
  ⟨0, 0, by omega, by omega, rfl, fr.sub ⟨rfl, rfl, rfl, rfl, rfl, trivial⟩, S⟩ ?_ ?_
 ·rintro a w2 ⟨i, _, h, h', -⟩
  omega
 clear fr S
 rintro q a w2 ⟨i, last, hi, hi', hgo, fr, S⟩
 refine r_ rfl ?_
 repeat refine w_ oP_ rfl fr fun a fr => ?_
 first | refine e_ ?_ | refine wpList_nil ?_
 by_cases hlt : i < ps.length
 rotate_left
 ·have fr := fr.bool (d := 10) rfl (decide_eq_false (show ¬ (i : Int) < (ps.length : Int) by omega))
  refine q_ rfl ?_
  refine cw_f fr rfl ?_
  refine wp_exit ?_
  refine xr_ rfl rfl ?_
  repeat refine w_ oP_ rfl fr fun a fr => ?_
  first | refine e_ ?_ | refine wpList_nil ?_
  refine wp_ret ?_
  refine ret1 fr rfl rfl ⟨?_, S⟩
  have : planOk (ps.map partOf) = decide ((ps.length : Int) > 0) := by
   unfold planOk
   rw [hgo, List.drop_of_length_le (by omega), List.length_map]
   rfl
  rw [this]
 have fr := fr.bool (d := 10) rfl (decide_eq_true (show (i : Int) < (ps.length : Int) by omega))
 refine q_ rfl ?_
 refine cw_t fr rfl ?_
 refine wp_skip ?_
 with_reducible refine then_n ?_
 obtain ⟨ad, hA⟩ := (hr _ S).some hlt
 have hcell := (hr _ S).cell i hlt ad hA
 have hd : ps.drop i = ps[i] :: ps.drop (i + 1) := List.drop_eq_getElem_cons hlt
 rw [hd, List.map_cons] at hgo
 have hmem : ps[i] ∈ ps := List.getElem_mem hlt
 have hm' := hW.m _ hmem
 have hro : ∀ w', Sat w0 w' R → RdOps w' ps[i].2.1 ps[i].2.2.2 := fun w' S' => (hr w' S').ops _ hmem
 have hwo := hW.o _ hmem
 have hk := hW.k _ hmem
 have hxv : (pcV ps[i]).all vok1 = true := by
  simp only [pcV, List.all_cons, List.all_nil, Bool.and_true, Bool.and_eq_true]
  exact ⟨hk, vok_sl (A := ps[i].2.1) hm'⟩
 generalize ps[i] = pp at *
 obtain ⟨k1, A', c', lo⟩ := pp
 obtain ⟨x, hxx⟩ : ∃ x : PartT, x = (k1, lo, ()) := ⟨_, rfl⟩
 rw [show partOf (k1, A', c', lo) = x from hxx.symm] at hgo
 have hx1 : k1 = x.1 := by rw [hxx]
 have hx2 : lo = x.2.1 := by rw [hxx]
 subst hx1 hx2
 have hm' : x.2.1.length ≤ c' ∧ c' ≤ maxLen := hm'
 have hro : ∀ w', Sat w0 w' R → RdOps w' A' x.2.1 := hro
 have hwo : ∀ y ∈ x.2.1, OpW y := hwo
 have hk : (Lit.int .u8 x.1).wf = true := hk
 have hcell : ∀ j u, ([Value.int .u8 x.1, .slice A' x.2.1.length c'])[j]? = some u → w2.cell? (ad.add (i * 2 + j)) = some u := hcell
 have hxv : [Value.int .u8 x.1, .slice A' x.2.1.length c'].all vok1 = true := hxv
 refine q_ rfl ?_
 refine wp_block ?_
 refine r_ rfl ?_
 refine wl_ldrs (cs := [.int .u8 x.1, .slice A' x.2.1.length c']) oP_ (i := (i : Int)) (z := 2) ⟨ad, hA, fun j u hu => hcell j u hu⟩ hxv fr rfl rfl rfl rfl rfl rfl rfl rfl rfl rfl rfl rfl rfl rfl rfl rfl ⟨by omega, by omega⟩ fun a fr => ?_
 refine wl_allocg (zs := [.int .u8 0, .slice none 0 0]) fr rfl rfl rfl rfl (fun _ => by kernel_rfl) rfl S ?_
 intro w3 g S a fr
 refine wl_stg (cs := [.int .u8 0, .slice none 0 0]) (vs := [.int .u8 x.1, .slice A' x.2.1.length c']) oP_ fr rfl rfl rfl rfl rfl rfl rfl (by
  simp only [List.all_cons, List.all_nil, Bool.and_true, Bool.and_eq_true]
  exact ⟨⟨rfl, hk⟩, rfl, vok_sl (A := A') hm'⟩) S ?_
 intro w4 S
 refine er_ rfl rfl ?_
 repeat refine w_ oP_ rfl fr fun a fr => ?_
 first | refine e_ ?_ | refine wpList_nil ?_
 have bad : ∀ {a : Act} {w5 : World} {L : Env}, FrD [] 46 a L → L.lookup 2 = some (.bool false) → badPart last x = true → Sat w0 w5 (stA 39 g [.int .u8 x.1, .slice A' x.2.1.length c'] :: R) → bodyPost Tryz.prog Tryz.f32 (fun e w' => e = .returned (.bool (planOk (ps.map partOf))) ∧ Sat w0 w' R) .ret a w5 := by
  intro a w5 L fr hl hb S
  refine ret1 fr rfl hl ⟨?_, S.tl⟩
  have : planOk (ps.map partOf) = false := by
   unfold planOk
   rw [hgo]
   show ((!badPart last x && _) && _) = false
   rw [hb]; rfl
  rw [this]
 refine r_ rfl ?_
 (repeat (first | refine wl_run oP_ 1 rfl fr fun a fr => ?_ | refine wl_ldf oP_ (Sat.stAt S 0 rfl rfl) fr rfl rfl rfl rfl rfl rfl rfl fun a fr => ?_))
 refine bs 17 fr rfl (fun h1 fr => ?_) (fun h1 fr => ?_)
 ·(repeat (first | refine wl_run oP_ 1 rfl fr fun a fr => ?_ | refine wl_ldf oP_ (Sat.stAt S 0 rfl rfl) fr rfl rfl rfl rfl rfl rfl rfl fun a fr => ?_))
  refine eq_ rfl rfl ?_
  refine cw_t fr rfl ?_
  refine r_ rfl ?_
  repeat refine w_ oP_ rfl fr fun a fr => ?_
  first | refine e_ ?_ | refine wpList_nil ?_
  refine wp_ret ?_
  try simp only [Exit.then, Exit.inBlock]
  exact bad fr rfl (by unfold badPart; rw [h1]; rfl) S
 (repeat (first | refine wl_run oP_ 1 rfl fr fun a fr => ?_ | refine wl_ldf oP_ (Sat.stAt S 0 rfl rfl) fr rfl rfl rfl rfl rfl rfl rfl fun a fr => ?_))
 refine bs 22 fr rfl (fun h2 fr => ?_) (fun h2 fr => ?_)
 ·(repeat (first | refine wl_run oP_ 1 rfl fr fun a fr => ?_ | refine wl_ldf oP_ (Sat.stAt S 0 rfl rfl) fr rfl rfl rfl rfl rfl rfl rfl fun a fr => ?_))
  refine eq_ rfl rfl ?_
  refine cw_t fr rfl ?_
  refine r_ rfl ?_
  repeat refine w_ oP_ rfl fr fun a fr => ?_
  first | refine e_ ?_ | refine wpList_nil ?_
  refine wp_ret ?_
  try simp only [Exit.then, Exit.inBlock]
  exact bad fr rfl (by unfold badPart; rw [h1, h2]; rfl) S
 (repeat (first | refine wl_run oP_ 1 rfl fr fun a fr => ?_ | refine wl_ldf oP_ (Sat.stAt S 0 rfl rfl) fr rfl rfl rfl rfl rfl rfl rfl fun a fr => ?_))
 refine bs 28 fr rfl (fun h3 fr => ?_) (fun h3 fr => ?_)
 ·(repeat (first | refine wl_run oP_ 1 rfl fr fun a fr => ?_ | refine wl_ldf oP_ (Sat.stAt S 0 rfl rfl) fr rfl rfl rfl rfl rfl rfl rfl fun a fr => ?_))
  refine eq_ rfl rfl ?_
  refine cw_t fr rfl ?_
  refine r_ rfl ?_
  repeat refine w_ oP_ rfl fr fun a fr => ?_
  first | refine e_ ?_ | refine wpList_nil ?_
  refine wp_ret ?_
  try simp only [Exit.then, Exit.inBlock]
  exact bad fr rfl (by unfold badPart; rw [h1, h2, h3]; rfl) S
 (repeat (first | refine wl_run oP_ 1 rfl fr fun a fr => ?_ | refine wl_ldf oP_ (Sat.stAt S 0 rfl rfl) fr rfl rfl rfl rfl rfl rfl rfl fun a fr => ?_))
 refine bs 34 fr rfl (fun h4 fr => ?_) (fun h4 fr => ?_)
 ·(repeat (first | refine wl_run oP_ 1 rfl fr fun a fr => ?_ | refine wl_ldf oP_ (Sat.stAt S 0 rfl rfl) fr rfl rfl rfl rfl rfl rfl rfl fun a fr => ?_))
  refine eq_ rfl rfl ?_
  refine cw_t fr rfl ?_
  refine r_ rfl ?_
  repeat refine w_ oP_ rfl fr fun a fr => ?_
  first | refine e_ ?_ | refine wpList_nil ?_
  refine wp_ret ?_
  try simp only [Exit.then, Exit.inBlock]
  exact bad fr rfl (by unfold badPart; rw [h1, h2, h3, h4]; rfl) S
 (repeat (first | refine wl_run oP_ 1 rfl fr fun a fr => ?_ | refine wl_ldf oP_ (Sat.stAt S 0 rfl rfl) fr rfl rfl rfl rfl rfl rfl rfl fun a fr => ?_))
 refine wl_call fr rfl rfl rfl rfl enContOp (contop_call (fun w' S' => hro w' S'.tl) hwo hm' S) ?_
 rintro _ w5 ⟨rfl, S⟩
 refine ⟨_, rfl, rfl, fun a fr => ?_⟩
 (repeat (first | refine wl_run oP_ 1 rfl fr fun a fr => ?_ | refine wl_ldf oP_ (Sat.stAt S 0 rfl rfl) fr rfl rfl rfl rfl rfl rfl rfl fun a fr => ?_))
 first | refine e_ ?_ | refine wpList_nil ?_
 refine bs 39 fr rfl (fun h5 fr => ?_) (fun h5 fr => ?_)
 ·refine q_ rfl ?_
  refine cw_t fr rfl ?_
  refine r_ rfl ?_
  repeat refine w_ oP_ rfl fr fun a fr => ?_
  first | refine e_ ?_ | refine wpList_nil ?_
  refine wp_ret ?_
  try simp only [Exit.then, Exit.inBlock]
  exact bad fr rfl (by unfold badPart; rw [h1, h2, h3, h4, h5]; rfl) S
 refine q_ rfl ?_
 refine cw_f fr rfl ?_
 refine wp_skip ?_
 refine r_ rfl ?_
 (repeat (first | refine wl_run oP_ 1 rfl fr fun a fr => ?_ | refine wl_ldf oP_ (Sat.stAt S 0 rfl rfl) fr rfl rfl rfl rfl rfl rfl rfl fun a fr => ?_))
 first | refine e_ ?_ | refine wpList_nil ?_
 refine blk_n ?_
 refine r_ rfl ?_
 repeat refine w_ oP_ rfl fr fun a fr => ?_
 first | refine e_ ?_ | refine wpList_nil ?_
 have fr := fr.spell (d := 9) rfl (congrArg (Value.int .i64) (i64_next hlt (by have h9 := hm.2; unfold maxLen at h9; omega)))
 refine ⟨i + 1, x.1, by omega, by omega, ?_, fr.sub ⟨rfl, rfl, rfl, rfl, rfl, trivial⟩, S.tl⟩
 rw [hgo]
 have hb : badPart last x = false := by unfold badPart; rw [h1, h2, h3, h4, h5]; rfl
 show (!badPart last x && planGo x.1 ((ps.drop (i + 1)).map partOf)) = _
 rw [hb]; rfl
end
end Go.Proofs.YticnjkdaccacaaaGreat.Sx
end
section
namespace Go.Proofs.YticnjkdaccacaaaGreat.Sx
open Go Go.RowKit Base Oq OwnV
section
variable {P : Program} {T : Orc} {ops : Array Oper} {Q : Exit → Act → World → Prop} {Df : List Deferred} {N : Nat} {a : Act} {w w0 : World} {L : Env} {R M : List Asn} {e z : Nat} {A : Option Addr} {c n : Nat} {xs : List Value}
theorem wl_clip (hT : T.Ok P) {o : Oper} {rest : List Oper} {t s : TypeId} {x y y2 : Operand} {d : Nat} (fr : FrD Df N a L) (hw : wantL ops L o = some true) (ho : o.op = .slice t x none (some y) (some y2)) (hd : o.dst = some d) (hlt : Nat.blt d N = true)
  (hx : ev L x = some (.slice A n c)) (hy : ev L y = some (.int .i64 (n : Int))) (hy2 : ev L y2 = some (.int .i64 (n : Int))) (ht : T.ty.lookup t = some (.slice e)) (hs : T.sz.lookup e = some s) (hm : n ≤ c ∧ c ≤ maxLen)
  (h : ∀ a', FrD Df N a' ((d, .slice A n n) :: L) → wpList P ops Q rest a' w) : wpList P ops Q (o :: rest) a w := by
 refine wl_val (v := .slice A n n) (w' := w) fr hw hd hlt ?_ (vok_sl ⟨Nat.le_refl _, Nat.le_trans hm.1 hm.2⟩) h
 refine slice_run hT fr ho hx (vlo := none) (vhi := some (.int .i64 (n : Int))) (vmx := some (.int .i64 (n : Int))) rfl (by simp [(fr.ev hy).1]) (by simp [(fr.ev hy2).1]) ht (fun w => ?_) w
 have h1 : (0 : Int) ≤ n ∧ (n : Int) ≤ c := by have := hm.1; omega
 have h2 : (0 : Int) ≤ n ∧ (n : Int) ≤ (n : Nat) := by omega
 have hb : (Instr.sliceBounds true n c none (some (.int .i64 (n : Int))) (some (.int .i64 (n : Int)))).run P w = .ok (0, n, n) w := by
  simp [Instr.sliceBounds, Instr.sliceBound, asIntOf, h1, h2]
 have ha : ∀ A : Option Addr, A.map (fun x => x.add (0 * s)) = A := fun A => by
  cases A with
  | none => rfl
  | some ad => simp [Addr.add]
 unfold Instr.slice
 rw [Sem.run_bind, run_underlying (hT.und ht), Result.andThen_ok]
 simp only
 rw [Sem.run_bind, hb, Result.andThen_ok]
 simp only
 rw [Sem.run_bind, size_run hT hs, Result.andThen_ok]
 simp only [ha, ite_self, Nat.sub_zero]
 rfl
variable {α : Type} {f : α → List Value}
theorem flat_cells {r : Rdr α} (hsz : r.sz = z) (hz : 0 < z) (hf : ∀ x, (f x).length = z) (hR : ∀ w cs x, r.R w cs x → cs = f x) {l : List α} (h : Rdr.Row r w A l) : ∀ ad, A = some ad → ∀ j u, (l.flatMap f)[j]? = some u → w.cell? (ad.add j) = some u := by
 intro ad hA j u hu
 have hlen := el_len hf l
 have hj : j < l.length * z := by rw [← hlen]; exact (List.getElem?_eq_some_iff.1 hu).1
 have hi : j / z < l.length := Nat.div_lt_of_lt_mul (by rwa [Nat.mul_comm] at hj)
 have hk : j % z < z := Nat.mod_lt _ hz
 obtain ⟨cs, h1, ad', h2, h3⟩ := row_get h hi
 rw [hA] at h2
 injection h2 with h2
 subst h2
 have hcs := hR _ _ _ h1
 subst hcs
 have hk' : j % z < (f l[j / z]).length := by rw [hf]; exact hk
 have h4 := el_get hf l (j / z) (j % z) _ hi (List.getElem?_eq_getElem hk')
 have hjj : j / z * z + j % z = j := Nat.div_add_mod' j z
 rw [hjj, hu] at h4
 injection h4 with h4
 have h5 := h3 (j % z) _ (List.getElem?_eq_getElem hk')
 rw [hsz, hjj] at h5
 rw [h4]; exact h5
theorem flat_all {p : Value → Prop} {l : List α} (h : ∀ x ∈ l, ∀ v ∈ f x, p v) : ∀ v ∈ l.flatMap f, p v := by
 intro v hv
 obtain ⟨x, hx, hv⟩ := List.mem_flatMap.1 hv
 exact h x hx v hv
theorem rv_appB {t ty bytes m : Nat} (ht : P.underlying t = some (.slice e)) (hinfo : (P.info? e).map (fun i => (i.zero.map (·.cells.size), i.size, i.bytes)) = some (some z, z, bytes)) (hz0 : 0 < z) (hb0 : 0 < bytes) (S : Sat w0 w (rvA e z A c n xs :: R))
  {Y : Option Addr} {cy : Nat} {news : List Value} (hl : news.length = m * z) (hY : Y = none → m = 0) (hc : ∀ ad, Y = some ad → ∀ j u, news[j]? = some u → w.cell? (ad.add j) = some u) (h1 : ∀ u ∈ news, u.oneCell' = true ∧ vok1 u = true) (hb : (n + m) * bytes ≤ 140737488355328) :
  ∃ A2 c2 w', (Builtin.append_ #[t, t] ty #[.slice A n c, .slice Y m cy]).run P w = .ok (.slice A2 (n + m) c2) w' ∧ (n + m ≤ c2 ∧ c2 ≤ maxLen) ∧ Sat w0 w' (rvA e z A2 c2 (n + m) (xs ++ news) :: R) := by
 cases Y with
 | none =>
  have hm := hY rfl
  subst hm
  have hn : news = [] := List.eq_nil_of_length_eq_zero (by simpa using hl)
  subst hn
  obtain ⟨-, h2, -⟩ := rv_facts S
  exact ⟨A, c, w, rv_append_none w ht hinfo A n c cy h2.1, h2, by rw [List.append_nil]; exact S⟩
 | some ad =>
  obtain ⟨F, ⟨g2, g3, g5⟩, hF, hk⟩ := S.opened
  obtain ⟨i, hi, hzz⟩ := Option.map_eq_some_iff.1 hinfo
  simp only [Prod.mk.injEq] at hzz
  obtain ⟨hz1, hsz, hbi⟩ := hzz
  obtain ⟨z0, hz, hzc⟩ := Option.map_eq_some_iff.1 hz1
  have hnm : n + m ≤ (n + m) * bytes := Nat.le_mul_of_pos_right _ hb0
  obtain ⟨v', w', hr, k1, k2⟩ := append_two (P := P) w w0.heap.size t ty e i z0 z bytes ht hi hz hsz hbi hzc hz0 (.slice A n c) n xs g2 ad m cy news hl (hc ad rfl) (fun u hu => (h1 u hu).1) (by unfold maxLen; omega) hb S.below.size
  have k1' : RowV w' w0.heap.size e z v' (n + m) (xs ++ news) := k1
  obtain ⟨A2, c2, rfl, q1, q2, q3, q4⟩ := k1'.slice
  refine ⟨A2, c2, w', hr, ⟨q1, q2⟩, ?_⟩
  have hv : ∀ v ∈ xs ++ news, vok1 v = true := fun v hv => by
   rcases List.mem_append.1 hv with hv | hv
   ·exact g3 v hv
   ·exact (h1 v hv).2
  rcases k2 with ⟨k2, k3⟩ | ⟨k2, k3⟩
  ·exact hk (A' := rvA e z A2 c2 (n + m) (xs ++ news)) (F' := F) ⟨k1', hv, fun g => by rw [g5 g, k3]⟩ (Chg.of_grown k2) (fun g _ hg => (g5 g).2 hg.symm) fun g hg => .inl hg
  ·refine hk (A' := rvA e z A2 c2 (n + m) (xs ++ news)) (F' := fun g => (Value.slice A2 (n + m) c2).ownBlock = some g) ⟨k1', hv, fun g => Iff.rfl⟩ (G := fun _ => False) ((Chg.of_grown k2).mono fun g _ h => by cases h) (fun g _ hg => hg.elim) fun g hg => ?_
   rw [k3] at hg
   injection hg with hg
   exact .inr (Nat.le_of_eq hg)
theorem wl_rvappB {t bytes m : Nat} (ht : P.underlying t = some (.slice e)) (hinfo : (P.info? e).map (fun i => (i.zero.map (·.cells.size), i.size, i.bytes)) = some (some z, z, bytes)) (hz0 : Nat.blt 0 z = true) (hb0 : Nat.blt 0 bytes = true) {o : Oper} {rest : List Oper} {d : Nat} {x y : Operand} {Y : Option Addr} {cy : Nat} {news : List Value} (fr : FrD Df N a L) (hw : wantL ops L o = some true) (hd : o.dst = some d) (hlt : Nat.blt d N = true)
  (ho : o.op = .call { callee := .builtin .append, args := #[x, y], argTypes := #[t, t] }) (hx : ev L x = some (.slice A n c)) (hy : ev L y = some (.slice Y m cy)) (hl : news.length = m * z) (hY : Y = none → m = 0) (hc : ∀ ad, Y = some ad → ∀ j u, news[j]? = some u → w.cell? (ad.add j) = some u) (h1 : ∀ u ∈ news, u.oneCell' = true ∧ vok1 u = true) (hb : (n + m) * bytes ≤ 140737488355328) (S : Sat w0 w (rvA e z A c n xs :: R))
  (h : ∀ w' A2 c2, Sat w0 w' (rvA e z A2 c2 (n + m) (xs ++ news) :: R) → ∀ a', FrD Df N a' ((d, .slice A2 (n + m) c2) :: L) → wpList P ops Q rest a' w') : wpList P ops Q (o :: rest) a w := by
 obtain ⟨A2, c2, w', r1, r2, r3⟩ := rv_appB (P := P) (ty := o.type) (cy := cy) ht hinfo (blt_lt hz0) (blt_lt hb0) S hl hY hc h1 hb
 exact wl_val fr hw hd hlt (app_op fr ho hx hy r1) (vok_sl r2) (h w' A2 c2 r3)
theorem wl_lit0 {t : Nat} (hu : P.underlying t = some (.slice e)) (hi : (P.info? e).map (fun i => (i.zero.isSome, i.size)) = some (true, z)) {o : Oper} {rest : List Oper} {d : Nat} (fr : FrD Df N a L) (hw : wantL ops L o = some true) (hd : o.dst = some d) (hlt : Nat.blt d N = true) (ho : o.op = .buildSlice t 0 #[]) (S : Sat w0 w R)
  (h : ∀ w' A, Sat w0 w' (rvA e z A 0 0 [] :: R) → ∀ a', FrD Df N a' ((d, .slice A 0 0) :: L) → wpList P ops Q rest a' w') : wpList P ops Q (o :: rest) a w := by
 obtain ⟨i, hi1, hi2⟩ := Option.map_eq_some_iff.1 hi
 simp only [Prod.mk.injEq] at hi2
 obtain ⟨z0, hz0⟩ := Option.isSome_iff_exists.1 hi2.1
 refine wl_val (v := .slice (some ⟨w.heap.size, 0, none⟩) 0 0) (w' := w.alloc (.cells #[] e)) fr hw hd hlt ?_ rfl (h _ _ ?_)
 ·unfold execOp
  simp only [ho]
  have e1 : (Instr.buildSlice t 0 #[]).run P w = .ok (.slice (some ⟨w.heap.size, 0, none⟩) 0 0) (w.alloc (.cells #[] e)) := by
   unfold Instr.buildSlice
   rw [Sem.run_bind, run_underlying hu, Result.andThen_ok]
   simp only
   have es : (sizeOf e).run P w = .ok z w := by unfold sizeOf typeInfo; simp [hi1, hi2.2]
   rw [Sem.run_bind, es, Result.andThen_ok]
   simp only [Nat.zero_mul]
   rw [if_neg (by omega), if_pos trivial, Sem.run_bind, Sem.run_pure, Result.andThen_ok]
   simp [Instr.fill, newRow]
   congr 2
   simp
  rw [show (Array.map (fun x : Nat × Operand => (x.1, a.eval x.2)) #[]) = #[] by simp, Sem.run_bind, e1]
  rfl
 ·have hm := RowV.made w e z 0 #[] S.below.size (by simp) (Nat.zero_le _)
  exact S.add (F := fun g => (Value.slice (some ⟨w.heap.size, 0, none⟩) 0 0).ownBlock = some g) ((Below.refl _ _).alloc (Nat.le_refl _) _) ⟨hm, (fun v hv => (nomatch hv)), fun g => Iff.rfl⟩ fun g hg => by
   have : w.heap.size = g := by simpa [Value.ownBlock] using hg
   omega
end
abbrev RowT := ByteArray × Int × Unit
abbrev ResT := List RowT × Unit
abbrev RsT := List ResT
def rowV (x : RowT) : List Value := [.string x.1, .int .u32 x.2.1]
abbrev rowR : Rdr RowT := Rdr.pair Rdr.str (Rdr.pair (Rdr.int .u32) Rdr.unit)
abbrev resR : Rdr ResT := Rdr.pair (Rdr.sl rowR) Rdr.unit
structure RowW (x : RowT) : Prop where
 k : x.1.size ≤ maxLen
 v : (Lit.int .u32 x.2.1).wf = true
theorem row_of {w : World} {cs : List Value} {x : RowT} (h : rowR.R w cs x) : cs = rowV x ∧ RowW x := by
 obtain ⟨c1, d1, rfl, ⟨rfl, h1⟩, c2, d2, rfl, ⟨rfl, h2⟩, h3⟩ := h
 have h3 : d2 = [] := h3
 subst h3
 exact ⟨rfl, h1, h2⟩
theorem rowV_ok {x : RowT} (h : RowW x) : ∀ v ∈ rowV x, v.oneCell' = true ∧ vok1 v = true := by
 intro v hv
 simp only [rowV, List.mem_cons, List.not_mem_nil, or_false] at hv
 rcases hv with rfl | rfl
 ·exact ⟨rfl, rfl⟩
 ·exact ⟨rfl, h.v⟩
theorem opV_1 {x : OpT} (h : OpW x) : ∀ v ∈ opV x, v.oneCell' = true ∧ vok1 v = true := by
 intro v hv
 simp only [opV, List.mem_cons, List.not_mem_nil, or_false] at hv
 rcases hv with rfl | rfl | rfl | rfl
 ·exact ⟨rfl, h.k⟩
 ·exact ⟨rfl, rfl⟩
 ·exact ⟨rfl, rfl⟩
 ·exact ⟨rfl, h.v⟩
def orcRw : Orc := ⟨[(3, .int .i64), (4, .bool), (5, .int .u8), (31, .int .u32), (9, .string), (160, .struct #[Go.Field.mk "Key" 9 0 false "" "" 0, Go.Field.mk "Value" 31 1 false "" "" 16]), (157, .struct #[Go.Field.mk "Rows" 155 0 false "" "" 0]), (155, .slice 160), (40, .slice 157), (45, .slice 40), (104, .struct #[Go.Field.mk "Kind" 102 0 false "" "" 0, Go.Field.mk "Key" 9 1 false "" "" 8, Go.Field.mk "To" 9 2 false "" "" 24, Go.Field.mk "Value" 31 3 false "" "" 40]), (37, .slice 104), (42, .struct #[Go.Field.mk "Say" 36 0 false "" "" 0, Go.Field.mk "From" 5 1 false "" "" 1, Go.Field.mk "To" 5 2 false "" "" 2, Go.Field.mk "G" 31 3 false "" "" 4, Go.Field.mk "Ops" 37 4 false "" "" 8, Go.Field.mk "Results" 40 5 false "" "" 32]), (27, .slice 42)],
 [(3, 1), (4, 1), (5, 1), (31, 1), (9, 1), (160, 2), (157, 1), (155, 1), (40, 1), (45, 1), (104, 4), (37, 1), (42, 6), (27, 1)]⟩
theorem oRw_ : orcRw.Ok Tryz.prog := ⟨⟨Tryz.underlying3, Tryz.underlying4, Tryz.underlying5, Tryz.underlying31, Tryz.underlying9, Tryz.underlying160, Tryz.underlying157, Tryz.underlying155, Tryz.underlying40, Tryz.underlying45, Tryz.underlying104, Tryz.underlying37, Tryz.underlying42, Tryz.underlying27, trivial⟩, ⟨by kernel_rfl, by kernel_rfl, by kernel_rfl, by kernel_rfl, by kernel_rfl, by kernel_rfl, by kernel_rfl, by kernel_rfl, by kernel_rfl, by kernel_rfl, by kernel_rfl, by kernel_rfl, by kernel_rfl, by kernel_rfl, trivial⟩⟩
theorem enClipRow : Enters Tryz.prog 76 := fun _ _ => by kernel_rfl
theorem clipRow_call {w : World} {A : Option Addr} {n c : Nat} (hm : n ≤ c ∧ c ≤ maxLen) : Calls Tryz.prog 76 #[.slice A n c] w fun e w' => e = .returned (.slice A n n) ∧ w' = w := by
 refine calls_start (N := 9) [.slice A n c] Tryz.func76 rfl rfl rfl (vok_c (vok_sl hm) rfl) fun a fr => ?_
 refine r_ rfl ?_
 repeat refine w_ oRw_ rfl fr fun a fr => ?_
 refine er_ rfl rfl ?_
 repeat refine w_ oRw_ rfl fr fun a fr => ?_
 refine wl_clip oRw_ fr rfl rfl rfl rfl rfl rfl rfl rfl rfl hm fun a fr => ?_
 repeat refine w_ oRw_ rfl fr fun a fr => ?_
 first | refine e_ ?_ | refine wpList_nil ?_
 refine wp_ret ?_
 exact ret1 fr rfl rfl ⟨rfl, rfl⟩
theorem enClipOp : Enters Tryz.prog 37 := fun _ _ => by kernel_rfl
theorem clipOp_call {w : World} {A : Option Addr} {n c : Nat} (hm : n ≤ c ∧ c ≤ maxLen) : Calls Tryz.prog 37 #[.slice A n c] w fun e w' => e = .returned (.slice A n n) ∧ w' = w := by
 refine calls_start (N := 9) [.slice A n c] Tryz.func37 rfl rfl rfl (vok_c (vok_sl hm) rfl) fun a fr => ?_
 refine r_ rfl ?_
 repeat refine w_ oRw_ rfl fr fun a fr => ?_
 refine er_ rfl rfl ?_
 repeat refine w_ oRw_ rfl fr fun a fr => ?_
 refine wl_clip oRw_ fr rfl rfl rfl rfl rfl rfl rfl rfl rfl hm fun a fr => ?_
 repeat refine w_ oRw_ rfl fr fun a fr => ?_
 first | refine e_ ?_ | refine wpList_nil ?_
 refine wp_ret ?_
 exact ret1 fr rfl rfl ⟨rfl, rfl⟩
theorem enClipResult : Enters Tryz.prog 78 := fun _ _ => by kernel_rfl
theorem clipResult_call {w : World} {A : Option Addr} {n c : Nat} (hm : n ≤ c ∧ c ≤ maxLen) : Calls Tryz.prog 78 #[.slice A n c] w fun e w' => e = .returned (.slice A n n) ∧ w' = w := by
 refine calls_start (N := 9) [.slice A n c] Tryz.func78 rfl rfl rfl (vok_c (vok_sl hm) rfl) fun a fr => ?_
 refine r_ rfl ?_
 repeat refine w_ oRw_ rfl fr fun a fr => ?_
 refine er_ rfl rfl ?_
 repeat refine w_ oRw_ rfl fr fun a fr => ?_
 refine wl_clip oRw_ fr rfl rfl rfl rfl rfl rfl rfl rfl rfl hm fun a fr => ?_
 repeat refine w_ oRw_ rfl fr fun a fr => ?_
 first | refine e_ ?_ | refine wpList_nil ?_
 refine wp_ret ?_
 exact ret1 fr rfl rfl ⟨rfl, rfl⟩
theorem enClipMsg : Enters Tryz.prog 31 := fun _ _ => by kernel_rfl
theorem clipMsg_call {w : World} {A : Option Addr} {n c : Nat} (hm : n ≤ c ∧ c ≤ maxLen) : Calls Tryz.prog 31 #[.slice A n c] w fun e w' => e = .returned (.slice A n n) ∧ w' = w := by
 refine calls_start (N := 9) [.slice A n c] Tryz.func31 rfl rfl rfl (vok_c (vok_sl hm) rfl) fun a fr => ?_
 refine r_ rfl ?_
 repeat refine w_ oRw_ rfl fr fun a fr => ?_
 refine er_ rfl rfl ?_
 repeat refine w_ oRw_ rfl fr fun a fr => ?_
 refine wl_clip oRw_ fr rfl rfl rfl rfl rfl rfl rfl rfl rfl hm fun a fr => ?_
 repeat refine w_ oRw_ rfl fr fun a fr => ?_
 first | refine e_ ?_ | refine wpList_nil ?_
 refine wp_ret ?_
 exact ret1 fr rfl rfl ⟨rfl, rfl⟩
theorem enClipResults : Enters Tryz.prog 45 := fun _ _ => by kernel_rfl
theorem clipResults_call {w : World} {A : Option Addr} {n c : Nat} (hm : n ≤ c ∧ c ≤ maxLen) : Calls Tryz.prog 45 #[.slice A n c] w fun e w' => e = .returned (.slice A n n) ∧ w' = w := by
 refine calls_start (N := 9) [.slice A n c] Tryz.func45 rfl rfl rfl (vok_c (vok_sl hm) rfl) fun a fr => ?_
 refine r_ rfl ?_
 repeat refine w_ oRw_ rfl fr fun a fr => ?_
 refine er_ rfl rfl ?_
 repeat refine w_ oRw_ rfl fr fun a fr => ?_
 refine wl_clip oRw_ fr rfl rfl rfl rfl rfl rfl rfl rfl rfl hm fun a fr => ?_
 repeat refine w_ oRw_ rfl fr fun a fr => ?_
 first | refine e_ ?_ | refine wpList_nil ?_
 refine wp_ret ?_
 exact ret1 fr rfl rfl ⟨rfl, rfl⟩
theorem enCloneRow : Enters Tryz.prog 77 := fun _ _ => by kernel_rfl
theorem cloneRow_call {w0 w : World} {R : List Asn} {A : Option Addr} {c : Nat} {l : List RowT} (hm : l.length ≤ c ∧ c ≤ maxLen) (hb : l.length * 24 ≤ 140737488355328) (hA : A = none → l = []) (hc : ∀ w', Sat w0 w' R → ∀ ad, A = some ad → ∀ j u, (l.flatMap rowV)[j]? = some u → w'.cell? (ad.add j) = some u) (hw : ∀ x ∈ l, RowW x) (S : Sat w0 w R) :
  Calls Tryz.prog 77 #[.slice A l.length c] w fun e w' => ∃ A' c', e = .returned (.slice A' l.length c') ∧ vok (.slice A' l.length c') = true ∧ Sat w0 w' (rvA 160 2 A' c' l.length (l.flatMap rowV) :: R) := by
 refine calls_start (N := 8) [.slice A l.length c] Tryz.func77 rfl rfl rfl (vok_c (vok_sl hm) rfl) fun a fr => ?_
 refine r_ rfl ?_
 repeat refine w_ oRw_ rfl fr fun a fr => ?_
 first | refine e_ ?_ | refine wpList_nil ?_
 cases A with
 | none =>
  have hl := hA rfl
  subst hl
  have fr := fr.spell (d := 0) rfl (show Value.slice none ([] : List RowT).length c = .slice none 0 c from rfl)
  refine r_ rfl ?_
  repeat refine w_ oRw_ rfl fr fun a fr => ?_
  refine eq_ rfl rfl ?_
  refine cw_t fr rfl ?_
  refine r_ rfl ?_
  repeat refine w_ oRw_ rfl fr fun a fr => ?_
  first | refine e_ ?_ | refine wpList_nil ?_
  refine wp_ret ?_
  try simp only [Exit.then, Exit.inBlock]
  exact ret1 fr rfl rfl ⟨none, 0, rfl, rfl, rv_nil 160 2 S⟩
 | some ad =>
  refine r_ rfl ?_
  repeat refine w_ oRw_ rfl fr fun a fr => ?_
  refine eq_ rfl rfl ?_
  refine cw_f fr rfl ?_
  refine wp_skip ?_
  refine r_ rfl ?_
  refine wl_lit0 (z := 2) Tryz.underlying155 (by kernel_rfl) fr rfl rfl rfl rfl S ?_
  intro w1 B S1 a fr
  repeat refine w_ oRw_ rfl fr fun a fr => ?_
  refine wl_rvappB (bytes := 24) (m := l.length) (news := l.flatMap rowV) Tryz.underlying155 (by kernel_rfl) rfl rfl fr rfl rfl rfl rfl rfl rfl (el_len (f := rowV) (fun _ => rfl) l) (fun h => by cases h) (fun ad' h j u hu => ?_) (flat_all fun x hx v hv => rowV_ok (hw x hx) v hv) (by rw [Nat.zero_add]; exact hb) S1 ?_
  ·injection h with h
   subst h
   exact hc _ S1.tl _ rfl j u hu
  intro w2 A2 c2 S a fr
  rw [Nat.zero_add] at S fr
  repeat refine w_ oRw_ rfl fr fun a fr => ?_
  first | refine e_ ?_ | refine wpList_nil ?_
  refine wp_ret ?_
  exact ret1 fr rfl rfl ⟨A2, c2, rfl, fr.vok (d := 2) rfl, S⟩
theorem enCloneOp : Enters Tryz.prog 38 := fun _ _ => by kernel_rfl
theorem cloneOp_call {w0 w : World} {R : List Asn} {A : Option Addr} {c : Nat} {l : List OpT} (hm : l.length ≤ c ∧ c ≤ maxLen) (hb : l.length * 48 ≤ 140737488355328) (hA : A = none → l = []) (hc : ∀ w', Sat w0 w' R → ∀ ad, A = some ad → ∀ j u, (l.flatMap opV)[j]? = some u → w'.cell? (ad.add j) = some u) (hw : ∀ x ∈ l, OpW x) (S : Sat w0 w R) :
  Calls Tryz.prog 38 #[.slice A l.length c] w fun e w' => ∃ A' c', e = .returned (.slice A' l.length c') ∧ vok (.slice A' l.length c') = true ∧ Sat w0 w' (rvA 104 4 A' c' l.length (l.flatMap opV) :: R) := by
 refine calls_start (N := 8) [.slice A l.length c] Tryz.func38 rfl rfl rfl (vok_c (vok_sl hm) rfl) fun a fr => ?_
 refine r_ rfl ?_
 repeat refine w_ oRw_ rfl fr fun a fr => ?_
 first | refine e_ ?_ | refine wpList_nil ?_
 cases A with
 | none =>
  have hl := hA rfl
  subst hl
  have fr := fr.spell (d := 0) rfl (show Value.slice none ([] : List OpT).length c = .slice none 0 c from rfl)
  refine r_ rfl ?_
  repeat refine w_ oRw_ rfl fr fun a fr => ?_
  refine eq_ rfl rfl ?_
  refine cw_t fr rfl ?_
  refine r_ rfl ?_
  repeat refine w_ oRw_ rfl fr fun a fr => ?_
  first | refine e_ ?_ | refine wpList_nil ?_
  refine wp_ret ?_
  try simp only [Exit.then, Exit.inBlock]
  exact ret1 fr rfl rfl ⟨none, 0, rfl, rfl, rv_nil 104 4 S⟩
 | some ad =>
  refine r_ rfl ?_
  repeat refine w_ oRw_ rfl fr fun a fr => ?_
  refine eq_ rfl rfl ?_
  refine cw_f fr rfl ?_
  refine wp_skip ?_
  refine r_ rfl ?_
  refine wl_lit0 (z := 4) Tryz.underlying37 (by kernel_rfl) fr rfl rfl rfl rfl S ?_
  intro w1 B S1 a fr
  repeat refine w_ oRw_ rfl fr fun a fr => ?_
  refine wl_rvappB (bytes := 48) (m := l.length) (news := l.flatMap opV) Tryz.underlying37 (by kernel_rfl) rfl rfl fr rfl rfl rfl rfl rfl rfl (el_len (f := opV) (fun _ => rfl) l) (fun h => by cases h) (fun ad' h j u hu => ?_) (flat_all fun x hx v hv => opV_1 (hw x hx) v hv) (by rw [Nat.zero_add]; exact hb) S1 ?_
  ·injection h with h
   subst h
   exact hc _ S1.tl _ rfl j u hu
  intro w2 A2 c2 S a fr
  rw [Nat.zero_add] at S fr
  repeat refine w_ oRw_ rfl fr fun a fr => ?_
  first | refine e_ ?_ | refine wpList_nil ?_
  refine wp_ret ?_
  exact ret1 fr rfl rfl ⟨A2, c2, rfl, fr.vok (d := 2) rfl, S⟩
end Go.Proofs.YticnjkdaccacaaaGreat.Sx
end
section
namespace Go.Proofs.YticnjkdaccacaaaGreat.Sx
open Go Go.RowKit Base Oq
section
variable {w w0 : World} {R : List Asn} {L : List Asn}
theorem Sat.lastsT (X : List Asn) (S : Sat w0 w (X ++ R)) : Sat w0 w R := by
 induction X with
 | nil => exact S
 | cons A X ih => exact ih S.tl
theorem Sat.ofAllT (S : Sat w0 w (allA L :: R)) : Sat w0 w (L ++ R) := by
 induction L generalizing R with
 | nil => exact S.tl
 | cons A L ih =>
  have S : Sat w0 w (A :: allA L :: R) := Sat.ofSep S
  have S : Sat w0 w (L ++ (A :: R)) := ih (S.perm (List.Perm.swap _ _ _))
  exact S.perm (List.perm_middle (l₁ := L) (a := A) (l₂ := R))
theorem Sat.toAllT (S : Sat w0 w (L ++ R)) : Sat w0 w (allA L :: R) := by
 induction L generalizing R with
 | nil => exact S.empA
 | cons A L ih =>
  have S : Sat w0 w (allA L :: A :: R) := ih (S.perm (List.perm_middle (l₁ := L) (a := A) (l₂ := R)).symm)
  exact Sat.toSep (S.perm (List.Perm.swap _ _ _))
end
theorem choose_list {α : Type} {n : Nat} {p : Nat → α → Prop} (h : ∀ i, i < n → ∃ x, p i x) : ∃ l : List α, l.length = n ∧ ∀ i (hi : i < l.length), p i l[i] := by
 induction n with
 | zero => exact ⟨[], rfl, fun i hi => by simp at hi⟩
 | succ n ih =>
  obtain ⟨l, h1, h2⟩ := ih fun i hi => h i (by omega)
  obtain ⟨x, hx⟩ := h n (by omega)
  refine ⟨l ++ [x], by simp [h1], fun i hi => ?_⟩
  by_cases hlt : i < l.length
  ·rw [List.getElem_append_left hlt]; exact h2 i hlt
  ·have : i = l.length := by simp at hi; omega
   subst this
   rw [List.getElem_append_right (Nat.le_refl _)]
   simp [h1, hx]
abbrev RawR := Option Addr × Nat × List RowT
structure RdRaw (w : World) (A : Option Addr) (rs : List RawR) : Prop where
 cell : ∀ i (hi : i < rs.length), ∃ ad, A = some ad ∧ w.cell? (ad.add (i * 1)) = some (.slice rs[i].1 rs[i].2.2.length rs[i].2.1)
 none : ∀ r ∈ rs, r.1 = none → r.2.2 = []
 row : ∀ r ∈ rs, ∀ ad, r.1 = some ad → ∀ j u, (r.2.2.flatMap rowV)[j]? = some u → w.cell? (ad.add j) = some u
structure RawW (rs : List RawR) : Prop where
 len : ∀ r ∈ rs, r.2.2.length ≤ r.2.1 ∧ r.2.1 ≤ maxLen
 wf : ∀ r ∈ rs, ∀ x ∈ r.2.2, RowW x
def rawL (rs : List RawR) : RsT := rs.map fun r => (r.2.2, ())
theorem RdRaw.below {w w' : World} {A : Option Addr} {rs : List RawR} (h : RdRaw w A rs) (hb : Below w.heap.size w w') : RdRaw w' A rs where
 cell := fun i hi => by
  obtain ⟨ad, h1, h2⟩ := h.cell i hi
  exact ⟨ad, h1, RR.cellAt hb h2⟩
 none := h.none
 row := fun r hr ad hA j u hu => RR.cellAt hb (h.row r hr ad hA j u hu)
theorem row_wf {w : World} {A : Option Addr} {l : List RowT} (h : Rdr.Row rowR w A l) : ∀ x ∈ l, RowW x := fun x hx => by
 obtain ⟨i, hi, rfl⟩ := List.mem_iff_getElem.1 hx
 obtain ⟨cs, h1, _⟩ := row_get h hi
 exact (row_of h1).2
theorem row_none {α : Type} {r : Rdr α} {w : World} {l : List α} (h : Rdr.Row r w none l) : l = [] := by
 by_cases hl : l = []
 ·exact hl
 ·obtain ⟨ad, h1, _⟩ := h hl
  cases h1
theorem raw_of {w : World} {A : Option Addr} {l : RsT} (h : Rdr.Row resR w A l) : ∃ rs, rawL rs = l ∧ RdRaw w A rs ∧ RawW rs := by
 obtain ⟨rs, h1, h2⟩ := choose_list (n := l.length) (p := fun i (r : RawR) => ∀ hi : i < l.length, (∃ ad, A = some ad ∧ w.cell? (ad.add (i * 1)) = some (.slice r.1 r.2.2.length r.2.1)) ∧ r.2.2 = l[i].1 ∧ (r.2.2.length ≤ r.2.1 ∧ r.2.1 ≤ maxLen) ∧ Rdr.Row rowR w r.1 r.2.2) fun i hi => by
  obtain ⟨cs, q1, ad, q2, q3⟩ := row_get h hi
  obtain ⟨c1, d1, rfl, ⟨B, c, rfl, q4, q5, q6⟩, q7⟩ := q1
  exact ⟨(B, c, l[i].1), fun _ => ⟨⟨ad, q2, q3 0 _ rfl⟩, rfl, ⟨q4, q5⟩, q6⟩⟩
 refine ⟨rs, ?_, ⟨fun i hi => (h2 i hi (by rw [← h1]; exact hi)).1, fun r hr hn => ?_, fun r hr ad hA j u hu => ?_⟩, ⟨fun r hr => ?_, fun r hr x hx => ?_⟩⟩
 ·apply List.ext_getElem
  ·simp [rawL, h1]
  ·intro i q1 q2
   have := (h2 i (by simpa [rawL] using q1) q2).2.1
   simp [rawL, this]
 ·obtain ⟨i, hi, rfl⟩ := List.mem_iff_getElem.1 hr
  have q := (h2 i hi (by rw [← h1]; exact hi)).2.2.2
  rw [hn] at q
  exact row_none q
 ·obtain ⟨i, hi, rfl⟩ := List.mem_iff_getElem.1 hr
  exact flat_cells (r := rowR) (z := 2) rfl (by decide) (fun _ => rfl) (fun w cs x hx => (row_of hx).1) (h2 i hi (by rw [← h1]; exact hi)).2.2.2 ad hA j u hu
 ·obtain ⟨i, hi, rfl⟩ := List.mem_iff_getElem.1 hr
  exact (h2 i hi (by rw [← h1]; exact hi)).2.2.1
 ·obtain ⟨i, hi, rfl⟩ := List.mem_iff_getElem.1 hr
  exact row_wf (h2 i hi (by rw [← h1]; exact hi)).2.2.2 x hx
def resCell (r : RawR) : List Value := [.slice r.1 r.2.2.length r.2.2.length]
def resRow (r : RawR) : Asn := rvA 160 2 r.1 r.2.1 r.2.2.length (r.2.2.flatMap rowV)
def resT (A : Option Addr) (c : Nat) (rs : List RawR) : List Asn := rvA 157 1 A c rs.length (rs.flatMap resCell) :: rs.map resRow
def ResIs (rs : List RawR) (l : RsT) : Prop := rawL rs = l ∧ ∀ r ∈ rs, ∀ x ∈ r.2.2, RowW x
def resA (A : Option Addr) (c : Nat) (l : RsT) : Asn := exA fun p : { rs : List RawR // ResIs rs l } => allA (resT A c p.1)
section
variable {w w0 : World} {R M : List Asn} {A : Option Addr} {c : Nat} {l : RsT}
theorem Sat.ofRes (S : Sat w0 w (resA A c l :: R)) : ∃ rs, ResIs rs l ∧ Sat w0 w (rvA 157 1 A c rs.length (rs.flatMap resCell) :: (rs.map resRow ++ R)) := by
 obtain ⟨⟨rs, h⟩, S⟩ := S.ofEx
 exact ⟨rs, h, Sat.ofAllT S⟩
theorem Sat.toRes {rs : List RawR} (h : ResIs rs l) (S : Sat w0 w (rvA 157 1 A c rs.length (rs.flatMap resCell) :: (rs.map resRow ++ R))) : Sat w0 w (resA A c l :: R) :=
 Sat.toEx (f := fun p : { rs : List RawR // ResIs rs l } => allA (resT A c p.1)) ⟨rs, h⟩ (Sat.toAllT (L := resT A c rs) S)
theorem Sat.noRes (S : Sat w0 w R) : Sat w0 w (resA none 0 [] :: R) := Sat.toRes (rs := []) ⟨rfl, fun r hr => by cases hr⟩ (rv_nil 157 1 S)
def clipR (r : RawR) : RawR := (r.1, r.2.2.length, r.2.2)
theorem raw_clip (rs : List RawR) : rawL (rs.map clipR) = rawL rs := by simp [rawL, clipR]
theorem map_at {α : Type} (X : List Asn) (f : α → Asn) {rs : List α} {i : Nat} (hi : i < rs.length) : (X ++ (rs.map f ++ R))[X.length + i]? = some (f rs[i]) := by
 rw [List.getElem?_append_right (by omega), Nat.add_sub_cancel_left, List.getElem?_append_left (by simpa using hi)]
 simp [hi]
theorem Sat.resRd {rs : List RawR} (h : ∀ r ∈ rs, ∀ x ∈ r.2.2, RowW x) (S : Sat w0 w (rvA 157 1 A c rs.length (rs.flatMap resCell) :: (rs.map resRow ++ R))) : RdRaw w A (rs.map clipR) ∧ RawW (rs.map clipR) := by
 obtain ⟨q1, q2, q3, q4, q5⟩ := Sat.rvAt S 0 rfl
 have hrow : ∀ i (hi : i < rs.length), _ := fun i hi => Sat.rvAt S (1 + i) (e := 160) (z := 2) (A := rs[i].1) (c := rs[i].2.1) (n := rs[i].2.2.length) (xs := rs[i].2.2.flatMap rowV) (map_at [_] resRow hi)
 refine ⟨⟨fun i hi => ?_, fun r hr hn => ?_, fun r hr ad hA j u hu => ?_⟩, ⟨fun r hr => ?_, fun r hr x hx => ?_⟩⟩
 ·have hi' : i < rs.length := by simpa using hi
  cases A with
  | none => have := q3 rfl; omega
  | some ad =>
   obtain ⟨g, rfl, hrg⟩ := q5 _ rfl
   refine ⟨_, rfl, ?_⟩
   have h6 := el_get (f := resCell) (z := 1) (fun _ => rfl) rs i 0 _ hi' rfl
   have h7 := hrg _ _ h6
   rw [Nat.zero_add, Nat.add_zero] at h7
   rw [addr0, h7]
   simp [clipR]
 ·obtain ⟨r', hr', rfl⟩ := List.mem_map.1 hr
  obtain ⟨i, hi, rfl⟩ := List.mem_iff_getElem.1 hr'
  exact List.eq_nil_of_length_eq_zero ((hrow i hi).2.2.1 hn)
 ·obtain ⟨r', hr', rfl⟩ := List.mem_map.1 hr
  obtain ⟨i, hi, rfl⟩ := List.mem_iff_getElem.1 hr'
  obtain ⟨g, rfl, hrg⟩ := (hrow i hi).2.2.2.2 ad hA
  have h7 := hrg j u hu
  rw [Nat.zero_add] at h7
  rw [addr0]; exact h7
 ·obtain ⟨r', hr', rfl⟩ := List.mem_map.1 hr
  obtain ⟨i, hi, rfl⟩ := List.mem_iff_getElem.1 hr'
  have := (hrow i hi).2.1
  exact ⟨Nat.le_refl _, Nat.le_trans this.1 this.2⟩
 ·obtain ⟨r', hr', rfl⟩ := List.mem_map.1 hr
  exact h r' hr' x hx
theorem map_snoc {α : Type} (f : α → Asn) {rs : List α} {r : α} : (f r :: (rs.map f ++ R)).Perm ((rs ++ [r]).map f ++ R) := by
 rw [List.map_append, List.append_assoc]
 exact List.perm_middle.symm
theorem enTwinR : Enters Tryz.prog 44 := fun _ _ => by kernel_rfl
theorem resIs_snoc {os rs : List RawR} {i : Nat} (hi : i < rs.length) (h : ResIs os (rawL (rs.take i))) (hW : RawW rs) (B : Option Addr) (d : Nat) : ResIs (os ++ [(B, d, rs[i].2.2)]) (rawL (rs.take (i + 1))) := by
 refine ⟨?_, fun r hr x hx => ?_⟩
 ·rw [List.take_succ_eq_append_getElem hi]
  unfold rawL at *
  rw [List.map_append, List.map_append, ← h.1]
  rfl
 ·rcases List.mem_append.1 hr with hr | hr
  ·exact h.2 r hr x hx
  ·rw [List.mem_singleton] at hr
   subst hr
   exact hW.wf _ (List.getElem_mem hi) x hx
theorem twin_call_r {rs : List RawR} (hR : ∀ w', Sat w0 w' R → RdRaw w' A rs) (hW : RawW rs) (hm : rs.length ≤ c ∧ c ≤ maxLen) (hb : rs.length * 24 ≤ 140737488355328) (hbr : ∀ r ∈ rs, r.2.2.length * 24 ≤ 140737488355328) (S : Sat w0 w R) :
  Calls Tryz.prog 44 #[.slice A rs.length c] w fun e w' => ∃ A' c', e = .returned (.slice A' rs.length rs.length) ∧ vok (.slice A' rs.length rs.length) = true ∧ Sat w0 w' (resA A' c' (rawL rs) :: R) := by
 refine calls_start (N := 22) [.slice A rs.length c] Tryz.func44 rfl rfl rfl (vok_c (vok_sl hm) rfl) fun a fr => ?_
 refine r_ rfl ?_
 repeat refine w_ oRw_ rfl fr fun a fr => ?_
 refine er_ rfl rfl ?_
 repeat refine w_ oRw_ rfl fr fun a fr => ?_
 refine eq_ rfl rfl ?_
 refine wp_block ?_
 refine cw_loop (fun q a w2 => ∃ (i : Nat) (A2 : Option Addr) (c2 : Nat) (os : List RawR), i + q = rs.length + 1 ∧ i ≤ rs.length ∧ os.length = i ∧ ResIs os (rawL (rs.take i)) ∧ Fr 22 a [(2, .slice A2 os.length c2), (5, .slice A rs.length c), (6, .int .i64 (rs.length : Int)), (7, .int .i64 (i : Int))] ∧ Sat w0 w2 (rvA 157 1 A2 c2 os.length (os.flatMap resCell) :: (os.map resRow ++ R))) (rs.length + 1)
  ⟨0, none, 0, [], by omega, by omega, rfl, ⟨rfl, fun r hr => by cases hr⟩, fr.sub ⟨rfl, rfl, rfl, rfl, trivial⟩, rv_nil 157 1 S⟩ ?_ ?_
 ·rintro a w2 ⟨i, _, _, _, h, h', -⟩
  omega
 clear fr S
 rintro q a w2 ⟨i, A2, c2, os, hi, hi', hol, his, fr, S⟩
 refine r_ rfl ?_
 repeat refine w_ oRw_ rfl fr fun a fr => ?_
 first | refine e_ ?_ | refine wpList_nil ?_
 by_cases hlt : i < rs.length
 rotate_left
 ·have fr := fr.bool (d := 8) rfl (decide_eq_false (show ¬ (i : Int) < (rs.length : Int) by omega))
  obtain rfl : i = rs.length := by omega
  refine q_ rfl ?_
  refine cw_f fr rfl ?_
  refine wp_exit ?_
  refine xr_ rfl rfl ?_
  repeat refine w_ oRw_ rfl fr fun a fr => ?_
  have hm2 := (Sat.rvAt S 0 rfl).2.1
  refine wl_call fr rfl rfl rfl rfl enClipResult (clipResult_call hm2) ?_
  rintro _ w3 ⟨rfl, rfl⟩
  refine ⟨_, rfl, vok_sl ⟨Nat.le_refl _, Nat.le_trans hm2.1 hm2.2⟩, fun a fr => ?_⟩
  repeat refine w_ oRw_ rfl fr fun a fr => ?_
  first | refine e_ ?_ | refine wpList_nil ?_
  refine wp_ret ?_
  have hv := fr.vok (d := 2) rfl
  rw [hol] at hv
  refine ret1 fr rfl rfl ⟨A2, c2, by rw [hol], hv, ?_⟩
  rw [List.take_length] at his
  exact Sat.toRes his S
 have fr := fr.bool (d := 8) rfl (decide_eq_true (show (i : Int) < (rs.length : Int) by omega))
 refine q_ rfl ?_
 refine cw_t fr rfl ?_
 refine wp_skip ?_
 with_reducible refine then_n ?_
 obtain ⟨r, hr⟩ : ∃ r, r = rs[i] := ⟨_, rfl⟩
 have hrm : r ∈ rs := by rw [hr]; exact List.getElem_mem hlt
 have hrl := hW.len r hrm
 have S0 := Sat.lastsT (_ :: os.map resRow) S
 obtain ⟨ad, hA, hcell⟩ := (hR _ S0).cell i hlt
 rw [← hr] at hcell
 have hxv : [Value.slice r.1 r.2.2.length r.2.1].all vok1 = true := by
  simp only [List.all_cons, List.all_nil, Bool.and_true]
  exact vok_sl (A := r.1) hrl
 refine q_ rfl ?_
 refine wp_block ?_
 refine r_ rfl ?_
 refine wl_ldrs (cs := [.slice r.1 r.2.2.length r.2.1]) oRw_ (i := (i : Int)) (z := 1) ⟨ad, hA, fun j u hu => by
  cases j with
  | zero => injection hu with hu; subst hu; exact hcell
  | succ j => cases hu⟩ hxv fr rfl rfl rfl rfl rfl rfl rfl rfl rfl rfl rfl rfl rfl rfl rfl rfl ⟨by omega, by omega⟩ fun a fr => ?_
 refine wl_allocg (zs := [.slice none 0 0]) fr rfl rfl rfl rfl (fun _ => by kernel_rfl) rfl S ?_
 intro w3 g S a fr
 refine wl_stg (cs := [.slice none 0 0]) (vs := [.slice r.1 r.2.2.length r.2.1]) oRw_ fr rfl rfl rfl rfl rfl rfl rfl (by
  simp only [List.all_cons, List.all_nil, Bool.and_true, Bool.and_eq_true]
  exact ⟨rfl, vok_sl (A := r.1) hrl⟩) S ?_
 intro w4 S
 refine er_ rfl rfl ?_
 (repeat (first | refine wl_run oRw_ 1 rfl fr fun a fr => ?_ | refine wl_ldf oRw_ (Sat.stAt S 0 rfl rfl) fr rfl rfl rfl rfl rfl rfl rfl fun a fr => ?_))
 refine wl_call fr rfl rfl rfl rfl enCloneRow (cloneRow_call (l := r.2.2) hrl (hbr r hrm) (fun h => (hR _ S0).none r hrm h) (fun w' S' ad' hA' => (hR _ (Sat.lastsT (_ :: _ :: os.map resRow) S')).row r hrm ad' hA') (hW.wf r hrm) S) ?_
 rintro _ w5 ⟨A5, c5, rfl, hv5, S⟩
 refine ⟨_, rfl, hv5, fun a fr => ?_⟩
 have hm5 := (Sat.rvAt S 0 rfl).2.1
 refine wl_call fr rfl rfl rfl rfl enClipRow (clipRow_call hm5) ?_
 rintro _ w6 ⟨rfl, rfl⟩
 have hv6 : vok (.slice A5 r.2.2.length r.2.2.length) = true := vok_sl ⟨Nat.le_refl _, Nat.le_trans hm5.1 hm5.2⟩
 refine ⟨_, rfl, hv6, fun a fr => ?_⟩
 refine wl_build (cs := [.slice A5 r.2.2.length r.2.2.length]) (L2 := [(0, .slice A5 r.2.2.length r.2.2.length)]) fr rfl rfl rfl rfl (by
   have e1 := (fr.ev (o := .tmp 15) rfl).1
   simp [e1]) (by kernel_rfl) (vok_agg fun v hv => by rw [List.mem_singleton] at hv; subst hv; exact hv6) fun a fr => ?_
 refine wl_lit1 (cs := [.slice A5 r.2.2.length r.2.2.length]) (z := 1) Tryz.underlying40 (by kernel_rfl) rfl fr rfl rfl rfl rfl rfl rfl (by
  simp only [List.all_cons, List.all_nil, Bool.and_true]
  exact hv6) S ?_
 intro w7 A7 c7 S a fr
 have hl7 := Sat.rvAt S 0 rfl
 have S : Sat w0 w7 (rvA 157 1 A2 c2 os.length (os.flatMap resCell) :: resRow (A5, c5, r.2.2) :: stA 157 g [.slice r.1 r.2.2.length r.2.1] :: (os.map resRow ++ R)) := S.tl.frontAt 2 rfl
 refine wl_rvappB (bytes := 24) (m := 1) (news := resCell (A5, c5, r.2.2)) Tryz.underlying40 (by kernel_rfl) rfl rfl fr rfl rfl rfl rfl rfl rfl rfl (fun h => by have := hl7.2.2.1 h; omega) (fun ad' h j u hu => ?_) (fun u hu => ?_) (by rw [hol]; omega) S ?_
 ·obtain ⟨g', rfl, hrg⟩ := hl7.2.2.2.2 ad' h
  have := hrg j u hu
  rw [Nat.zero_add] at this
  rw [addr0]; exact this
 ·rw [resCell, List.mem_singleton] at hu
  subst hu
  exact ⟨rfl, hv6⟩
 intro w8 A8 c8 S a fr
 have S := (S.frontAt 2 rfl).tl
 have S : Sat w0 w8 (rvA 157 1 A8 c8 (os.length + 1) (os.flatMap resCell ++ resCell (A5, c5, r.2.2)) :: resRow (A5, c5, r.2.2) :: (os.map resRow ++ R)) := S
 repeat refine w_ oRw_ rfl fr fun a fr => ?_
 first | refine e_ ?_ | refine wpList_nil ?_
 refine blk_n ?_
 refine r_ rfl ?_
 repeat refine w_ oRw_ rfl fr fun a fr => ?_
 first | refine e_ ?_ | refine wpList_nil ?_
 have fr := fr.spell (d := 7) rfl (congrArg (Value.int .i64) (i64_next hlt (by have h9 := hm.2; unfold maxLen at h9; omega)))
 have eln : os.length + 1 = (os ++ [((A5, c5, r.2.2) : RawR)]).length := by rw [List.length_append]; rfl
 have S := S.perm (List.Perm.cons _ (map_snoc resRow))
 rw [← el_snoc, eln] at S
 rw [eln] at fr
 refine ⟨i + 1, A8, c8, os ++ [(A5, c5, r.2.2)], by omega, by omega, by rw [← eln]; omega, ?_, fr.sub ⟨rfl, rfl, rfl, rfl, trivial⟩, S⟩
 rw [hr]
 exact resIs_snoc hlt his hW A5 c5
end
end Go.Proofs.YticnjkdaccacaaaGreat.Sx
end
section
namespace Go.Proofs.YticnjkdaccacaaaGreat.Sx
open Go Go.RowKit Base Oq QS
def ptO : Option Nat → Value
 | none => .pointer none
 | some b => .pointer (some ⟨b, 0, none⟩)
theorem ptO_vok (z : Option Nat) : vokC (ptO z) = vok (ptO z) := by cases z <;> rfl
theorem litW : RowTy Tryz.prog 72 31 .u32 := ⟨Tryz.underlying72, 4, by decide, by kernel_rfl⟩
def orcQ : Orc := ⟨[(3, .int .i64), (4, .bool), (31, .int .u32), (72, .slice 31), (74, .map 31 83)],
 [(3, 1), (31, 1), (72, 1), (74, 1)]⟩
theorem oQ_ : orcQ.Ok Tryz.prog := ⟨⟨Tryz.underlying3, Tryz.underlying4, Tryz.underlying31, Tryz.underlying72, Tryz.underlying74, trivial⟩, ⟨by kernel_rfl, by kernel_rfl, by kernel_rfl, by kernel_rfl, trivial⟩⟩
theorem enIter : Enters Tryz.prog 58 := fun _ _ => by kernel_rfl
theorem enAps : Enters Tryz.prog 85 := fun _ _ => by kernel_rfl
theorem enCol : Enters Tryz.prog 56 := fun _ _ => by kernel_rfl
theorem enSrt : Enters Tryz.prog 57 := fun _ _ => by kernel_rfl
theorem keys_iter {w0 w : World} {M : List Asn} {bx b lp : Nat} {m : List (Int × Option Nat)} {rec : Loop} (Z : List Int → Asn) (hc : m.length ≤ 100000) (hps : rec.params.size = 1)
  (S : Sat w0 w (Z [] :: objA (.loop rec) lp :: stA 74 bx [.map (some b)] :: mapA .u32 ptO b m :: M))
  (hround : ∀ (w : World) (l : List Int) (x : Int) (M : List Asn), (Lit.int .u32 x).wf = true → l.length < m.length → Sat w0 w (Z l :: objA (.loop rec) lp :: M) →
   RoundIn Fence.wide (3 - 1) Tryz.prog lp rec.fn ((rec.params.zip #[Value.int .u32 x]).foldl (fun tmps (t, a) => tmps.setIfInBounds t a) rec.tmps) rec.assign rec.body w fun e w' => e = .returned (.bool true) ∧ Sat w0 w' (Z (l ++ [x]) :: objA (.loop rec) lp :: M)) :
  Calls Tryz.prog 58 #[.func (.yield lp) #[] #[], .pointer (some ⟨bx, 0, none⟩)] w fun e w' => e = .returned (.tuple #[]) ∧ ∃ l, l.Perm (keysM m) ∧ Sat w0 w' (Z l :: objA (.loop rec) lp :: stA 74 bx [.map (some b)] :: mapA .u32 ptO b m :: M) := by
 refine calls_start (N := 14) [.func (.yield lp) #[] #[], .pointer (some ⟨bx, 0, none⟩)] Tryz.func58 rfl rfl rfl rfl fun a fr => ?_
 refine r_ rfl ?_
 refine wl_ldf oQ_ (Sat.varAt S 2 rfl) fr rfl rfl rfl rfl rfl rfl rfl fun a fr => ?_
 have S : Sat w0 _ (mapA .u32 ptO b m :: Z [] :: objA (.loop rec) lp :: stA 74 bx [.map (some b)] :: M) := S.frontAt 3 rfl
 refine wl_range oQ_ fr rfl rfl rfl rfl rfl rfl S ?_
 intro w1 r S a fr
 first | refine e_ ?_ | refine wpList_nil ?_
 refine wp_block ?_
 refine cw_loop (fun q a w => ∃ l left cur, left.length + 1 = q ∧ (l ++ left.map (·.1)).Perm (keysM m) ∧ Fr 14 a [(0, .func (.yield lp) #[] #[]), (5, .pointer (some ⟨r, 0, none⟩))] ∧
   Sat w0 w (iterA .u32 ptO b r m left cur :: Z l :: objA (.loop rec) lp :: stA 74 bx [.map (some b)] :: M)) (m.length + 1) ⟨[], m, none, rfl, List.Perm.refl _, fr.sub ⟨rfl, rfl, trivial⟩, S⟩ ?_ ?_
 ·rintro a w ⟨l, left, cur, h, -⟩
  omega
 rintro q a w ⟨l, left, cur, hq, hp, fr, S⟩
 refine r_ rfl ?_
 refine wl_next ptO_vok fr rfl rfl rfl rfl rfl S ?_ ?_
 ·intro hl a fr
  subst hl
  refine wl_run oQ_ 1 rfl fr fun a fr => ?_
  refine eq_ rfl rfl ?_
  refine cw_f fr rfl ?_
  refine wp_exit ?_
  skip; (repeat (first | (with_reducible refine then_e ?_) | (with_reducible refine ng_e ?_) | (with_reducible refine blk_e (by decide) ?_))); (with_reducible refine blk_y ?_); (repeat (with_reducible refine then_n ?_))
  refine end_ret ?_
  have S := S.iterEnd
  have S : Sat w0 _ (Z l :: objA (.loop rec) lp :: stA 74 bx [.map (some b)] :: mapA .u32 ptO b m :: M) := S.perm ((List.Perm.swap _ _ _).trans (List.Perm.cons _ ((List.Perm.swap _ _ _).trans (List.Perm.cons _ (List.Perm.swap _ _ _)))))
  refine ret0 fr rfl ?_
  exact ⟨rfl, l, by simpa using hp, S⟩
 ·intro w2 p l1 l2 hl S1 a fr
  subst hl
  have S := S1
  clear S1
  refine wl_run oQ_ 1 rfl fr fun a fr => ?_
  refine eq_ rfl rfl ?_
  refine cw_t fr rfl ?_
  refine wp_skip ?_
  repeat with_reducible refine then_n ?_
  refine wp_block ?_
  refine r_ rfl ?_
  refine wl_entry ptO_vok fr rfl rfl rfl rfl rfl S ?_
  intro a fr
  refine wl_run oQ_ 2 rfl fr fun a fr => ?_
  first | refine e_ ?_ | refine wpList_nil ?_
  skip; (repeat (with_reducible refine wp_seq ?_)); refine reg_out (n := 3) ?_
  refine wli_run oQ_ 2 rfl fr fun a fr => ?_
  have hlp := Sat.objAt S 2 rfl
  have hv := fr.int (d := 3) rfl
  have hlen := hp.length_eq
  simp only [List.length_append, List.length_map, List.length_cons, keysM] at hlen
  have S2 : Sat w0 _ (Z l :: objA (.loop rec) lp :: iterA .u32 ptO b r m (l1 ++ l2) (some p) :: stA 74 bx [.map (some b)] :: M) := S.perm ((List.Perm.swap _ _ _).trans (List.Perm.cons _ (List.Perm.swap _ _ _)))
  refine wli_yield fr rfl rfl rfl rfl rfl rfl rfl (run_yield (P := Tryz.prog) (args := #[.int .u32 p.1]) hlp (by rw [hps]; rfl)) (hround _ l p.1 _ hv (by omega) S2) ?_
  intro w3 S a fr
  refine wli_run oQ_ 1 rfl fr fun a fr => ?_
  refine wpListIn_nil ?_
  refine q_ rfl ?_
  refine cw_f fr rfl ?_
  refine wp_skip ?_
  refine blk_n ?_
  repeat with_reducible refine then_n ?_
  have S : Sat w0 _ (iterA .u32 ptO b r m (l1 ++ l2) (some p) :: Z (l ++ [p.1]) :: objA (.loop rec) lp :: stA 74 bx [.map (some b)] :: M) := S.frontAt 2 rfl
  refine ⟨l ++ [p.1], l1 ++ l2, some p, by simp at hq ⊢; omega, ?_, fr.sub ⟨rfl, rfl, trivial⟩, S⟩
  refine List.Perm.trans ?_ hp
  rw [List.map_append, List.map_append, List.map_cons, List.append_assoc, List.singleton_append]
  exact List.Perm.append_left l List.perm_middle.symm
def varRow (B : Nat) (l : List Int) : Asn := exA fun p : Option Addr × Nat => sepA (stA 72 B [.slice p.1 l.length p.2]) (ownA .u32 31 p.1 p.2 l)
theorem appseq {w0 w : World} {M : List Asn} {bx b : Nat} {m : List (Int × Option Nat)} (hc : m.length ≤ 100000) (S : Sat w0 w (stA 74 bx [.map (some b)] :: mapA .u32 ptO b m :: M)) :
  Calls Tryz.prog 85 #[.slice none 0 0, .func (.func 58) #[] #[.pointer (some ⟨bx, 0, none⟩)]] w fun e w' => ∃ A c l, e = .returned (.slice A l.length c) ∧ vok (.slice A l.length c) = true ∧ l.Perm (keysM m) ∧ Sat w0 w' (ownA .u32 31 A c l :: stA 74 bx [.map (some b)] :: mapA .u32 ptO b m :: M) := by
 refine calls_marks (N := 13) [.slice none 0 0, .func (.func 58) #[] #[.pointer (some ⟨bx, 0, none⟩)]] Tryz.func85 rfl rfl rfl rfl fun a fr => ?_
 refine r_ rfl ?_
 refine wl_boxv fr rfl rfl rfl rfl rfl rfl S ?_
 intro w1 Bs S a fr
 refine wl_run oQ_ 1 rfl fr fun a fr => ?_
 refine er_ rfl rfl ?_
 refine wl_run oQ_ 1 rfl fr fun a fr => ?_
 refine eq_ rfl rfl ?_
 refine wp_block ?_
 have S := S.nilRow .u32 31
 have S : Sat w0 _ (stA 72 Bs [.slice none 0 0] :: ownA .u32 31 none 0 [] :: stA 74 bx [.map (some b)] :: mapA .u32 ptO b m :: M) := S.frontAt 1 rfl
 have S : Sat w0 _ (varRow Bs [] :: stA 74 bx [.map (some b)] :: mapA .u32 ptO b m :: M) := Sat.toEx (none, 0) S.toSep
 refine cw_rangeF fr rfl enIter S ?_
 intro fn lp D w2 S
 have S : Sat w0 _ (varRow Bs [] :: objA (.loop _) lp :: stA 74 bx [.map (some b)] :: mapA .u32 ptO b m :: objA (.deferred (some [])) D :: M) := (((S.frontAt 4 rfl).frontAt 4 rfl).frontAt 2 rfl).frontAt 4 rfl
 refine (keys_iter (varRow Bs) hc rfl S ?_).mono ?_
 ·intro w3 l x M hx hl S
  have fr7 := fr.put (d := 7) (v := .int .u32 x) (by decide) hx
  have hact : a.put (some 7) (.int .u32 x) = { tmps := (#[7].zip #[Value.int .u32 x]).foldl (fun tmps (t, a) => tmps.setIfInBounds t a) a.tmps, defers := [] } := by
   have := fr.defers
   cases a
   simp only at this
   subst this
   simp [Act.put]
  rw [hact] at fr7
  refine roundIn_of_wpIn trivial ?_
  refine regIn (fun _ _ h => h) (by simp) ?_
  refine wl_run oQ_ 1 rfl fr7 fun a' fr => ?_
  refine wpList_nil ?_
  have hlp := Sat.objAt S 1 rfl
  refine ⟨_, run_beginRound hlp rfl, ?_⟩
  have S : Sat w0 _ (objA (.loop _) lp :: varRow Bs l :: M) := S.frontAt 1 rfl
  have S := S.putLoop fun r => { r with state := .busy }
  have S : Sat w0 _ (varRow Bs l :: objA (.loop _) lp :: M) := S.frontAt 1 rfl
  obtain ⟨⟨A, c⟩, S⟩ := S.ofEx
  have S := S.ofSep
  have hcl := S.tl.own
  refine wpIn_block ?_
  refine regIn (fun _ _ h => h) (by simp) ?_
  refine wl_ldf oQ_ (Sat.varAt S 0 rfl) fr rfl rfl rfl rfl rfl rfl rfl fun a' fr => ?_
  refine wl_run oQ_ 1 rfl fr fun a fr => ?_
  refine wl_lit (xs := [x]) oQ_ litW fr rfl rfl rfl rfl ⟨rfl, rfl, trivial⟩ rfl rfl S ?_
  intro w4 A4 c4 S a4 fr
  have hk := Sat.ownAt S 0 rfl
  have S : Sat w0 _ (ownA .u32 31 A c l :: ownA .u32 31 A4 c4 [x] :: stA 72 Bs [.slice A l.length c] :: objA (.loop _) lp :: M) := S.frontAt 2 rfl
  refine wl_app litW fr rfl rfl rfl rfl rfl rfl rfl rfl hk (by simp only [List.length_cons, List.length_nil]; omega) S ?_
  intro w5 A5 c5 S a5 fr
  have S : Sat w0 _ (ownA .u32 31 A5 c5 (l ++ [x]) :: stA 72 Bs [.slice A l.length c] :: objA (.loop _) lp :: M) := S.mask [true, false]
  have S : Sat w0 _ (stA 72 Bs [.slice A l.length c] :: ownA .u32 31 A5 c5 (l ++ [x]) :: objA (.loop _) lp :: M) := S.frontAt 1 rfl
  refine wl_stv oQ_ fr rfl rfl rfl rfl rfl rfl rfl rfl S ?_
  intro w6 S
  refine wpList_nil ?_
  have S : Sat w0 _ (varRow Bs (l ++ [x]) :: objA (.loop _) lp :: M) := Sat.toEx (A5, c5) S.toSep
  have S : Sat w0 _ (objA (.loop _) lp :: varRow Bs (l ++ [x]) :: M) := S.frontAt 1 rfl
  refine ⟨_, _, run_endRound none (Sat.objAt S 0 rfl), rfl, ?_⟩
  exact (S.putObj _).frontAt 1 rfl
 ·rintro e w3 ⟨rfl, l, hp, S⟩
  refine ⟨⟨_, rfl⟩, Sat.objAt S 1 rfl, ?_⟩
  have S : Sat w0 _ (objA (.loop _) lp :: varRow Bs l :: stA 74 bx [.map (some b)] :: mapA .u32 ptO b m :: objA (.deferred (some [])) D :: M) := S.frontAt 1 rfl
  have S := S.putLoop fun r => { r with state := .exhausted }
  refine blk_n ?_
  repeat with_reducible refine then_n ?_
  obtain ⟨tm, df⟩ := a
  have hdf : df = [] := fr.defers
  subst hdf
  refine r_ rfl ?_
  have S : Sat w0 _ (varRow Bs l :: objA (.loop _) lp :: stA 74 bx [.map (some b)] :: mapA .u32 ptO b m :: objA (.deferred (some [])) D :: M) := S.frontAt 1 rfl
  obtain ⟨⟨A, c⟩, S⟩ := S.ofEx
  have S := S.ofSep
  have hcl := S.tl.own
  have hv := Sat.varAt S 0 rfl
  have fr2 := fr.put (d := 12) (v := .slice A l.length c) (by decide) hv.2
  have fr3 := fr2.put (d := 4) (v := .slice A l.length c) (by decide) hv.2
  refine wl_raw (v := .slice A l.length c) rfl (load_run oQ_ fr (o := ⟨some 12, .load 72 (.tmp 2), 0, "", #[], none⟩) rfl rfl rfl rfl hv.1) ?_
  refine wl_raw (v := .slice A l.length c) rfl (congrArg (fun v => Result.ok (Next.value v) _) (fr2.ev (o := .tmp 12) rfl).1) ?_
  first | refine e_ ?_ | refine wpList_nil ?_
  refine wp_ret ?_
  refine ⟨by simp, .inl ⟨_, _, rfl, run_takeDeferred (Sat.objAt S 5 rfl), ?_⟩⟩
  have S : Sat w0 _ (objA (.deferred (some [])) D :: stA 72 Bs [.slice A l.length c] :: ownA .u32 31 A c l :: objA (.loop _) lp :: stA 74 bx [.map (some b)] :: mapA .u32 ptO b m :: M) := S.frontAt 5 rfl
  have S := S.putObj (.deferred none)
  have S : Sat w0 _ (ownA .u32 31 A c l :: stA 74 bx [.map (some b)] :: mapA .u32 ptO b m :: M) := S.mask [false, false, true, false]
  refine ⟨.slice A l.length c, ?_, A, c, l, rfl, hv.2, hp, S⟩
  rw [results_tmp rfl, Array.getD_eq_getD_getElem?]
  exact congrArg (fun (o : Option Value) => Result.ok (o.getD undef) _) (fr3.get 4 _ rfl).1
theorem collect_walk {w0 w : World} {M : List Asn} {bx b : Nat} {m : List (Int × Option Nat)} (hc : m.length ≤ 100000) (S : Sat w0 w (stA 74 bx [.map (some b)] :: mapA .u32 ptO b m :: M)) :
  Calls Tryz.prog 56 #[.func (.func 58) #[] #[.pointer (some ⟨bx, 0, none⟩)]] w fun e w' => ∃ A c l, e = .returned (.slice A l.length c) ∧ vok (.slice A l.length c) = true ∧ l.Perm (keysM m) ∧ Sat w0 w' (ownA .u32 31 A c l :: stA 74 bx [.map (some b)] :: mapA .u32 ptO b m :: M) := by
 refine calls_start (N := 5) [.func (.func 58) #[] #[.pointer (some ⟨bx, 0, none⟩)]] Tryz.func56 rfl rfl rfl rfl fun a fr => ?_
 refine r_ rfl ?_
 refine wl_run oQ_ 1 rfl fr fun a fr => ?_
 refine er_ rfl rfl ?_
 refine wl_run oQ_ 1 rfl fr fun a fr => ?_
 refine wl_call fr rfl rfl rfl rfl enAps (appseq hc S) ?_
 rintro _ w1 ⟨A, c, l, rfl, hv, hp, S⟩
 refine ⟨_, rfl, hv, fun a fr => ?_⟩
 refine wl_run oQ_ 1 rfl fr fun a fr => ?_
 first | refine e_ ?_ | refine wpList_nil ?_
 refine wp_ret ?_
 refine ret1 fr rfl rfl ?_
 exact ⟨A, c, l, rfl, hv, hp, S⟩
def risen (l : List Int) : List Int := l.mergeSort fun x y => decide (x ≤ y)
theorem risen_perm {l m : List Int} (h : l.Perm m) : risen l = risen m := by
 refine List.Perm.eq_of_pairwise (le := fun x y => x ≤ y) (fun a b _ _ h1 h2 => Int.le_antisymm h1 h2) ?_ ?_ ((List.mergeSort_perm _ _).trans (h.trans (List.mergeSort_perm _ _).symm))
 all_goals
  have := List.pairwise_mergeSort (le := fun (x y : Int) => decide (x ≤ y)) (fun a b c h1 h2 => by simp only [decide_eq_true_eq] at *; omega) (fun a b => by simp only [Bool.or_eq_true, decide_eq_true_eq]; omega)
  first
   | simpa [risen] using this l
   | simpa [risen] using this m
theorem sorted_walk {w0 w : World} {M : List Asn} {bx b : Nat} {m : List (Int × Option Nat)} (hc : m.length ≤ 1000) (S : Sat w0 w (stA 74 bx [.map (some b)] :: mapA .u32 ptO b m :: M)) :
  Calls Tryz.prog 24 #[.func (.func 58) #[] #[.pointer (some ⟨bx, 0, none⟩)]] w fun e w' => ∃ A c, e = .returned (.slice A (risen (keysM m)).length c) ∧ vok (.slice A (risen (keysM m)).length c) = true ∧ Sat w0 w' (ownA .u32 31 A c (risen (keysM m)) :: mapA .u32 ptO b m :: M) := by
 refine calls_start (N := 9) [.func (.func 58) #[] #[.pointer (some ⟨bx, 0, none⟩)]] Tryz.func24 rfl rfl rfl rfl fun a fr => ?_
 refine r_ rfl ?_
 refine wl_run oQ_ 1 rfl fr fun a fr => ?_
 refine er_ rfl rfl ?_
 refine wl_run oQ_ 1 rfl fr fun a fr => ?_
 refine wl_call fr rfl rfl rfl rfl enCol (collect_walk (by omega) S) ?_
 rintro _ w1 ⟨A, c, l, rfl, hv, hp, S⟩
 refine ⟨_, rfl, hv, fun a fr => ?_⟩
 refine wl_run oQ_ 1 rfl fr fun a fr => ?_
 first | refine e_ ?_ | refine wpList_nil ?_
 have hlen : l.length ≤ 1000 := by rw [hp.length_eq]; simpa [keysM] using hc
 obtain ⟨k, hk⟩ := sort_pl l hlen
 have S := S.toRow
 refine r_ rfl ?_
 refine wl_run oQ_ 1 rfl fr fun a fr => ?_
 refine wl_call fr rfl rfl rfl rfl enSrt (st_.walk k A c l.length l (fr.slice (d := 6) rfl) S hk) ?_
 rintro _ w2 ⟨rfl, S⟩
 refine ⟨_, rfl, rfl, fun a fr => ?_⟩
 refine er_ rfl rfl ?_
 refine wl_run oQ_ 2 rfl fr fun a fr => ?_
 first | refine e_ ?_ | refine wpList_nil ?_
 refine wp_ret ?_
 refine ret1 fr rfl rfl ?_
 have hr : (l.mergeSort fun x y => decide (x ≤ y)) = risen (keysM m) := risen_perm hp
 rw [hr] at S
 have hv := fr.vok (d := 2) rfl
 obtain ⟨en, S⟩ := S.ofRow
 rw [← en] at hv ⊢
 exact ⟨A, c, rfl, hv, S.mask [true, false]⟩
theorem keys_call {w0 w : World} {M : List Asn} {b : Nat} (S : Sat w0 w M) :
  Calls Tryz.prog 25 #[.map (some b)] w fun e w' => ∃ bx, e = .returned (.func (.func 58) #[] #[.pointer (some ⟨bx, 0, none⟩)]) ∧ Sat w0 w' (stA 74 bx [.map (some b)] :: M) := by
 refine calls_start (N := 4) [.map (some b)] Tryz.func25 rfl rfl rfl rfl fun a fr => ?_
 refine r_ rfl ?_
 refine wl_boxv fr rfl rfl rfl rfl rfl rfl S ?_
 intro w1 bx S a fr
 refine wl_val (v := .nilFunc) fr rfl rfl rfl rfl rfl fun a fr => ?_
 refine er_ rfl rfl ?_
 refine wl_makef (xs := [.pointer (some ⟨bx, 0, none⟩)]) fr rfl rfl rfl rfl rfl ?_
 intro a fr
 refine wl_run oQ_ 1 rfl fr fun a fr => ?_
 first | refine e_ ?_ | refine wpList_nil ?_
 refine wp_ret ?_
 refine ret1 fr rfl rfl ?_
 exact ⟨bx, rfl, S⟩
end Go.Proofs.YticnjkdaccacaaaGreat.Sx
end
