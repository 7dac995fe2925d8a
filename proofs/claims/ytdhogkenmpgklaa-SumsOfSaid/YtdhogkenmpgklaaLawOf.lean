/- SumsOf walked. -/
import Derived.Test.YtdhogkenmpgklaaRef03
import Derived.Test.YtdhogkenmpgklaaTwinBytes
namespace Go.Proofs.Ytdhogkenmpgklaa.LawOf
open Go.RowKit Crc Sums Base Own

set_option maxRecDepth 100000 in
theorem law (B : Option Addr) (cb : Nat) (b : List Int) (s : BitVec 32) (w : World) (hbb : Bts b) (hrb : Rd .u8 w B b) :
    Calls Try.prog 3 #[.slice B b.length cb, .int .u32 (num s)] w fun e w' => e = .returned (.bool true) ∧ Below w.heap.size w w' := by
  by_cases hbig : 100000 < b.length
  · go_enter Try.func3, Try.ntmps3
    go_wp2
    go_ret
    exact ⟨rfl, Below.refl _ _⟩
  · have HBB := Lib.hid hbb
    have HRB := Lib.hid hrb
    clear hbb hrb
    go_enter Try.func3, Try.ntmps3
    go_wp2_with fail
    refine (TwinBytes.twin B cb b w (by omega) HRB.out).mono ?_
    rintro e w1 ⟨v, rfl, ht, bd⟩
    obtain ⟨g, cc, rfl, hcc, hg, _, hr⟩ := ht.reads
    have HT := Lib.hid ht
    have HR := Lib.hid hr
    clear ht hr
    go_wp2_with fail
    refine (of_any _ cc b w1 (by omega) HBB.out HR.out).mono ?_
    rintro e v2 ⟨rfl, hn⟩
    have bd2 := bd.trans (below_weak bd.size hn)
    have HT2 := Lib.hid (HT.out.new hn)
    have HR2 := Lib.hid (HR.out.below hn)
    clear hn bd HT HR
    go_wp2_with fail
    refine (Ref03.of_any B cb b v2 (by omega) HBB.out (HRB.out.below bd2)).mono ?_
    rintro e v3 ⟨rfl, rfl⟩
    go_wp2_with fail
    refine (on_any s _ cc b v2 (by omega) HBB.out HR2.out).mono ?_
    rintro e v4 ⟨rfl, hn⟩
    have bd4 := bd2.trans (below_weak bd2.size hn)
    have HT4 := Lib.hid (HT2.out.new hn)
    clear hn bd2 HT2 HR2
    go_wp2_with fail
    refine (Ref03.on_any s B cb b v4 (by omega) HBB.out (HRB.out.below bd4)).mono ?_
    rintro e v5 ⟨rfl, rfl⟩
    go_wp2_with fail
    refine (TwinBytes.left _ B cb w.heap.size b v4 (by omega) HT4.out (HRB.out.below bd4)).mono ?_
    rintro e v6 ⟨rfl, hn⟩
    have bd6 := bd4.trans (below_weak bd4.size hn)
    go_wp2
    go_ret
    exact ⟨rfl, bd6⟩
theorem sumsOf (B : Option Addr) (cb : Nat) (b : List Int) (y : Int) (w : World)
    (_ : b.length ≤ cb) (_ : b.length ≤ 140737488351232) (wb : ∀ n ∈ b, (Lit.int .u8 n).wf = true) (hrb : Rd .u8 w B b) (wy : (Lit.int .u32 y).wf = true) :
    Calls Try.prog 3 #[.slice B b.length cb, .int .u32 y] w fun e w' => e = .returned (.bool true) ∧ Below w.heap.size w w' := by
  have hy := bounds_u32 wy
  have := law B cb b (BitVec.ofInt 32 y) w (fun x hx => by have := bounds_u8 (wb x hx); omega) hrb
  rwa [num_of (by omega) (by omega)] at this
end Go.Proofs.Ytdhogkenmpgklaa.LawOf
