/- bytes.Equal, walked; bytes as text. -/
import Derived.Test.YtmpkoacpakepfaaWo
namespace Go.Proofs.Ytmpkoacpakepfaa.Sx
open Go Go.RowKit Base Own Disk

def orcE : Orc := ⟨[(22, .slice 5), (9, .string), (4, .bool)], []⟩
theorem orcE_ok : orcE.Ok Try.prog := ⟨⟨Try.underlying22, Try.underlying9, Try.underlying4, trivial⟩, trivial⟩
section
variable {w w0 : World} {R : List Asn}
theorem conv_exec {N : Nat} {a : Act} {L : Env} {Df : List Deferred} (fr : FrD Df N a L) {o : Oper} {x : Operand} {A : Option Addr} {n c : Nat} {l : List Int} (ho : o.op = .convert 22 9 x) (hx : ev L x = some (.slice A n c)) (hn : n = l.length) (rk : Rk .u8 w A l) :
    (execOp a.eval o).run Try.prog w = .ok (.value (.string (strOfNums l))) w := by
  subst hn
  unfold execOp
  simp only [ho, (fr.ev hx).1]
  rw [Sem.run_bind, Bytes.conv_str Try.prog w 22 5 Try.underlying22 Try.underlying5 A l.length c l rfl rk.rd 9 Try.underlying9]
  rfl
theorem str_eq {a b : List Int} (ha : Bytes.Bts a) (hb : Bytes.Bts b) : ((strOfNums a).toList == (strOfNums b).toList) = decide (a = b) := by
  by_cases h : a = b
  · subst h; simp
  · rw [decide_eq_false h]
    have : ¬ (strOfNums a).toList = (strOfNums b).toList := fun e => h (Bytes.str_inj a b ha hb (by
      have e1 : (strOfNums a).toList = (strOfNums a).data.toList := ByteArray.toList_eq _
      have e2 : (strOfNums b).toList = (strOfNums b).data.toList := ByteArray.toList_eq _
      rw [e1, e2] at e
      exact ByteArray.ext (Array.toList_inj.1 e)))
    simpa using this
theorem equal_call {A B : Option Addr} {ca cb : Nat} {a b : List Int} (ra : Rk .u8 w A a) (rb : Rk .u8 w B b) (ma : a.length ≤ ca ∧ ca ≤ maxLen) (mb : b.length ≤ cb ∧ cb ≤ maxLen) :
    Calls Try.prog 30 #[.slice A a.length ca, .slice B b.length cb] w fun e w' => e = .returned (.bool (decide (a = b))) ∧ w' = w := by
  refine calls_start (N := 10) [.slice A a.length ca, .slice B b.length cb] Try.func30 rfl rfl rfl (vok_c (vok_sl ma) (vok_c (vok_sl mb) rfl)) fun a fr => ?_
  skip; (repeat (with_reducible refine wp_seq ?_)); refine wp_region_lit ?_
  refine wl_run orcE_ok 1 rfl fr fun a fr => ?_
  refine wpList_nil ?_; (repeat (with_reducible refine then_n ?_))
  skip; (repeat (with_reducible refine wp_seq ?_)); refine wp_region_lit ?_
  refine wl_run orcE_ok 1 rfl fr fun a fr => ?_
  refine wl_val fr rfl rfl rfl (conv_exec fr rfl rfl rfl ra) rfl fun a fr => ?_
  refine wl_run orcE_ok 1 rfl fr fun a fr => ?_
  refine wl_val fr rfl rfl rfl (conv_exec fr rfl rfl rfl rb) rfl fun a fr => ?_
  refine wl_run orcE_ok 2 rfl fr fun a fr => ?_
  refine wpList_nil ?_; (repeat (with_reducible refine then_n ?_))
  refine wp_ret ?_
  refine ret1 fr rfl rfl ?_
  exact ⟨congrArg (fun b => Ending.returned (.bool b)) (str_eq ra.bytes rb.bytes), rfl⟩
end
end Go.Proofs.Ytmpkoacpakepfaa.Sx
