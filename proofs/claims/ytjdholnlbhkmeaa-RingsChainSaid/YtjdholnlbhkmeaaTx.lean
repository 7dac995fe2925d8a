/- The contract of rings.Order, among the things in memory. -/
import Derived.Test.YtjdholnlbhkmeaaTw
import Derived.Test.YtjdholnlbhkmeaaRo
namespace Go.Proofs.Ytjdholnlbhkmeaa.Sx
open Go Go.RowKit Base Own

def ordR (l0 l1 : List Int) : Option (List Int) := if l0.length = l1.length then ordF (l0.zip l1) else none
theorem order_call {w0 w : World} {R : List Asn} {A A1 : Option Addr} {c c1 : Nat} {l l1 : List Int} (rk0 : Rk .u32 w A l) (rk1 : Rk .u32 w A1 l1) (m0 : l.length ≤ c ∧ c ≤ maxLen) (m1 : l1.length ≤ c1 ∧ c1 ≤ maxLen) (hb : l.length ≤ 500) (S : Sat w0 w R) :
    Calls Try.prog 18 #[.slice A l.length c, .slice A1 l1.length c1] w fun e w' => ∃ A2 c2, e = .returned (.tuple #[.slice A2 ((ordR l l1).getD []).length c2, .bool (ordR l l1).isSome]) ∧ vok (.tuple #[.slice A2 ((ordR l l1).getD []).length c2, .bool (ordR l l1).isSome]) = true ∧ Sat w0 w' (ownA .u32 23 A2 c2 ((ordR l l1).getD []) :: R) :=
  (order_key A A1 c c1 l l1 rk0 rk1 m0 m1 hb _ rfl).mono fun e w' ⟨A2, c2, h1, h2, h3⟩ => ⟨A2, c2, h1, by
    show [Value.slice A2 ((ordR l l1).getD []).length c2, Value.bool (ordR l l1).isSome].all vokC = true
    rw [List.all_cons, List.all_cons, List.all_nil]
    have h2' : vokC (.slice A2 ((ordR l l1).getD []).length c2) = true := h2
    rw [h2']; rfl, S.join h3 (fun A hA F => by simp only [List.mem_cons, List.not_mem_nil, or_false] at hA; subst hA; exact own_lower S.below.size F)⟩
theorem ids_call {w : World} {A : Option Addr} {n c : Nat} (hv : vok (.slice A n c) = true) : Calls Try.prog 23 #[.slice A n c] w fun e w' => e = .returned (.slice A n c) ∧ w = w' := by
  refine calls_start (N := 4) [.slice A n c] Try.func23 rfl rfl rfl (vok_c hv rfl) fun a fr => ?_
  skip; (repeat (with_reducible refine wp_seq ?_)); refine wp_region_lit ?_
  refine wl_run orcO_ok 1 rfl fr fun a fr => ?_
  refine wpList_nil ?_; (repeat (with_reducible refine then_n ?_))
  skip; (repeat (with_reducible refine wp_seq ?_)); refine wp_region_lit ?_
  refine wl_run orcO_ok 2 rfl fr fun a fr => ?_
  refine wpList_nil ?_; (repeat (with_reducible refine then_n ?_))
  refine wp_ret ?_
  refine ret1 fr rfl rfl ?_
  exact ⟨rfl, rfl⟩
end Go.Proofs.Ytjdholnlbhkmeaa.Sx
