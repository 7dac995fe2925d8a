/- Texts of this work, one behind the other. -/
import Derived.Test.YticnjkdaccacaaaGreatVChiefsGone5
import Derived.IntWalk
import Derived.Sort.AssemblyPlain
import Derived.Sort.LotC
import Derived.Sort.Lot0
import Derived.Sort.LotD3
import Derived.Test.YticnjkdaccacaaaGreatProg
import Derived.Laws.RangeString
section
namespace Go.Proofs.YticnjkdaccacaaaGreat.Pl
open Go Go.RowKit Sx Base _root_.Go.Proofs.YticnjkdaccacaaaGreat.Own
end Go.Proofs.YticnjkdaccacaaaGreat.Pl
end
section
namespace Go.Proofs.YticnjkdaccacaaaGreat.Pl
open Go Go.RowKit Sx Base _root_.Go.Proofs.YticnjkdaccacaaaGreat.Own QSortuint32uint32
theorem bs {n i : Nat} (h : i < n) : (0 : Int) ≤ (i : Int) ∧ (i : Int) < (n : Int) := by omega
end Go.Proofs.YticnjkdaccacaaaGreat.Pl
end
section
namespace Go.Proofs.YticnjkdaccacaaaGreat.Pl
open Go Go.RowKit Sx Base _root_.Go.Proofs.YticnjkdaccacaaaGreat.Own QSortuint32uint32
end Go.Proofs.YticnjkdaccacaaaGreat.Pl
end
section
namespace Go.Proofs.YticnjkdaccacaaaGreat.Pl
open Go Go.RowKit Sx Base _root_.Go.Proofs.YticnjkdaccacaaaGreat.Own QSortuint32uint32
end Go.Proofs.YticnjkdaccacaaaGreat.Pl
end
section
namespace Go.Proofs.YticnjkdaccacaaaGreat.Pl
open Go Go.RowKit Sx Base _root_.Go.Proofs.YticnjkdaccacaaaGreat.Own QSortuint32uint32
end Go.Proofs.YticnjkdaccacaaaGreat.Pl
end
section
namespace Go.Proofs.YticnjkdaccacaaaGreat.Pl
open Go Go.RowKit Sx Base _root_.Go.Proofs.YticnjkdaccacaaaGreat.Own QSortuint32uint32
end Go.Proofs.YticnjkdaccacaaaGreat.Pl
end
section
namespace Go.Proofs.YticnjkdaccacaaaGreat.Pl
open Go Go.RowKit Sx Base _root_.Go.Proofs.YticnjkdaccacaaaGreat.Own QSortuint32uint32
end Go.Proofs.YticnjkdaccacaaaGreat.Pl
end
section
namespace Go.Proofs.YticnjkdaccacaaaGreat.Pl
open Go Go.RowKit Sx Base _root_.Go.Proofs.YticnjkdaccacaaaGreat.Own QSortuint32uint32
end Go.Proofs.YticnjkdaccacaaaGreat.Pl
end
section
namespace Go.Proofs.YticnjkdaccacaaaGreat.Pl
open Go Go.RowKit Sx Base _root_.Go.Proofs.YticnjkdaccacaaaGreat.Own QSortuint32uint32
end Go.Proofs.YticnjkdaccacaaaGreat.Pl
end
section
namespace Go.Proofs.YticnjkdaccacaaaGreat.Pl
open Go Go.RowKit Sx Base _root_.Go.Proofs.YticnjkdaccacaaaGreat.Own QSortuint32uint32
end Go.Proofs.YticnjkdaccacaaaGreat.Pl
end
section
namespace Go.Proofs.YticnjkdaccacaaaGreat.Pl
open Go Go.RowKit Sx Base _root_.Go.Proofs.YticnjkdaccacaaaGreat.Own QSortuint32uint32
end Go.Proofs.YticnjkdaccacaaaGreat.Pl
end
section
namespace Go.Proofs.YticnjkdaccacaaaGreat.Sx
open Go Go.RowKit Base _root_.Go.Proofs.YticnjkdaccacaaaGreat.Own QSortuint32uint32 Pl
end Go.Proofs.YticnjkdaccacaaaGreat.Sx
end
section
namespace Go.Proofs.YticnjkdaccacaaaGreat.Sx
open Go Go.RowKit Base _root_.Go.Proofs.YticnjkdaccacaaaGreat.Own QSortuint32uint32
theorem orc0 : (⟨[], []⟩ : Orc).Ok Tryz.prog := ⟨trivial, trivial⟩
theorem clk_new {w0 w : World} {R : List Asn} (S : Sat w0 w R) : Calls Tryz.prog 51 #[] w fun e w' => ∃ b g, e = .returned (.pointer (some ⟨b, 0, none⟩)) ∧
    Sat w0 w' (stA 131 b [.int .i64 0, .map (some g)] :: mapA .u32 (Value.int .i64) g [] :: R) := by
  refine calls_start (N := 4) [] Tryz.func51 rfl rfl rfl rfl fun a fr => ?_
  refine wp_seq ?_
  refine wp_region_lit ?_
  refine wl_run orc0 1 rfl fr fun a fr => ?_
  refine wpList_nil ?_
  refine then_n ?_
  refine wp_seq ?_
  refine wp_region_lit ?_
  refine wl_mkmap .u32 (Value.int .i64) fr rfl rfl rfl rfl S ?_
  intro w g S a fr
  refine wl_build (cs := [.int .i64 0, .map (some g)]) (L2 := [(1, .map (some g))]) fr rfl rfl rfl rfl (by simpa using (fr.ev (o := .tmp 1) rfl).1) (by kernel_rfl) rfl fun a fr => ?_
  refine wl_boxs fr rfl rfl rfl rfl rfl rfl S ?_
  intro w b S a fr
  refine wl_run orc0 1 rfl fr fun a fr => ?_
  refine wpList_nil ?_
  refine then_n ?_
  refine wp_ret ?_
  refine ret1 fr rfl rfl ?_
  exact ⟨b, g, rfl, S⟩
end Go.Proofs.YticnjkdaccacaaaGreat.Sx
end
section
namespace Go.Proofs.YticnjkdaccacaaaGreat.Sx
open Go Go.RowKit Base _root_.Go.Proofs.YticnjkdaccacaaaGreat.Own
def sLt (x y : ByteArray) : Bool := Op.bytesLess x.toList y.toList
def sLe (x y : ByteArray) : Bool := sLt x y || x.toList == y.toList
def sMax (x y : ByteArray) : ByteArray := if !sLt x y then x else y
theorem decode_le (s : ByteArray) (pos : Nat) : (Utf8.decode s pos).1 ≤ 2097152 := by
  have hb : (s.get! (pos + 0)).toNat < 256 := UInt8.toNat_lt _
  have he : Utf8.runeError = 65533 := rfl
  unfold Utf8.decode
  dsimp only
  repeat' split
  all_goals (simp only [he]; omega)
theorem decode_big {s : ByteArray} {pos : Nat} (h : ¬ (s.get! pos).toNat < 128) : 128 ≤ (Utf8.decode s pos).1 := by
  have he : Utf8.runeError = 65533 := rfl
  have h : ¬ (s.get! (pos + 0)).toNat < 128 := h
  unfold Utf8.decode
  dsimp only
  repeat' split
  all_goals first
    | (simp only [he]; omega)
    | (simp_all; omega)
    | (simp_all)
theorem decode_small {s : ByteArray} {pos : Nat} (h : (s.get! pos).toNat < 128) : Utf8.decode s pos = ((s.get! pos).toNat, 1) := by
  have h : (s.get! (pos + 0)).toNat < 128 := h
  unfold Utf8.decode
  dsimp only
  split
  · rfl
  · contradiction
section
variable {P : Program} {T : Orc} {ops : Array Oper} {Q : Exit → Act → World → Prop} {Df : List Deferred} {N : Nat} {a : Act} {w w0 : World} {L : Env} {R : List Asn}
theorem bs (d : Nat) {b : Bool} {X : Prop} (fr : FrD Df N a L) (hd : L.lookup d = some (.bool b)) (ht : b = true → FrD Df N a ((d, .bool true) :: L) → X) (hf : b = false → FrD Df N a ((d, .bool false) :: L) → X) : X := by
  cases hb : b with
  | true => exact ht hb (fr.bool hd hb)
  | false => exact hf hb (fr.bool hd hb)
theorem wl_sle {o : Oper} {rest : List Oper} {t ty : TypeId} {x y : Operand} {d : Nat} {s u : ByteArray} (fr : FrD Df N a L) (hw : wantL ops L o = some true) (ho : o.op = .binOp .leq t x y ty) (hd : o.dst = some d) (hlt : Nat.blt d N = true) (hx : ev L x = some (.string s)) (hy : ev L y = some (.string u))
    (h : ∀ a', FrD Df N a' ((d, .bool (sLe s u)) :: L) → wpList P ops Q rest a' w) : wpList P ops Q (o :: rest) a w := by
  refine wl_val fr hw hd hlt (w' := w) ?_ rfl h
  unfold execOp
  simp only [ho, (fr.ev hx).1, (fr.ev hy).1]
  rfl
theorem wl_smax {o : Oper} {rest : List Oper} {x y : Operand} {ts : Array TypeId} {d : Nat} {s u : ByteArray} (fr : FrD Df N a L) (hw : wantL ops L o = some true) (ho : o.op = .call { callee := .builtin .max, args := #[x, y], argTypes := ts }) (hd : o.dst = some d) (hlt : Nat.blt d N = true) (hx : ev L x = some (.string s)) (hy : ev L y = some (.string u))
    (h : ∀ a', FrD Df N a' ((d, .string (sMax s u)) :: L) → wpList P ops Q rest a' w) : wpList P ops Q (o :: rest) a w := by
  refine wl_val fr hw hd hlt (w' := w) ?_ rfl h
  unfold execOp
  simp only [ho, resolve]
  rw [Sem.run_bind, Sem.run_pure, Result.andThen_ok]
  have e : (#[x, y] : Array Operand).map a.eval = #[Value.string s, .string u] := by simp [(fr.ev hx).1, (fr.ev hy).1]
  simp only [invoke, e]
  rfl
theorem wl_slen (hT : T.Ok P) {o : Oper} {rest : List Oper} {x : Operand} {t : TypeId} {d : Nat} {s : ByteArray} (fr : FrD Df N a L) (hw : wantL ops L o = some true) (ho : o.op = .call { callee := .builtin .len, args := #[x], argTypes := #[t] }) (hd : o.dst = some d) (hlt : Nat.blt d N = true) (hx : ev L x = some (.string s)) (ht : T.ty.lookup t = some .string) (hs : s.size ≤ maxLen)
    (h : ∀ a', FrD Df N a' ((d, .int .i64 (s.size : Int)) :: L) → wpList P ops Q rest a' w) : wpList P ops Q (o :: rest) a w := by
  refine wl_val fr hw hd hlt (w' := w) ?_ (vok_len hs) h
  unfold execOp
  simp only [ho, resolve]
  rw [Sem.run_bind, Sem.run_pure, Result.andThen_ok]
  have e : (#[x] : Array Operand).map a.eval = #[Value.string s] := by simp [(fr.ev hx).1]
  simp only [invoke, e]
  show (do pure (Next.value (← Builtin.len_ #[t] o.type #[.string s])) : Sem Next).run P w = _
  have e2 : (Builtin.len_ #[t] o.type #[Value.string s]).run P w = .ok (.int .i64 (s.size : Int)) w := by
    simp only [Builtin.len_, List.getElem?_toArray, List.getElem?_cons_zero]
    rw [Sem.run_bind, run_underlying (hT.und ht), Result.andThen_ok]
    rfl
  rw [Sem.run_bind, e2]; rfl
theorem wl_rangeS (hT : T.Ok P) {o : Oper} {rest : List Oper} {t : TypeId} {x : Operand} {d : Nat} {s : ByteArray} (fr : FrD Df N a L) (hw : wantL ops L o = some true) (hd : o.dst = some d) (hlt : Nat.blt d N = true) (ho : o.op = .range t x) (hx : ev L x = some (.string s)) (ht : T.ty.lookup t = some .string) (S : Sat w0 w R)
    (h : ∀ w' r, Sat w0 w' (objA (.stringIter s 0) r :: R) → ∀ a', FrD Df N a' ((d, .pointer (some ⟨r, 0, none⟩)) :: L) → wpList P ops Q rest a' w') : wpList P ops Q (o :: rest) a w := by
  refine wl_val (v := .pointer (some ⟨w.heap.size, 0, none⟩)) (w' := w.alloc (.stringIter s 0)) fr hw hd hlt ?_ rfl (h _ _ (S.addObj _))
  unfold execOp
  simp only [ho, (fr.ev hx).1]
  rw [Sem.run_bind, run_range_string w t s (hT.und ht)]
  rfl
theorem wl_nextS {o : Oper} {rest : List Oper} {x : Operand} {d r pos : Nat} {s : ByteArray} (fr : FrD Df N a L) (hw : wantL ops L o = some true) (hd : o.dst = some d) (hlt : Nat.blt d N = true) (ho : o.op = .next x true) (hx : ev L x = some (.pointer (some ⟨r, 0, none⟩))) (hs : s.size ≤ maxLen) (S : Sat w0 w (objA (.stringIter s pos) r :: R))
    (h0 : s.size ≤ pos → ∀ a', FrD Df N a' ((d, .tuple #[.bool false]) :: L) → wpList P ops Q rest a' w)
    (h1 : pos < s.size → ∀ w', Sat w0 w' (objA (.stringIter s (pos + (Utf8.decode s pos).2)) r :: R) → ∀ a', FrD Df N a' ((d, .tuple #[.bool true, .int .i64 (pos : Int), .int .i32 ((Utf8.decode s pos).1 : Int)]) :: L) → wpList P ops Q rest a' w') : wpList P ops Q (o :: rest) a w := by
  have hr := Sat.objAt S 0 rfl
  by_cases hp : pos < s.size
  · refine wl_val (v := .tuple #[.bool true, .int .i64 (pos : Int), .int .i32 ((Utf8.decode s pos).1 : Int)]) (w' := w.putObj r (.stringIter s (pos + (Utf8.decode s pos).2))) fr hw hd hlt ?_ ?_ (h1 hp _ (S.putObj _))
    · unfold execOp
      simp only [ho, (fr.ev hx).1]
      rw [Sem.run_bind]
      have e : (Instr.next (.pointer (some ⟨r, 0, none⟩)) true o.type).run P w = .ok (.tuple #[.bool true, .int .i64 (pos : Int), .int .i32 ((Utf8.decode s pos).1 : Int)]) (w.putObj r (.stringIter s (pos + (Utf8.decode s pos).2))) := by
        simp [Instr.next, getObj, setObj, Sem.run, hr, hp, goInt]
        rfl
      rw [e]; rfl
    · show [Value.bool true, .int .i64 (pos : Int), .int .i32 ((Utf8.decode s pos).1 : Int)].all vokC = true
      have e1 : vokC (.int .i64 (pos : Int)) = true := vok_len (Nat.le_trans (Nat.le_of_lt hp) hs)
      have e2 : vokC (.int .i32 ((Utf8.decode s pos).1 : Int)) = true := by
        have hb := decode_le s pos
        have e2 : (Lit.int .i32 ((Utf8.decode s pos).1 : Int)).wf = true := by
          rw [wf_int]
          have h1 : IntKind.i32.min = -2147483648 := by decide
          have h2 : IntKind.i32.max = 2147483647 := by decide
          omega
        exact e2
      simp only [List.all_cons, List.all_nil, e1, e2, Bool.and_true]
      rfl
  · refine wl_val (v := .tuple #[.bool false]) (w' := w) fr hw hd hlt ?_ rfl (h0 (by omega))
    unfold execOp
    simp only [ho, (fr.ev hx).1]
    rw [Sem.run_bind]
    have e : (Instr.next (.pointer (some ⟨r, 0, none⟩)) true o.type).run P w = .ok (.tuple #[.bool false]) w := by
      simp [Instr.next, getObj, Sem.run, hr, hp]
    rw [e]; rfl
end
end Go.Proofs.YticnjkdaccacaaaGreat.Sx
end
section
namespace Go.Proofs.YticnjkdaccacaaaGreat.Sx
open Go Go.RowKit Base _root_.Go.Proofs.YticnjkdaccacaaaGreat.Own
def keyI (c : Int) : Bool := (decide (c ≥ 97) && decide (c ≤ 122)) || (decide (c ≥ 48) && decide (c ≤ 57)) || c == 95
def byteI (s : ByteArray) (i : Nat) : Int := ((s.get! i).toNat : Int)
def allB (s : ByteArray) : Bool := (List.range s.size).all fun i => keyI (byteI s i)
def keyOk (s : ByteArray) : Bool := (!(s.toList == ByteArray.empty.toList)) && decide ((s.size : Int) ≤ 16) && allB s
def orcK : Orc := ⟨[(3, .int .i64), (4, .bool), (21, .int .i32), (9, .string)],
  [(3, 1), (4, 1), (21, 1), (9, 1)]⟩
theorem orcK_ok : orcK.Ok Tryz.prog := ⟨⟨Tryz.underlying3, Tryz.underlying4, Tryz.underlying21, Tryz.underlying9, trivial⟩, ⟨by kernel_rfl, by kernel_rfl, by kernel_rfl, by kernel_rfl, trivial⟩⟩
theorem enKey1 : Enters Tryz.prog 113 := fun _ _ => by kernel_rfl
theorem enKeyAll : Enters Tryz.prog 112 := fun _ _ => by kernel_rfl
theorem enKeyIn : Enters Tryz.prog 89 := fun _ _ => by kernel_rfl
theorem enKeyCheck : Enters Tryz.prog 88 := fun _ _ => by kernel_rfl
theorem key1_call {w : World} (c : Int) (hc : (Lit.int .i32 c).wf = true) : Calls Tryz.prog 113 #[.int .i32 c] w fun e w' => e = .returned (.bool (keyI c)) ∧ w' = w := by
  refine calls_start (N := 21) [.int .i32 c] Tryz.func113 rfl rfl rfl (vok_c hc rfl) fun a fr => ?_
  skip; (repeat (with_reducible refine wp_seq ?_)); refine wp_region_lit ?_
  (repeat (refine wl_run orcK_ok 1 rfl fr fun a fr => ?_))
  refine wpList_nil ?_; (repeat (with_reducible refine then_n ?_))
  skip; (repeat (with_reducible refine wp_seq ?_)); refine wp_region_lit ?_
  (repeat (refine wl_run orcK_ok 1 rfl fr fun a fr => ?_))
  refine bs 5 fr rfl (fun h1 fr => ?_) (fun h1 fr => ?_)
  · (repeat (refine wl_run orcK_ok 1 rfl fr fun a fr => ?_))
    refine bs 9 fr rfl (fun h2 fr => ?_) (fun h2 fr => ?_)
    · (repeat (refine wl_run orcK_ok 1 rfl fr fun a fr => ?_))
      refine wpList_nil ?_; (repeat (with_reducible refine then_n ?_))
      refine wp_ret ?_
      exact ret1 fr rfl rfl ⟨by simp only [keyI, h1, h2]; rfl, rfl⟩
    · (repeat (refine wl_run orcK_ok 1 rfl fr fun a fr => ?_))
      refine bs 12 fr rfl (fun h3 fr => ?_) (fun h3 fr => ?_)
      · (repeat (refine wl_run orcK_ok 1 rfl fr fun a fr => ?_))
        refine bs 17 fr rfl (fun h4 fr => ?_) (fun h4 fr => ?_)
        · (repeat (refine wl_run orcK_ok 1 rfl fr fun a fr => ?_))
          refine wpList_nil ?_; (repeat (with_reducible refine then_n ?_))
          refine wp_ret ?_
          exact ret1 fr rfl rfl ⟨by simp only [keyI, h1, h2, h3, h4]; rfl, rfl⟩
        · (repeat (refine wl_run orcK_ok 1 rfl fr fun a fr => ?_))
          refine wpList_nil ?_; (repeat (with_reducible refine then_n ?_))
          refine wp_ret ?_
          exact ret1 fr rfl rfl ⟨by simp only [keyI, h1, h2, h3, h4]; rfl, rfl⟩
      · (repeat (refine wl_run orcK_ok 1 rfl fr fun a fr => ?_))
        refine wpList_nil ?_; (repeat (with_reducible refine then_n ?_))
        refine wp_ret ?_
        exact ret1 fr rfl rfl ⟨by simp only [keyI, h1, h2, h3]; rfl, rfl⟩
  · (repeat (refine wl_run orcK_ok 1 rfl fr fun a fr => ?_))
    refine bs 12 fr rfl (fun h3 fr => ?_) (fun h3 fr => ?_)
    · (repeat (refine wl_run orcK_ok 1 rfl fr fun a fr => ?_))
      refine bs 17 fr rfl (fun h4 fr => ?_) (fun h4 fr => ?_)
      · (repeat (refine wl_run orcK_ok 1 rfl fr fun a fr => ?_))
        refine wpList_nil ?_; (repeat (with_reducible refine then_n ?_))
        refine wp_ret ?_
        exact ret1 fr rfl rfl ⟨by simp only [keyI, h1, h3, h4]; rfl, rfl⟩
      · (repeat (refine wl_run orcK_ok 1 rfl fr fun a fr => ?_))
        refine wpList_nil ?_; (repeat (with_reducible refine then_n ?_))
        refine wp_ret ?_
        exact ret1 fr rfl rfl ⟨by simp only [keyI, h1, h3, h4]; rfl, rfl⟩
    · (repeat (refine wl_run orcK_ok 1 rfl fr fun a fr => ?_))
      refine wpList_nil ?_; (repeat (with_reducible refine then_n ?_))
      refine wp_ret ?_
      exact ret1 fr rfl rfl ⟨by simp only [keyI, h1, h3]; rfl, rfl⟩
theorem keyI_small {c : Int} (h : keyI c = true) : c ≤ 122 := by
  unfold keyI at h
  simp only [Bool.or_eq_true, Bool.and_eq_true, decide_eq_true_eq, beq_iff_eq] at h
  omega
theorem key_rune {s : ByteArray} {pos : Nat} : (keyI ((Utf8.decode s pos).1 : Int) = true ↔ keyI (byteI s pos) = true) ∧ (keyI ((Utf8.decode s pos).1 : Int) = true → (Utf8.decode s pos).2 = 1) := by
  by_cases h : (s.get! pos).toNat < 128
  · rw [decode_small h]
    exact ⟨Iff.rfl, fun _ => rfl⟩
  · have h1 := decode_big h
    have n1 : ¬ keyI ((Utf8.decode s pos).1 : Int) = true := fun hk => by have := keyI_small hk; omega
    have n2 : ¬ keyI (byteI s pos) = true := fun hk => by have := keyI_small hk; unfold byteI at this; omega
    exact ⟨⟨fun hk => absurd hk n1, fun hk => absurd hk n2⟩, fun hk => absurd hk n1⟩
section
variable {w w0 : World} {R : List Asn}
set_option maxRecDepth 100000 in
theorem all_call {s : ByteArray} (hs : s.size ≤ maxLen) (S : Sat w0 w R) : Calls Tryz.prog 112 #[.string s, .func (.func 113) #[] #[]] w fun e w' => e = .returned (.bool (allB s)) ∧ Sat w0 w' R := by
  refine calls_start (N := 16) [.string s, .func (.func 113) #[] #[]] Tryz.func112 rfl rfl rfl rfl fun a fr => ?_
  skip; (repeat (with_reducible refine wp_seq ?_)); refine wp_region_lit ?_
  (repeat (refine wl_run orcK_ok 1 rfl fr fun a fr => ?_))
  refine wpList_nil ?_; (repeat (with_reducible refine then_n ?_))
  skip; (repeat (with_reducible refine wp_seq ?_)); refine wp_region_lit ?_
  (repeat (refine wl_run orcK_ok 1 rfl fr fun a fr => ?_))
  refine wl_rangeS orcK_ok fr rfl rfl rfl rfl rfl rfl S ?_
  intro w1 r S a fr
  refine wpList_nil ?_; (repeat (with_reducible refine then_n ?_))
  skip; (repeat (with_reducible refine wp_seq ?_))
  refine wp_block ?_
  refine cw_loop (fun q a w2 => ∃ pos : Nat, pos + q = s.size + 1 ∧ pos ≤ s.size ∧ (∀ i, i < pos → keyI (byteI s i) = true) ∧ Fr 16 a [(0, .string s), (1, .func (.func 113) #[] #[]), (8, .pointer (some ⟨r, 0, none⟩))] ∧ Sat w0 w2 (objA (.stringIter s pos) r :: R)) (s.size + 1)
    ⟨0, by omega, by omega, fun i hi => by omega, fr.sub ⟨rfl, rfl, rfl, trivial⟩, S⟩ ?_ ?_
  · rintro a w2 ⟨pos, h1, h2, -⟩
    omega
  clear fr S
  rintro q a w2 ⟨pos, hq, hle, hall, fr, S⟩
  skip; (repeat (with_reducible refine wp_seq ?_)); refine wp_region_lit ?_
  refine wl_nextS fr rfl rfl rfl rfl rfl hs S ?_ ?_
  · intro hp a fr
    (repeat (refine wl_run orcK_ok 1 rfl fr fun a fr => ?_))
    refine wpList_nil ?_; (repeat (with_reducible refine then_n ?_))
    skip; (repeat (with_reducible refine wp_seq ?_))
    refine cw_f fr rfl ?_
    refine wp_exit ?_
    skip; (repeat (first | (with_reducible refine then_e ?_) | (with_reducible refine ng_e ?_) | (with_reducible refine blk_e (by decide) ?_))); (with_reducible refine blk_y ?_); (repeat (with_reducible refine then_n ?_))
    skip; (repeat (with_reducible refine wp_seq ?_)); refine wp_region_lit ?_
    (repeat (refine wl_run orcK_ok 1 rfl fr fun a fr => ?_))
    refine wpList_nil ?_; (repeat (with_reducible refine then_n ?_))
    refine wp_ret ?_
    refine ret1 fr rfl rfl ⟨?_, S.tl⟩
    have : allB s = true := by
      unfold allB
      rw [List.all_eq_true]
      intro i hi
      rw [List.mem_range] at hi
      exact hall i (by omega)
    rw [this]
  · intro hp w3 S a fr
    have fr := fr.spell (d := 9) rfl rfl
    (repeat (refine wl_run orcK_ok 1 rfl fr fun a fr => ?_))
    refine wpList_nil ?_; (repeat (with_reducible refine then_n ?_))
    skip; (repeat (with_reducible refine wp_seq ?_))
    refine cw_t fr rfl ?_
    refine wp_skip ?_
    (with_reducible refine then_n ?_)
    skip; (repeat (with_reducible refine wp_seq ?_))
    refine wp_block ?_
    skip; (repeat (with_reducible refine wp_seq ?_)); refine wp_region_lit ?_
    (repeat (refine wl_run orcK_ok 1 rfl fr fun a fr => ?_))
    refine wpList_nil ?_; (repeat (with_reducible refine then_n ?_))
    skip; (repeat (with_reducible refine wp_seq ?_)); refine wp_region_lit ?_
    (repeat (refine wl_run orcK_ok 1 rfl fr fun a fr => ?_))
    refine wl_callv fr rfl rfl rfl rfl rfl rfl rfl enKey1 (key1_call _ (fr.int (d := 13) rfl)) ?_
    rintro _ w4 ⟨rfl, rfl⟩
    refine ⟨_, rfl, rfl, fun a fr => ?_⟩
    (repeat (refine wl_run orcK_ok 1 rfl fr fun a fr => ?_))
    refine wpList_nil ?_; (repeat (with_reducible refine then_n ?_))
    cases hk : keyI ((Utf8.decode s pos).1 : Int) with
    | false =>
      have fr := fr.bool (d := 15) rfl (show (!keyI ((Utf8.decode s pos).1 : Int)) = true by rw [hk]; rfl)
      skip; (repeat (with_reducible refine wp_seq ?_))
      refine cw_t fr rfl ?_
      skip; (repeat (with_reducible refine wp_seq ?_)); refine wp_region_lit ?_
      (repeat (refine wl_run orcK_ok 1 rfl fr fun a fr => ?_))
      refine wpList_nil ?_; (repeat (with_reducible refine then_n ?_))
      refine wp_ret ?_
      skip; (repeat (first | (with_reducible refine then_r ?_) | (with_reducible refine blk_r ?_) | (with_reducible refine ng_r ?_)))
      refine ret1 fr rfl rfl ⟨?_, S.tl⟩
      have : allB s = false := by
        unfold allB
        rw [List.all_eq_false]
        refine ⟨pos, List.mem_range.2 hp, fun h => ?_⟩
        rw [key_rune.1.2 h] at hk
        cases hk
      rw [this]
    | true =>
      have fr := fr.bool (d := 15) rfl (show (!keyI ((Utf8.decode s pos).1 : Int)) = false by rw [hk]; rfl)
      skip; (repeat (with_reducible refine wp_seq ?_))
      refine cw_f fr rfl ?_
      refine wp_skip ?_
      refine blk_n ?_
      (repeat (with_reducible refine then_n ?_))
      rw [key_rune.2 hk] at S
      refine ⟨pos + 1, by omega, by omega, fun i hi => ?_, fr.sub ⟨rfl, rfl, rfl, trivial⟩, S⟩
      by_cases he : i = pos
      · rw [he]; exact key_rune.1.1 hk
      · exact hall i (by omega)
set_option maxRecDepth 100000 in
theorem keycheck_call {s : ByteArray} (hs : s.size ≤ maxLen) (S : Sat w0 w R) : Calls Tryz.prog 88 #[.string s] w fun e w' => e = .returned (.bool (keyOk s)) ∧ Sat w0 w' R := by
  refine calls_start (N := 14) [.string s] Tryz.func88 rfl rfl rfl rfl fun a fr => ?_
  skip; (repeat (with_reducible refine wp_seq ?_)); refine wp_region_lit ?_
  (repeat (refine wl_run orcK_ok 1 rfl fr fun a fr => ?_))
  refine wpList_nil ?_; (repeat (with_reducible refine then_n ?_))
  skip; (repeat (with_reducible refine wp_seq ?_)); refine wp_region_lit ?_
  (repeat (refine wl_run orcK_ok 1 rfl fr fun a fr => ?_))
  refine bs 5 fr rfl (fun h1 fr => ?_) (fun h1 fr => ?_)
  · (repeat (refine wl_run orcK_ok 1 rfl fr fun a fr => ?_))
    refine wl_slen orcK_ok fr rfl rfl rfl rfl rfl rfl hs fun a fr => ?_
    (repeat (refine wl_run orcK_ok 1 rfl fr fun a fr => ?_))
    refine bs 10 fr rfl (fun h2 fr => ?_) (fun h2 fr => ?_)
    · (repeat (refine wl_run orcK_ok 1 rfl fr fun a fr => ?_))
      refine wl_call fr rfl rfl rfl rfl enKeyAll (all_call hs S) ?_
      rintro _ w1 ⟨rfl, S⟩
      refine ⟨_, rfl, rfl, fun a fr => ?_⟩
      (repeat (refine wl_run orcK_ok 1 rfl fr fun a fr => ?_))
      refine wpList_nil ?_; (repeat (with_reducible refine then_n ?_))
      refine wp_ret ?_
      refine ret1 fr rfl rfl ⟨?_, S⟩
      unfold keyOk
      rw [show (!s.toList == ByteArray.empty.toList) = true from h1, h2]
      rfl
    · (repeat (refine wl_run orcK_ok 1 rfl fr fun a fr => ?_))
      refine wpList_nil ?_; (repeat (with_reducible refine then_n ?_))
      refine wp_ret ?_
      refine ret1 fr rfl rfl ⟨?_, S⟩
      unfold keyOk
      rw [show (!s.toList == ByteArray.empty.toList) = true from h1, h2]
      rfl
  · (repeat (refine wl_run orcK_ok 1 rfl fr fun a fr => ?_))
    refine wpList_nil ?_; (repeat (with_reducible refine then_n ?_))
    refine wp_ret ?_
    refine ret1 fr rfl rfl ⟨?_, S⟩
    unfold keyOk
    rw [show (!s.toList == ByteArray.empty.toList) = false from h1]
    rfl
def inS (k f t : ByteArray) : Bool := sLe f k && sLe k t
theorem in_call {k f t : ByteArray} : Calls Tryz.prog 89 #[.string k, .string f, .string t] w fun e w' => e = .returned (.bool (inS k f t)) ∧ w' = w := by
  refine calls_start (N := 15) [.string k, .string f, .string t] Tryz.func89 rfl rfl rfl rfl fun a fr => ?_
  skip; (repeat (with_reducible refine wp_seq ?_)); refine wp_region_lit ?_
  (repeat (refine wl_run orcK_ok 1 rfl fr fun a fr => ?_))
  refine wpList_nil ?_; (repeat (with_reducible refine then_n ?_))
  skip; (repeat (with_reducible refine wp_seq ?_)); refine wp_region_lit ?_
  (repeat (refine wl_run orcK_ok 1 rfl fr fun a fr => ?_))
  refine wl_sle fr rfl rfl rfl rfl rfl rfl fun a fr => ?_
  (repeat (refine wl_run orcK_ok 1 rfl fr fun a fr => ?_))
  refine bs 10 fr rfl (fun h1 fr => ?_) (fun h1 fr => ?_)
  · (repeat (refine wl_run orcK_ok 1 rfl fr fun a fr => ?_))
    refine wl_sle fr rfl rfl rfl rfl rfl rfl fun a fr => ?_
    (repeat (refine wl_run orcK_ok 1 rfl fr fun a fr => ?_))
    refine wpList_nil ?_; (repeat (with_reducible refine then_n ?_))
    refine wp_ret ?_
    exact ret1 fr rfl rfl ⟨by unfold inS; rw [h1]; rfl, rfl⟩
  · (repeat (refine wl_run orcK_ok 1 rfl fr fun a fr => ?_))
    refine wpList_nil ?_; (repeat (with_reducible refine then_n ?_))
    refine wp_ret ?_
    exact ret1 fr rfl rfl ⟨by unfold inS; rw [h1]; rfl, rfl⟩
end
end Go.Proofs.YticnjkdaccacaaaGreat.Sx
end
