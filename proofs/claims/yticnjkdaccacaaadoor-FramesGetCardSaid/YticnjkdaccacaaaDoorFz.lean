/- Contracts of frames, among the things in memory. -/
import Derived.Test.YticnjkdaccacaaaDoorFramesPlain
import Derived.Test.YticnjkdaccacaaaDoorSame
import Derived.Test.YticnjkdaccacaaaDoorTwb
import Derived.Test.YticnjkdaccacaaaDoorRef03
import Derived.Test.YticnjkdaccacaaaDoorBz
import Derived.Test.YticnjkdaccacaaaDoorSr
namespace Go.Proofs.YticnjkdaccacaaaDoor.Sx
open Go Go.RowKit Base Own

theorem bts_wf {l : List Int} (h : ∀ z ∈ l, 0 ≤ z ∧ z < 256) : ∀ z ∈ l, (Lit.int .u8 z).wf = true := fun z hz => by
  have := h z hz
  rw [wf_int]
  have h1 : IntKind.u8.min = 0 := by decide
  have h2 : IntKind.u8.max = 255 := by decide
  omega
section
variable {P : Program} {T : Orc} {ops : Array Oper} {Q : Exit → Act → World → Prop} {S' : World → Prop} {Df : List Deferred} {N : Nat} {a : Act} {w w0 : World} {L : Env}
theorem conv2_run {src dst e : TypeId} (hs : P.underlying src = some (.slice e)) (he : P.underlying e = some (.int .u8)) (hdt : P.underlying dst = some .string) {A : Option Addr} {n c : Nat} {l : List Int} (rk : Rk .u8 w A l) (fr : FrD Df N a L) {o : Oper} {x : Operand} (ho : o.op = .convert src dst x) (hx : ev L x = some (.slice A n c)) (hn : n = l.length) :
    (execOp a.eval o).run P w = .ok (.value (.string (strOfNums l))) w := by
  have h := Same.conv_str P w src e hs he A n c l hn.symm rk.rd dst hdt
  unfold execOp
  simp only [ho, (fr.ev hx).1]
  rw [Sem.run_bind, h]; rfl
theorem sl_convq {src dst e : TypeId} (hs : P.underlying src = some (.slice e)) (he : P.underlying e = some (.int .u8)) (hdt : P.underlying dst = some .string) {s : SOp} {rest : List Itm} {x : Operand} {d : Nat} {A : Option Addr} {n c : Nat} {l : List Int} (hr : ∀ w, S' w → Rk .u8 w A l) (fr : FrD Df N a L) (hw : wantS L s = some true) (hq : s.q = true) (ho : s.op = .convert src dst x) (hd : s.dst = some d) (hlt : Nat.blt d N = true) (hx : ev L x = some (.slice A n c)) (hn : n = l.length)
    (h : ∀ a', FrD Df N a' ((d, .string (strOfNums l)) :: L) → SL P Q S' rest a' w) : SL P Q S' (.one s :: rest) a w :=
  sl_q fr hw hq hd hlt (fun w' hS' => conv2_run hs he hdt (hr w' hS') fr (o := s.oper) ho hx hn) rfl h
end
def putR (l : List Int) : List Int := if l.length ≤ 16384 then Frames.put l else []
def putE (l : List Int) : Int := if l.length ≤ 16384 then 0 else 3
def getR (b : List Int) : List Int := match Frames.get b with | none => [] | some p => p.1
def getN (b : List Int) : Int := match Frames.get b with | none => 0 | some p => (p.2 : Int)
def getE (b : List Int) : Int := match Frames.get b with | none => 4 | some _ => 0
section
variable {w w0 : World} {R : List Asn}
theorem vok_t2 {A : Option Addr} {n c : Nat} {x : Int} (h : vok (.slice A n c) = true) (hx : (Lit.int .i64 x).wf = true) : vok (.tuple #[.slice A n c, .int .i64 x]) = true := by
  show [_, _].all vokC = true
  have h1 : vokC (.slice A n c) = true := h
  have h2 : vokC (.int .i64 x) = true := hx
  rw [List.all_cons, h1, List.all_cons, h2]; rfl
theorem vok_t3 {A : Option Addr} {n c : Nat} {x y : Int} (h : vok (.slice A n c) = true) (hx : (Lit.int .i64 x).wf = true) (hy : (Lit.int .i64 y).wf = true) : vok (.tuple #[.slice A n c, .int .i64 x, .int .i64 y]) = true := by
  show [_, _, _].all vokC = true
  have h1 : vokC (.slice A n c) = true := h
  have h2 : vokC (.int .i64 x) = true := hx
  have h3 : vokC (.int .i64 y) = true := hy
  rw [List.all_cons, h1, List.all_cons, h2, List.all_cons, h3]; rfl
theorem fput_call {A : Option Addr} {c : Nat} {l : List Int} (rk : Rk .u8 w A l) (hl : l.length ≤ 1000000000) (S : Sat w0 w R) :
    Calls Tryd.prog 6 #[.slice A l.length c] w fun e w' => ∃ A' c', e = .returned (.tuple #[.slice A' (putR l).length c', .int .i64 (putE l)]) ∧ vok (.tuple #[.slice A' (putR l).length c', .int .i64 (putE l)]) = true ∧ Sat w0 w' (ownA .u8 5 A' c' (putR l) :: R) := by
  unfold putR putE
  by_cases h : l.length ≤ 16384
  · rw [if_pos h, if_pos h]
    refine (Frames.put_any A c l w h rk.bytes rk.rd).mono ?_
    rintro e w' ⟨v, rfl, h1, h2⟩
    obtain ⟨A', c', rfl, h3, h4⟩ := S.row h2 h1 (bts_wf (Frames.put_bts rk.bytes))
    exact ⟨A', c', rfl, vok_t2 h3 rfl, h4⟩
  · rw [if_neg h, if_neg h]
    refine (Frames.put_big A l.length c w (by omega) hl).mono ?_
    rintro e w' ⟨rfl, h2⟩
    exact ⟨none, 0, rfl, rfl, (S.new h2).nilRow .u8 5⟩
theorem fget_call {A : Option Addr} {c : Nat} {b : List Int} (rk : Rk .u8 w A b) (hc : b.length ≤ c ∧ c ≤ maxLen) (hl : b.length ≤ 100000000) (S : Sat w0 w R) :
    Calls Tryd.prog 12 #[.slice A b.length c] w fun e w' => ∃ A' c', e = .returned (.tuple #[.slice A' (getR b).length c', .int .i64 (getN b), .int .i64 (getE b)]) ∧ vok (.tuple #[.slice A' (getR b).length c', .int .i64 (getN b), .int .i64 (getE b)]) = true ∧ Sat w0 w' (ownA .u8 5 A' c' (getR b) :: R) := by
  refine (Frames.get_any A c b w hl rk.bytes rk.rd hc.1).mono ?_
  rintro e w' ⟨h1, h2⟩
  unfold getR getN getE
  cases hg : Frames.get b with
  | none =>
    rw [hg] at h1
    exact ⟨none, 0, h1, rfl, (S.new h2).nilRow .u8 5⟩
  | some p =>
    obtain ⟨r, k⟩ := p
    rw [hg] at h1
    obtain ⟨v, rfl, ho⟩ := h1
    obtain ⟨g1, g2, g3, g4, g5⟩ := Frames.get_some hg
    obtain ⟨A', c', rfl, h3, h4⟩ := S.row h2 ho (fun z hz => rk.wf z (by rw [g5] at hz; exact List.mem_of_mem_drop (List.mem_of_mem_take hz)))
    refine ⟨A', c', rfl, vok_t3 h3 ?_ rfl, h4⟩
    rw [wf_int]
    have q1 : IntKind.i64.min = -9223372036854775808 := by decide
    have q2 : IntKind.i64.max = 9223372036854775807 := by decide
    show IntKind.i64.min ≤ (k : Int) ∧ (k : Int) ≤ IntKind.i64.max
    omega
theorem num_wf (n : BitVec 32) : (Lit.int .u32 (Crc.num n)).wf = true := by
  have := Crc.num_range n
  rw [wf_int]
  have h1 : IntKind.u32.min = 0 := by decide
  have h2 : IntKind.u32.max = 4294967295 := by decide
  omega
theorem of3_call {A : Option Addr} {c : Nat} {l : List Int} (rk : Rk .u8 w A l) (hl : l.length ≤ 1000000000) (S : Sat w0 w R) :
    Calls Tryd.prog 19 #[.slice A l.length c] w fun e w' => e = .returned (.int .u32 (Crc.num (Crc.on 0#32 l))) ∧ vok (.int .u32 (Crc.num (Crc.on 0#32 l))) = true ∧ Sat w0 w' R := by
  refine (Ref03.of_any A c l w (by omega) rk.bytes rk.rd).mono ?_
  rintro e w' ⟨rfl, h⟩
  subst h
  exact ⟨rfl, num_wf _, S⟩
theorem same_call {A B : Option Addr} {ca cb : Nat} {a b : List Int} (ra : Rk .u8 w A a) (rb : Rk .u8 w B b) (hl : a.length ≤ 1000000000 ∧ b.length ≤ 1000000000) (S : Sat w0 w R) :
    Calls Tryd.prog 8 #[.slice A a.length ca, .slice B b.length cb] w fun e w' => e = .returned (.bool (decide (a = b))) ∧ Sat w0 w' R :=
  (Same.sameBytes A B ca cb a b w hl.1 hl.2 ra.rd rb.rd).mono fun e w' ⟨h1, h2⟩ => ⟨h1, S.new h2⟩
end
end Go.Proofs.YticnjkdaccacaaaDoor.Sx
