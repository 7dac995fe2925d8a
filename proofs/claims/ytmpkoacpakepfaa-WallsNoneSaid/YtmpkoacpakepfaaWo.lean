/- The records that bytes begin with, told one by one (walls.found), walked. -/
import Derived.Test.YtmpkoacpakepfaaWl
namespace Go.Proofs.Ytmpkoacpakepfaa.Sx
open Go Go.RowKit Base Own Disk

/-- The records that bytes begin with, and how many sectors each takes. -/
def parse : Nat → List Int → List (List Int × Nat)
  | 0, _ => []
  | k + 1, b => match Frames.get b with
    | none => []
    | some (r, m) => (r, m) :: parse k (b.drop (m * 64))
def secs (l : List (List Int × Nat)) : Nat := (l.map (·.2)).sum
theorem secs_snoc (l : List (List Int × Nat)) (p : List Int × Nat) : secs (l ++ [p]) = secs l + p.2 := by unfold secs; simp
section
variable {w w0 : World} {R : List Asn}
/-- yield is called, with some values. -/
theorem wli_yields {P : Program} {ops : Array Oper} {Q : Exit → Act → World → Prop} {N n : Nat} {a : Act} {L : Env} {o : Oper} {rest : List Oper} {d lp : Nat} {x : Operand} {vs : List Value} {c : Call} {fn : FuncId} {tmps : Array Value} {assign body : Code} {I : World → Prop} (fr : Fr N a L) (hw : wantL ops L o = some true) (hd : o.dst = some d) (hlt : Nat.blt d N = true) (ho : o.op = .call c) (hc : c.callee = .value x)
    (hx : ev L x = some (.func (.yield lp) #[] #[])) (hxs : evs L c.args.toList = some vs) (hy : (Instr.yield lp vs.toArray).run P w = .ok (.round lp fn tmps assign body) w)
    (hR : RoundIn Fence.wide (n - 1) P lp fn tmps assign body w fun e w' => e = .returned (.bool true) ∧ I w') (h : ∀ w', I w' → ∀ a', Fr N a' ((d, .bool true) :: L) → wpListIn Fence.wide n P ops Q rest a' w') : wpListIn Fence.wide n P ops Q (o :: rest) a w := by
  have e : c.args.map a.eval = vs.toArray := by
    apply Array.toList_inj.1
    rw [Array.toList_map, (evs_run fr hxs).1]
  have hrun : (execOp a.eval o).run P w = .ok (.round lp fn tmps assign body) w := by
    unfold execOp
    simp only [ho, resolve, hc, (fr.ev hx).1, Deferred.ofValue]
    rw [Sem.run_bind, Sem.run_pure, Result.andThen_ok]
    simp only [invoke, e]
    simpa using hy
  unfold wpListIn
  rw [wantL_run fr hw, if_pos rfl]
  refine ⟨fun _ _ => trivial, ?_⟩
  show o.uponIn Fence.wide n P a _ Q ((execOp a.eval o).run P w)
  rw [hrun]
  refine ⟨(fun hh => by cases hh), hR.mono ?_⟩
  rintro e' w' ⟨rfl, hI⟩
  show wpListIn Fence.wide n P ops Q rest (a.put o.dst (.bool true)) w'
  rw [hd]
  exact h w' hI _ (fr.put (blt_lt hlt) rfl)
theorem get_len {b r : List Int} {m : Nat} (h : Frames.get b = some (r, m)) : m = Frames.nsec r.length ∧ 1 ≤ m ∧ m * 64 ≤ b.length ∧ r.length ≤ 16384 := by
  obtain ⟨h1, h2, _, h4, _⟩ := Frames.get_some h
  exact ⟨h1, by rw [h1]; unfold Frames.nsec; omega, h4, h2⟩
theorem get_call {A : Option Addr} {c : Nat} {b : List Int} (rk : Rk .u8 w A b) (hc : b.length ≤ c) (hl : b.length ≤ 100000000) (S : Sat w0 w R) :
    Calls Try.prog 40 #[.slice A b.length c] w fun e w' => (Frames.get b = none → e = .returned (.tuple #[.slice none 0 0, .int .i64 0, .int .i64 4]) ∧ Sat w0 w' R) ∧
      ∀ r m, Frames.get b = some (r, m) → ∃ A' c', e = .returned (.tuple #[.slice A' r.length c', .int .i64 m, .int .i64 0]) ∧ vok (.tuple #[.slice A' r.length c', .int .i64 m, .int .i64 0]) = true ∧ Sat w0 w' (ownA .u8 5 A' c' r :: R) := by
  refine (Frames.get_any A c b w hl (bts_rk rk) rk.rd hc).mono ?_
  rintro e w' ⟨h1, h2⟩
  refine ⟨fun hn => ?_, fun r m hg => ?_⟩
  · rw [hn] at h1
    exact ⟨h1, S.new h2⟩
  · rw [hg] at h1
    obtain ⟨v, rfl, h3⟩ := h1
    obtain ⟨g1, _, g3, g4, g5⟩ := Frames.get_some hg
    obtain ⟨A', c', rfl, h5, h6⟩ := S.row h2 h3 (bts_wf (fun z hz => by rw [g5] at hz; exact bts_rk rk z (List.mem_of_mem_drop (List.mem_of_mem_take hz))))
    refine ⟨A', c', rfl, ?_, h6⟩
    have h7 : vokC (.slice A' r.length c') = true := h5
    have h8 : vokC (.int .i64 (m : Int)) = true := vok_small (by
      have := (get_len hg).1
      unfold Frames.nsec at this
      omega)
    show [_, _, _].all vokC = true
    rw [List.all_cons, List.all_cons, h7, h8]; rfl
set_option maxRecDepth 100000 in
set_option maxHeartbeats 1000000 in
theorem found_iter {M : List Asn} {bx lp : Nat} {A0 : Option Addr} {c0 : Nat} {all : List Int} {rec : Loop} (Z : List (List Int × Nat) → Asn) (hl : all.length ≤ 1000000) (hps : rec.params.size = 2)
    (S : Sat w0 w (Z [] :: objA (.loop rec) lp :: stA 22 bx [.slice A0 all.length c0] :: ownA .u8 5 A0 c0 all :: M))
    (hround : ∀ (w : World) (l : List (List Int × Nat)) (r : List Int) (m : Nat) (A : Option Addr) (c : Nat) (M : List Asn), vok (.slice A r.length c) = true → l.length ≤ 1000000 → secs l + m ≤ 1000000 → Sat w0 w (ownA .u8 5 A c r :: Z l :: objA (.loop rec) lp :: M) →
      RoundIn Fence.wide (3 - 1) Try.prog lp rec.fn ((rec.params.zip #[Value.slice A r.length c, Value.int .i64 m]).foldl (fun tmps (t, a) => tmps.setIfInBounds t a) rec.tmps) rec.assign rec.body w fun e w' => e = .returned (.bool true) ∧ Sat w0 w' (Z (l ++ [(r, m)]) :: objA (.loop rec) lp :: M)) :
    Calls Try.prog 39 #[.func (.yield lp) #[] #[], .pointer (some ⟨bx, 0, none⟩)] w fun e w' => e = .returned (.tuple #[]) ∧ ∃ v, Sat w0 w' (Z (parse (all.length + 1) all) :: objA (.loop rec) lp :: stA 22 bx [v] :: ownA .u8 5 A0 c0 all :: M) := by
  refine calls_start (N := 25) [.func (.yield lp) #[] #[], .pointer (some ⟨bx, 0, none⟩)] Try.func39 rfl rfl rfl rfl fun a fr => ?_
  obtain ⟨n, hn⟩ : ∃ n, n = parse (all.length + 1) all := ⟨_, rfl⟩
  rw [← hn]
  refine wp_block ?_
  refine cw_loop (fun q a w => ∃ (l : List (List Int × Nat)) (b : List Int) (A1 : Option Addr) (c1 : Nat), b.length < q ∧ l ++ parse q b = n ∧ secs l * 64 + b.length = all.length ∧ l.length ≤ secs l ∧ (∀ w, Rk .u8 w A0 all → Rk .u8 w A1 b) ∧ (b.length ≤ c1 ∧ c1 ≤ maxLen) ∧
      Fr 25 a [(0, .func (.yield lp) #[] #[]), (1, .pointer (some ⟨bx, 0, none⟩))] ∧
      Sat w0 w (Z l :: objA (.loop rec) lp :: stA 22 bx [.slice A1 b.length c1] :: ownA .u8 5 A0 c0 all :: M)) (all.length + 1)
    ⟨[], all, A0, c0, by omega, by rw [hn]; rfl, by simp [secs], Nat.zero_le _, fun _ h => h, (S.frontAt 3 rfl).own.2, fr.sub ⟨rfl, rfl, trivial⟩, S⟩ ?_ ?_
  · rintro a w ⟨l, b, A1, c1, h, -⟩
    omega
  clear fr S
  rintro q a w ⟨l, b, A1, c1, hq, hp, hs, hll, hrd, hmc, fr, S⟩
  refine wp_block ?_
  skip; (repeat (with_reducible refine wp_seq ?_)); refine wp_region_lit ?_
  refine wl_ldf orcL_ok (Sat.varAt S 2 rfl) fr rfl rfl rfl rfl rfl rfl rfl fun a fr => ?_
  have hG := get_call (hrd _ (Sat.ownAt S 3 rfl)) hmc.1 (by omega) S
  cases hg : Frames.get b with
  | none =>
    refine wl_call fr rfl rfl rfl rfl enGet hG ?_
    rintro _ w1 ⟨h1, -⟩
    obtain ⟨rfl, S⟩ := h1 hg
    refine ⟨_, rfl, rfl, fun a fr => ?_⟩
    refine wl_run orcL_ok 7 rfl fr fun a fr => ?_
    refine wpList_nil ?_; (repeat (with_reducible refine then_n ?_))
    skip; (repeat (with_reducible refine wp_seq ?_)); refine wp_region_lit ?_
    refine wl_run orcL_ok 9 rfl fr fun a fr => ?_
    refine wpList_nil ?_; (repeat (with_reducible refine then_n ?_))
    skip; (repeat (with_reducible refine wp_seq ?_))
    refine cw_t fr rfl ?_
    refine wp_ret ?_
    skip; (repeat (first | (with_reducible refine then_r ?_) | (with_reducible refine blk_r ?_) | (with_reducible refine ng_r ?_)))
    refine ret0 fr rfl ?_
    have : parse (q + 1) b = [] := by unfold parse; rw [hg]
    rw [this, List.append_nil] at hp
    rw [← hp]
    exact ⟨rfl, _, S⟩
  | some p =>
    obtain ⟨r, m⟩ := p
    obtain ⟨g1, g2, g3, g4⟩ := get_len hg
    refine wl_call fr rfl rfl rfl rfl enGet hG ?_
    rintro _ w1 ⟨-, h1⟩
    obtain ⟨A2, c2, rfl, hv, S⟩ := h1 r m hg
    refine ⟨_, rfl, hv, fun a fr => ?_⟩
    refine wl_run orcL_ok 7 rfl fr fun a fr => ?_
    refine wpList_nil ?_; (repeat (with_reducible refine then_n ?_))
    skip; (repeat (with_reducible refine wp_seq ?_)); refine reg_out (n := 3) ?_
    refine wli_run orcL_ok 6 rfl fr fun a fr => ?_
    have hlp := Sat.objAt S 2 rfl
    have hvs := fr.vok (d := 16) rfl
    have S : Sat w0 w1 (ownA .u8 5 A2 c2 r :: Z l :: objA (.loop rec) lp :: stA 22 bx [.slice A1 b.length c1] :: ownA .u8 5 A0 c0 all :: M) := S
    refine wli_yields (vs := [.slice A2 r.length c2, .int .i64 m]) fr rfl rfl rfl rfl rfl rfl rfl (run_yield (P := Try.prog) (args := #[.slice A2 r.length c2, .int .i64 m]) hlp (by rw [hps]; rfl)) (hround _ l r m A2 c2 _ hvs (by omega) (by omega) S) ?_
    intro w3 S a fr
    refine wli_run orcL_ok 2 rfl fr fun a fr => ?_
    refine wpListIn_nil ?_
    (repeat (with_reducible refine then_n ?_))
    skip; (repeat (with_reducible refine wp_seq ?_))
    refine cw_f fr rfl ?_
    refine wp_skip ?_
    (repeat (with_reducible refine then_n ?_))
    have hb2 := Sat.varAt S 2 rfl
    skip; (repeat (with_reducible refine wp_seq ?_)); refine wp_region_lit ?_
    refine wl_ldf orcL_ok hb2 fr rfl rfl rfl rfl rfl rfl rfl fun a fr => ?_
    refine wl_run orcL_ok 2 rfl fr fun a fr => ?_
    have fr := fr.spell (d := 23) rfl (congrArg (Value.int .i64) (show IntKind.wrap .i64 ((m : Int) * 64) = ((m * 64 : Nat) : Int) by rw [show IntKind.wrap .i64 ((m : Int) * 64) = (m : Int) * 64 from IntWalk.i64_in _ ⟨by omega, by omega⟩]; omega))
    refine wl_drop orcL_ok fr rfl rfl rfl rfl rfl rfl rfl infoB rfl ⟨by omega, by omega⟩ fun a fr => ?_
    have S : Sat w0 _ (stA 22 bx [.slice A1 b.length c1] :: Z (l ++ [(r, m)]) :: objA (.loop rec) lp :: ownA .u8 5 A0 c0 all :: M) := S.frontAt 2 rfl
    refine wl_stv orcL_ok fr rfl rfl rfl rfl rfl rfl rfl rfl S ?_
    intro w4 S
    have S : Sat w0 _ (Z (l ++ [(r, m)]) :: objA (.loop rec) lp :: stA 22 bx [.slice (dropA A1 c1 (Int.toNat ((m * 64 : Nat) : Int))) (b.drop (Int.toNat ((m * 64 : Nat) : Int))).length (c1 - Int.toNat ((m * 64 : Nat) : Int))] :: ownA .u8 5 A0 c0 all :: M) := ((S.frontAt 1 rfl).frontAt 2 rfl).frontAt 1 rfl
    rw [Int.toNat_natCast] at S
    refine wpList_nil ?_; (repeat (with_reducible refine then_n ?_))
    (repeat (first | (with_reducible refine then_n ?_) | (with_reducible refine blk_n ?_) | (with_reducible refine ng_n ?_)))
    have hgo : parse (q + 1) b = (r, m) :: parse q (b.drop (m * 64)) := by
      conv => lhs; unfold parse
      rw [hg]
    rw [hgo] at hp
    have hdl : (b.drop (m * 64)).length = b.length - m * 64 := List.length_drop
    have hse := secs_snoc l (r, m)
    exact ⟨l ++ [(r, m)], b.drop (m * 64), dropA A1 c1 (m * 64), c1 - m * 64, by omega, by rw [List.append_assoc]; exact hp, by rw [hse, hdl]; simp only; omega, by rw [hse]; simp only [List.length_append, List.length_singleton]; omega, fun w hw => (hrd w hw).drop hmc.1, ⟨by omega, by omega⟩, fr.sub ⟨rfl, rfl, trivial⟩, S⟩
/-- walls.found: the iterator, over a variable that holds the bytes. -/
theorem found_call {A : Option Addr} {n c : Nat} (hv : vok (.slice A n c) = true) (S : Sat w0 w R) :
    Calls Try.prog 29 #[.slice A n c] w fun e w' => ∃ bx, e = .returned (.func (.func 39) #[] #[.pointer (some ⟨bx, 0, none⟩)]) ∧ Sat w0 w' (stA 22 bx [.slice A n c] :: R) := by
  refine calls_start (N := 4) [.slice A n c] Try.func29 rfl rfl rfl (vok_c hv rfl) fun a fr => ?_
  skip; (repeat (with_reducible refine wp_seq ?_)); refine wp_region_lit ?_
  refine wl_boxv fr rfl rfl rfl rfl rfl rfl S ?_
  intro w1 bx S a fr
  refine wl_val (v := .nilFunc) fr rfl rfl rfl rfl rfl fun a fr => ?_
  refine wpList_nil ?_; (repeat (with_reducible refine then_n ?_))
  skip; (repeat (with_reducible refine wp_seq ?_)); refine wp_region_lit ?_
  refine wl_makef (xs := [.pointer (some ⟨bx, 0, none⟩)]) fr rfl rfl rfl rfl rfl ?_
  intro a fr
  refine wl_run orcL_ok 1 rfl fr fun a fr => ?_
  refine wpList_nil ?_; (repeat (with_reducible refine then_n ?_))
  refine wp_ret ?_
  refine ret1 fr rfl rfl ?_
  exact ⟨bx, rfl, S⟩
end
end Go.Proofs.Ytmpkoacpakepfaa.Sx
