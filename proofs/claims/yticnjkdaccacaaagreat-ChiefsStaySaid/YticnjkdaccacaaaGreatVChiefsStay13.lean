/- Texts of this work, one behind the other. -/
import Derived.Test.YticnjkdaccacaaaGreatVChiefsStay12
set_option maxRecDepth 100000
set_option maxHeartbeats 16000000
section
namespace Go.Proofs.YticnjkdaccacaaaGreat.Sx
open Go Go.RowKit Base Oq OwnV Disk
theorem enAdd : Enters Tryz.prog 33 := fun _ _ => by kernel_rfl
theorem enForce : Enters Tryz.prog 35 := fun _ _ => by kernel_rfl
theorem enCommit : Enters Tryz.prog 74 := fun _ _ => by kernel_rfl
theorem enDone : Enters Tryz.prog 42 := fun _ _ => by kernel_rfl
theorem enDoing : Enters Tryz.prog 41 := fun _ _ => by kernel_rfl
def commitG {α : Type} (G : Gl α) : Gl α := { G with ph := 3, com := true }
def commitR {α : Type} (G : Gl α) : List Int := 99 :: (fourL G.g ++ sites allV G)
section
variable {w w0 : World} {R M : List Asn} {b bl bm bk bw bx bd : Nat} {last now x : Int} {m : List (Int × Int)} {G : Gl RawV} {D : Dk}
theorem lit3_exec {P : Program} {N : Nat} {a : Act} {L : Env} {t e : Nat} (hu : P.underlying t = some (.slice e)) (hi : (P.info? e).map (fun i => (i.zero.isSome, i.size)) = some (true, 1)) (fr : FrD [] N a L) {o : Oper} {x0 x1 x2 : Operand} {v0 v1 v2 : Value} (ho : o.op = .buildSlice t 3 #[(0, x0), (1, x1), (2, x2)]) (h0 : ev L x0 = some v0) (h1 : ev L x1 = some v1) (h2 : ev L x2 = some v2)
  (c0 : v0.cells = #[v0]) (c1 : v1.cells = #[v1]) (c2 : v2.cells = #[v2]) (k0 : vok1 v0 = true) (k1 : vok1 v1 = true) (k2 : vok1 v2 = true) (S : Sat w0 w R) :
  ∃ A w', (execOp a.eval o).run P w = .ok (.value (.slice A 3 3)) w' ∧ vok (.slice A 3 3) = true ∧ Sat w0 w' (rvA e 1 A 3 3 [v0, v1, v2] :: R) := by
 obtain ⟨ie, hie, hzz⟩ := Option.map_eq_some_iff.1 hi
 simp only [Prod.mk.injEq] at hzz
 obtain ⟨z0, hz0⟩ := Option.isSome_iff_exists.1 hzz.1
 refine ⟨some ⟨w.heap.size, 0, none⟩, w.alloc (.cells #[v0, v1, v2] e), ?_, vok_sl ⟨Nat.le_refl _, by unfold maxLen; omega⟩, ?_⟩
 ·unfold execOp
  simp only [ho]
  have e1 : (#[(0, x0), (1, x1), (2, x2)] : Array (Nat × Operand)).map (fun (i, x) => (i, a.eval x)) = #[(0, v0), (1, v1), (2, v2)] := by simp [(fr.ev h0).1, (fr.ev h1).1, (fr.ev h2).1]
  rw [e1]
  have h := Go.run_buildSlice (P := P) w t e 3 #[(0, v0), (1, v1), (2, v2)] #[v0, v1, v2] ie z0 hu hie hz0 (by rw [hzz.2]; omega) (by rw [hzz.2]; omega) (by
   rw [hzz.2]
   simp [Instr.fill, c0, c1, c2]
   apply Array.ext
   ·simp
   ·intro i q1 q2
    have hi3 : i < 3 := by simpa using q2
    have : i = 0 ∨ i = 1 ∨ i = 2 := by omega
    rcases this with rfl | rfl | rfl <;> simp [Array.getElem_setIfInBounds])
  rw [Sem.run_bind, h]; rfl
 ·have hm := RowV.made w e 1 3 #[v0, v1, v2] S.below.size rfl (by unfold maxLen; omega)
  exact S.add (F := fun g => (Value.slice (some ⟨w.heap.size, 0, none⟩) 3 3).ownBlock = some g) ((Below.refl _ _).alloc (Nat.le_refl _) _) ⟨hm, fun v hv => by
   have hv : v ∈ [v0, v1, v2] := hv
   simp only [List.mem_cons, List.not_mem_nil, or_false] at hv
   rcases hv with rfl | rfl | rfl
   ·exact k0
   ·exact k1
   ·exact k2, fun g => Iff.rfl⟩ fun g hg => by
   have : w.heap.size = g := by simpa [Value.ownBlock] using hg
   omega
theorem vt_addr (k j : Nat) : (((⟨bx, 0, none⟩ : Addr).add 5).add (k * 4)).add j = (⟨bx, 0, none⟩ : Addr).add (5 + (k * 4 + j)) := by rw [add_add, add_add]
def updV {α : Type} (f : Vt α → Vt α) : Nat → List (Vt α) → List (Vt α)
 | _, [] => []
 | 0, v :: r => f v :: r
 | n + 1, v :: r => v :: updV f n r
theorem updV_len {α : Type} (f : Vt α → Vt α) : ∀ (n : Nat) (l : List (Vt α)), (updV f n l).length = l.length := by
 intro n l
 induction l generalizing n with
 | nil => cases n <;> rfl
 | cons v r ih => cases n <;> simp [updV, ih]
theorem updV_flat {f : Vt RawV → Vt RawV} {k : Nat} {u : Value} (hk : k < 4) : ∀ (n : Nat) (l : List (Vt RawV)), (∀ h : n < l.length, (vtV l[n]).set k u = vtV (f l[n])) → (l.flatMap vtV).set (n * 4 + k) u = (updV f n l).flatMap vtV := by
 intro n l
 induction l generalizing n with
 | nil => intro _; cases n <;> rfl
 | cons v r ih =>
  intro h
  cases n with
  | zero =>
   have this : (vtV v).set k u = vtV (f v) := h (by simp)
   rw [updV, List.flatMap_cons, List.flatMap_cons, Nat.zero_mul, Nat.zero_add, List.set_append_left _ _ (by rw [vtV_len]; exact hk), this]
  | succ n =>
   have := ih n (fun hn => h (by simpa using hn))
   rw [updV, List.flatMap_cons, List.flatMap_cons, List.set_append_right _ _ (by rw [vtV_len]; omega), vtV_len, show (n + 1) * 4 + k - 4 = n * 4 + k by omega, this]
theorem gl_at {k j : Nat} {u : Value} (hk : k < G.v.length) (hj : (vtV G.v[k])[j]? = some u) : (glV G)[5 + (k * 4 + j)]? = some u := by
 have := el_get vtV_len G.v k j u hk hj
 rw [show 5 + (k * 4 + j) = (k * 4 + j) + 5 by omega]
 exact this
theorem gl_set {f : Vt RawV → Vt RawV} {k j : Nat} {u : Value} (hj : j < 4) (h : ∀ h : k < G.v.length, (vtV G.v[k]).set j u = vtV (f G.v[k])) : (glV G).set (5 + (k * 4 + j)) u = glV { G with v := updV f k G.v } := by
 have := updV_flat hj k G.v h
 rw [show 5 + (k * 4 + j) = (k * 4 + j) + 5 by omega]
 show .int .u32 G.g :: .int .u8 G.ph :: .bool G.com :: .bool G.kn :: .bool G.told :: (G.v.flatMap vtV).set (k * 4 + j) u = _
 rw [this]
 rfl
def vDone {α : Type} (v : Vt α) : Vt α := { v with done := true }
def endR (g : Int) : List Int := 101 :: fourL g
def doneG {α : Type} (G : Gl α) (k : Nat) : Gl α := { G with v := updV vDone k G.v }
def ends {α : Type} (G : Gl α) (k : Nat) : Bool := G.ph == 3 && (((sites notDone (doneG G k)).length : Int) == 0)
def doneM {α : Type} (G : Gl α) (k : Nat) : Gl α := if G.ph == 3 then (if ends G k then { doneG G k with ph := 4 } else doneG G k) else G
def doneX {α : Type} (G : Gl α) (k : Nat) (D : Dk) (x : Int) : Int := if ends G k then addXI D x (endR G.g) else x
def doneD {α : Type} (G : Gl α) (k : Nat) (D : Dk) (x : Int) : Dk := if ends G k then addDI D x (endR G.g) else D
theorem done_call {k : Nat} (hk : k < 4) (h4 : G.v.length = 4) (hb : (0 ≤ x ∧ x ≤ 4096) ∧ D.waits.length ≤ 100000000) (S : Sat w0 w (chS b bl bm last bk :: logA bl bd x :: diskA bd D :: glA (bx, G) :: R)) :
  Calls Tryz.prog 42 #[.pointer (some ⟨b, 0, none⟩), .pointer (some ⟨bx, 0, none⟩), .int .u8 (k : Int)] w fun e w' => e = .returned (.tuple #[]) ∧ Sat w0 w' (chS b bl bm last bk :: logA bl bd (doneX G k D x) :: diskA bd (doneD G k D x) :: glA (bx, doneM G k) :: R) := by
 have hg := (gl_votes S 3 rfl).2.1
 have hkv : k < G.v.length := by omega
 have hkw : (Lit.int .u8 (k : Int)).wf = true := by
  rw [wf_int]
  have h1 : IntKind.u8.min = 0 := by decide
  have h2 : IntKind.u8.max = 255 := by decide
  omega
 refine calls_start (N := 36) [.pointer (some ⟨b, 0, none⟩), .pointer (some ⟨bx, 0, none⟩), .int .u8 (k : Int)] Tryz.func42 rfl rfl rfl (vok_c rfl (vok_c rfl (vok_c hkw rfl))) fun a fr => ?_
 refine r_ rfl ?_
 repeat refine w_ oCh_ rfl fr fun a fr => ?_
 refine wl_ldf oCh_ (Sat.stAt S 3 rfl (j := 1) rfl) fr rfl rfl rfl rfl rfl rfl rfl fun a fr => ?_
 repeat refine w_ oCh_ rfl fr fun a fr => ?_
 first | refine e_ ?_ | refine wpList_nil ?_
 refine bs 10 fr rfl (fun h1 fr => ?_) (fun h1 fr => ?_)
 ·have h1 : (G.ph != 3) = true := h1
  have hp : (G.ph == 3) = false := by simpa using h1
  refine q_ rfl ?_
  refine cw_t fr rfl ?_
  refine wp_ret ?_
  try simp only [Exit.then, Exit.inBlock]
  have e1 : ends G k = false := by unfold ends; rw [hp]; rfl
  refine ret0 fr rfl ⟨rfl, ?_⟩
  unfold doneX doneD doneM
  rw [e1, hp]
  exact S
 have h1 : (G.ph != 3) = false := h1
 have hp : (G.ph == 3) = true := by simpa using h1
 refine q_ rfl ?_
 refine cw_f fr rfl ?_
 refine wp_skip ?_
 with_reducible refine then_n ?_
 have S := ((((S.frontAt 2 rfl).frontAt 2 rfl).frontAt 2 rfl).frontAt 3 rfl)
 refine r_ rfl ?_
 repeat refine w_ oCh_ rfl fr fun a fr => ?_
 refine wl_ixa oCh_ fr rfl rfl rfl rfl rfl rfl rfl rfl ⟨by omega, by omega⟩ fun a fr => ?_
 repeat refine w_ oCh_ rfl fr fun a fr => ?_
 refine wl_stfA oCh_ (5 + (k * 4 + 2)) fr rfl rfl rfl rfl (vt_addr k 2) rfl rfl rfl rfl S (by
  show 5 + (k * 4 + 2) < (G.v.flatMap vtV).length + 1 + 1 + 1 + 1 + 1
  rw [el_len vtV_len, h4]; omega) ?_
 intro w1 S
 rw [gl_set (f := vDone) (by decide) (fun _ => rfl)] at S
 have S : Sat w0 w1 (glA (bx, doneG G k) :: chS b bl bm last bk :: logA bl bd x :: diskA bd D :: R) := S
 first | refine e_ ?_ | refine wpList_nil ?_
 have h4' : (doneG G k).v.length = 4 := by show (updV vDone k G.v).length = 4; rw [updV_len]; exact h4
 refine r_ rfl ?_
 repeat refine w_ oCh_ rfl fr fun a fr => ?_
 refine wl_call fr rfl rfl rfl rfl enSites (sites_call enDone1 asks_done h4' S) ?_
 rintro _ w2 ⟨A2, c2, rfl, hv2, S⟩
 refine ⟨_, rfl, hv2, fun a fr => ?_⟩
 have S := S.tl
 repeat refine w_ oCh_ rfl fr fun a fr => ?_
 first | refine e_ ?_ | refine wpList_nil ?_
 refine bs 20 fr rfl (fun h2 fr => ?_) (fun h2 fr => ?_)
 rotate_left
 ·refine q_ rfl ?_
  refine cw_f fr rfl ?_
  refine wp_skip ?_
  repeat with_reducible refine then_n ?_
  have e1 : ends G k = false := by unfold ends; rw [hp]; exact h2
  have key : bodyPost Tryz.prog Tryz.f42 (fun e w' => e = .returned (.tuple #[]) ∧ Sat w0 w' (chS b bl bm last bk :: logA bl bd (doneX G k D x) :: diskA bd (doneD G k D x) :: glA (bx, doneM G k) :: R)) .ret a w2 := by
   refine ret0 fr rfl ⟨rfl, ?_⟩
   unfold doneX doneD doneM
   rw [e1, hp]
   exact (((S.frontAt 3 rfl).frontAt 3 rfl).frontAt 3 rfl)
  first
   | exact end_ret key
   | (refine wp_ret ?_; exact key)
 have e1 : ends G k = true := by unfold ends; rw [hp]; exact h2
 have eX : doneX G k D x = addXI D x (endR G.g) := by unfold doneX; rw [e1]; rfl
 have eD : doneD G k D x = addDI D x (endR G.g) := by unfold doneD; rw [e1]; rfl
 have eM : doneM G k = { doneG G k with ph := 4 } := by unfold doneM; rw [e1, hp]; rfl
 rw [eX, eD, eM]
 clear eX eD eM
 have S := (((S.frontAt 3 rfl).frontAt 3 rfl).frontAt 3 rfl)
 have fr := fr.sub (L' := [(0, .pointer (some ⟨b, 0, none⟩)), (1, .pointer (some ⟨bx, 0, none⟩)), (20, .bool true)]) ⟨rfl, rfl, rfl, trivial⟩
 refine q_ rfl ?_
 refine cw_t fr rfl ?_
 refine q_ rfl ?_
 refine wp_region_pool (fun n => match n with
  | 0 => fun a w => Fr 36 a [(1, .pointer (some ⟨bx, 0, none⟩)), (24, .pointer (some ⟨bl, 0, none⟩)), (29, .int .u32 G.g)] ∧ Sat w0 w (chS b bl bm last bk :: logA bl bd x :: diskA bd D :: glA (bx, doneG G k) :: R)
  | 1 => fun a w => ∃ A c, Fr 36 a [(1, .pointer (some ⟨bx, 0, none⟩)), (24, .pointer (some ⟨bl, 0, none⟩)), (29, .int .u32 G.g), (25, .slice A ([101] : List Int).length c)] ∧ Sat w0 w (ownA .u8 5 A c [101] :: chS b bl bm last bk :: logA bl bd x :: diskA bd D :: glA (bx, doneG G k) :: R)
  | 2 => fun a w => ∃ A c, Fr 36 a [(1, .pointer (some ⟨bx, 0, none⟩)), (24, .pointer (some ⟨bl, 0, none⟩)), (29, .int .u32 G.g), (30, .slice A 4 c)] ∧ Sat w0 w (ownA .u8 5 A c (fourL G.g) :: chS b bl bm last bk :: logA bl bd x :: diskA bd D :: glA (bx, doneG G k) :: R)
  | 3 => fun a w => ∃ A c A' c', Fr 36 a [(1, .pointer (some ⟨bx, 0, none⟩)), (24, .pointer (some ⟨bl, 0, none⟩)), (25, .slice A ([101] : List Int).length c), (30, .slice A' 4 c')] ∧ Sat w0 w (ownA .u8 5 A c [101] :: ownA .u8 5 A' c' (fourL G.g) :: chS b bl bm last bk :: logA bl bd x :: diskA bd D :: glA (bx, doneG G k) :: R)
  | _ => fun _ _ => False) [u_ 0 21, u_ 1 22, u_ 2 23, u_ 3 24, u_ 5 26, u_ 6 27, u_ 7 28, u_ 8 29]
        [m_ 21 0 24,
        c_ 22 21,
        f_ 23 77 22 0,
        l_ 24 73 23,
        m_ 26 1 83,
        c_ 27 26,
        f_ 28 88 27 0,
        l_ 29 31 28]
        [⟨0, #[true, true, true, true, false, true, true, true, true, false, false, false], [(4, some 25, 1), (9, some 30, 2)]⟩, ⟨1, #[true, true, true, true, true, true, true, true, true, false, false, false], [(9, some 30, 3)]⟩, ⟨2, #[true, true, true, true, false, true, true, true, true, true, false, false], [(4, some 25, 3)]⟩] ⟨0, #[true, true, true, true, false, true, true, true, true, false, false, false], [(4, some 25, 1), (9, some 30, 2)]⟩
        [(0, [(⟨false, some 25, (Go.Op.buildSlice 92 1 #[(0, (Go.Operand.const (Go.Value.int Go.IntKind.u8 101)))]), 92, none⟩, 1), (⟨false, some 30, (Go.Op.call { callee := (Go.Callee.value (Go.Operand.func 34)), args := #[(Go.Operand.tmp 29)], argTypes := #[31] }), 92, none⟩, 2)]), (1, [(⟨false, some 30, (Go.Op.call { callee := (Go.Callee.value (Go.Operand.func 34)), args := #[(Go.Operand.tmp 29)], argTypes := #[31] }), 92, none⟩, 3)]), (2, [(⟨false, some 25, (Go.Op.buildSlice 92 1 #[(0, (Go.Operand.const (Go.Value.int Go.IntKind.u8 101)))]), 92, none⟩, 3)])] #[true, true, true, true, true, true, true, true, true, true, false, false] 3
        [.one (10, false, some 31), .one (11, false, some 32)]
        [.one ⟨false, some 31, (.call { callee := (.builtin Go.Builtin.append), args := #[(.tmp 25), (.tmp 30)], argTypes := #[92, 92] }), 92, none⟩,
        .one ⟨false, some 32, (.call { callee := (.value (.func 33)), args := #[(.tmp 24), (.tmp 31)], argTypes := #[73, 92] }), 28, none⟩]
  (fun v => Sat w0 v [chS b bl bm last bk, glA (bx, doneG G k)]) rfl (by kernel_rfl) (List.mem_cons_self) (by kernel_rfl) (by kernel_rfl) (by kernel_rfl) (by kernel_rfl) (((S.frontAt 3 rfl).frontAt 1 rfl).drew.firsts [_, _]) ?_ ⟨⟨?_, ?_, trivial⟩, ⟨?_, trivial⟩, ⟨?_, trivial⟩, trivial⟩ ?_
 ·have S := S.drew
  have hS : Sat w0 _ [chS b bl bm last bk, glA (bx, doneG G k)] := ((S.frontAt 3 rfl).frontAt 1 rfl).firsts [_, _]
  (repeat (first | refine sl_run oCh_ 1 rfl fr fun a fr => ?_ | refine sl_ldf oCh_ (fun _ S => Sat.stAt S 0 rfl rfl) fr rfl rfl rfl rfl rfl rfl rfl rfl hS fun a fr => ?_ | refine sl_ldf oCh_ (fun _ S => Sat.stAt S 1 rfl (j := 0) rfl) fr rfl rfl rfl rfl rfl rfl rfl rfl hS fun a fr => ?_))
  refine sl_end ?_
  exact ⟨rfl, fr.sub ⟨rfl, rfl, rfl, trivial⟩, S⟩
 ·rintro a w hS ⟨fr, S⟩
  refine sl_lit (xs := [101]) oCh_ litB fr rfl rfl rfl rfl rfl ⟨rfl, rfl, trivial⟩ rfl rfl S ?_
  intro w3 A c S
  refine ⟨((S.frontAt 4 rfl).frontAt 2 rfl).firsts [_, _], fun a fr => ?_⟩
  refine sl_end ?_
  exact ⟨rfl, A, c, fr.sub ⟨rfl, rfl, rfl, rfl, trivial⟩, S⟩
 ·rintro a w hS ⟨fr, S⟩
  refine sl_call fr rfl rfl rfl rfl rfl enFour (four_call hg S) ?_
  rintro _ w3 ⟨A, c, rfl, hv, S⟩
  refine ⟨_, rfl, hv, ((S.frontAt 4 rfl).frontAt 2 rfl).firsts [_, _], fun a fr => ?_⟩
  refine sl_end ?_
  exact ⟨rfl, A, c, fr.sub ⟨rfl, rfl, rfl, rfl, trivial⟩, S⟩
 ·rintro a w hS ⟨A, c, fr, S⟩
  refine sl_call fr rfl rfl rfl rfl rfl enFour (four_call hg S) ?_
  rintro _ w3 ⟨A', c', rfl, hv, S⟩
  refine ⟨_, rfl, hv, ((S.frontAt 5 rfl).frontAt 3 rfl).firsts [_, _], fun a fr => ?_⟩
  refine sl_end ?_
  exact ⟨rfl, A, c, A', c', fr.sub ⟨rfl, rfl, rfl, rfl, trivial⟩, (S.frontAt 1 rfl)⟩
 ·rintro a w hS ⟨A, c, fr, S⟩
  refine sl_lit (xs := [101]) oCh_ litB fr rfl rfl rfl rfl rfl ⟨rfl, rfl, trivial⟩ rfl rfl S ?_
  intro w3 A' c' S
  refine ⟨((S.frontAt 5 rfl).frontAt 3 rfl).firsts [_, _], fun a fr => ?_⟩
  refine sl_end ?_
  exact ⟨rfl, A', c', A, c, fr.sub ⟨rfl, rfl, rfl, rfl, trivial⟩, S⟩
 ·rintro a w hS ⟨A, c, A', c', fr, S⟩
  have hy := Sat.ownAt S 1 rfl
  refine sl_app litB fr rfl rfl rfl rfl rfl rfl rfl rfl rfl hy (by simp [fourL]) S ?_
  intro w3 A3 c3 S
  have S := (((((S.frontAt 5 rfl).frontAt 5 rfl).frontAt 5 rfl).frontAt 5 rfl).frontAt 4 rfl)
  have S : Sat w0 w3 (ownA .u8 5 A3 c3 (endR G.g) :: chS b bl bm last bk :: logA bl bd x :: diskA bd D :: glA (bx, doneG G k) :: ownA .u8 5 A' c' (fourL G.g) :: R) := S
  refine ⟨((S.frontAt 4 rfl).frontAt 2 rfl).firsts [_, _], fun a fr => ?_⟩
  have hm3 := S.own.2
  have hrk := S.own.1
  have S := (((((S.frontAt 4 rfl).frontAt 2 rfl).frontAt 2 rfl).frontAt 4 rfl).frontAt 4 rfl)
  refine sl_call fr rfl rfl rfl rfl rfl enAdd (add_callI (A := A3) (c := c3) (l := endR G.g) S hrk hm3 ⟨hb.1, hb.2, by simp [endR, fourL]⟩) ?_
  rintro _ w4 ⟨rfl, hv4, S⟩
  have S : Sat w0 w4 (logA bl bd (addXI D x (endR G.g)) :: diskA bd (addDI D x (endR G.g)) :: ownA .u8 5 A3 c3 (endR G.g) :: chS b bl bm last bk :: glA (bx, doneG G k) :: ownA .u8 5 A' c' (fourL G.g) :: R) := S
  refine ⟨_, rfl, hv4, ((S.frontAt 4 rfl).frontAt 4 rfl).firsts [_, _], fun a fr => ?_⟩
  refine sl_end ?_
  repeat with_reducible refine then_n ?_
  have S := ((((S.frontAt 1 rfl).frontAt 1 rfl).frontAt 3 rfl).frontAt 4 rfl)
  refine r_ rfl ?_
  repeat refine w_ oCh_ rfl fr fun a fr => ?_
  refine wl_stfA oCh_ 1 fr rfl rfl rfl rfl rfl rfl rfl rfl rfl S (by simp [glV]) ?_
  intro w5 S
  have S : Sat w0 w5 (glA (bx, { doneG G k with ph := 4 }) :: chS b bl bm last bk :: logA bl bd (addXI D x (endR G.g)) :: diskA bd (addDI D x (endR G.g)) :: ownA .u8 5 A3 c3 (endR G.g) :: ownA .u8 5 A' c' (fourL G.g) :: R) := S
  first | refine e_ ?_ | refine wpList_nil ?_
  have key : bodyPost Tryz.prog Tryz.f42 (fun e w' => e = .returned (.tuple #[]) ∧ Sat w0 w' (chS b bl bm last bk :: logA bl bd (addXI D x (endR G.g)) :: diskA bd (addDI D x (endR G.g)) :: glA (bx, { doneG G k with ph := 4 }) :: R)) .ret a w5 := by
   refine ret0 fr rfl ⟨rfl, ?_⟩
   exact (((S.frontAt 3 rfl).frontAt 3 rfl).frontAt 3 rfl).mask [true, true, true, true, false, false]
  first
   | exact end_ret key
   | (refine wp_ret ?_; exact key)
theorem rd3 {A0 A A' A'' : Option Addr} {c c' c'' : Nat} {l l' l'' : List Int} (h0 : [Value.slice A l.length c, .slice A' l'.length c', .slice A'' l''.length c''].all vok1 = true)
  (S : Sat w0 w (rvA 92 1 A0 3 3 [.slice A l.length c, .slice A' l'.length c', .slice A'' l''.length c''] :: ownA .u8 5 A c l :: ownA .u8 5 A' c' l' :: ownA .u8 5 A'' c'' l'' :: R)) : RdSl w A0 [(A, c, l), (A', c', l'), (A'', c'', l'')] := by
 obtain ⟨q1, q2, q3, q4, q5⟩ := Sat.rvAt S 0 rfl
 have r1 := Sat.ownAt S 1 rfl
 have r2 := Sat.ownAt S 2 rfl
 have r3 := Sat.ownAt S 3 rfl
 simp only [List.all_cons, List.all_nil, Bool.and_true, Bool.and_eq_true] at h0
 refine ⟨fun i hi => ?_⟩
 cases A0 with
 | none => have := q3 rfl; omega
 | some ad =>
  obtain ⟨g, rfl, hrg⟩ := q5 _ rfl
  have hc : ∀ j u, [Value.slice A l.length c, .slice A' l'.length c', .slice A'' l''.length c''][j]? = some u → w.cell? ((⟨g, 0, none⟩ : Addr).add (j * 1)) = some u := fun j u hu => by
   have := hrg j u hu
   rw [Nat.zero_add] at this
   rw [addr0, Nat.mul_one]; exact this
  have hi : i < 3 := hi
  have : i = 0 ∨ i = 1 ∨ i = 2 := by omega
  rcases this with rfl | rfl | rfl
  ·exact ⟨⟨_, rfl, hc 0 _ rfl⟩, h0.1, r1⟩
  ·exact ⟨⟨_, rfl, hc 1 _ rfl⟩, h0.2.1, r2⟩
  ·exact ⟨⟨_, rfl, hc 2 _ rfl⟩, h0.2.2, r3⟩
def commitOk {α : Type} (G : Gl α) (D : Dk) (x : Int) : Bool := addEI D x (commitR G) == 0
def commitS {α : Type} (G : Gl α) (D : Dk) (x : Int) : Int := if commitOk G D x then 4 else 5
def commitD {α : Type} (G : Gl α) (D : Dk) (x : Int) : Dk := if commitOk G D x then (addDI D x (commitR G)).sync else addDI D x (commitR G)
def commitM {α : Type} (G : Gl α) (D : Dk) (x : Int) : Gl α := if commitOk G D x then commitG G else abortG G
theorem commit_call (h4 : G.v.length = 4) (hb : (0 ≤ x ∧ x ≤ 4096) ∧ D.waits.length ≤ 100000000) (S : Sat w0 w (chS b bl bm last bk :: logA bl bd x :: diskA bd D :: ckS bk bw now :: ckM bw m :: glA (bx, G) :: R)) :
  Calls Tryz.prog 74 #[.pointer (some ⟨b, 0, none⟩), .pointer (some ⟨bx, 0, none⟩)] w fun e w' => ∃ A' c', e = .returned (.slice A' (sites allV G).length (sites allV G).length) ∧ vok (.slice A' (sites allV G).length (sites allV G).length) = true ∧ Sat w0 w' (pmA A' c' (toM (commitS G D x) G.g (sites allV G)) :: chS b bl bm last bk :: logA bl bd (addXI D x (commitR G)) :: diskA bd (commitD G D x) :: ckS bk bw now :: ckM bw (delM m G.g) :: glA (bx, commitM G D x) :: R) := by
 have hg := (gl_votes S 5 rfl).2.1
 have hsl : (sites allV G).length ≤ 4 := sites_short allV h4
 refine calls_start (N := 48) [.pointer (some ⟨b, 0, none⟩), .pointer (some ⟨bx, 0, none⟩)] Tryz.func74 rfl rfl rfl rfl fun a fr => ?_
 refine r_ rfl ?_
 repeat refine w_ oCh_ rfl fr fun a fr => ?_
 refine eq_ rfl rfl ?_
 refine wp_region_pool (fun n => match n with
  | 0 => fun a w => Fr 48 a [(0, .pointer (some ⟨b, 0, none⟩)), (1, .pointer (some ⟨bx, 0, none⟩)), (8, .pointer (some ⟨bl, 0, none⟩)), (15, .pointer (some ⟨bx, 0, none⟩)), (13, .int .u32 G.g)] ∧ Sat w0 w (chS b bl bm last bk :: logA bl bd x :: diskA bd D :: ckS bk bw now :: ckM bw m :: glA (bx, G) :: R)
  | 1 => fun a w => ∃ A c, Fr 48 a [(0, .pointer (some ⟨b, 0, none⟩)), (1, .pointer (some ⟨bx, 0, none⟩)), (8, .pointer (some ⟨bl, 0, none⟩)), (15, .pointer (some ⟨bx, 0, none⟩)), (13, .int .u32 G.g), (9, .slice A ([99] : List Int).length c)] ∧ Sat w0 w (ownA .u8 5 A c [99] :: chS b bl bm last bk :: logA bl bd x :: diskA bd D :: ckS bk bw now :: ckM bw m :: glA (bx, G) :: R)
  | 2 => fun a w => ∃ A' c', Fr 48 a [(0, .pointer (some ⟨b, 0, none⟩)), (1, .pointer (some ⟨bx, 0, none⟩)), (8, .pointer (some ⟨bl, 0, none⟩)), (15, .pointer (some ⟨bx, 0, none⟩)), (14, .slice A' 4 c')] ∧ Sat w0 w (ownA .u8 5 A' c' (fourL G.g) :: chS b bl bm last bk :: logA bl bd x :: diskA bd D :: ckS bk bw now :: ckM bw m :: glA (bx, G) :: R)
  | 3 => fun a w => ∃ A c A' c', Fr 48 a [(0, .pointer (some ⟨b, 0, none⟩)), (1, .pointer (some ⟨bx, 0, none⟩)), (8, .pointer (some ⟨bl, 0, none⟩)), (15, .pointer (some ⟨bx, 0, none⟩)), (9, .slice A ([99] : List Int).length c), (14, .slice A' 4 c')] ∧ Sat w0 w (ownA .u8 5 A c [99] :: ownA .u8 5 A' c' (fourL G.g) :: chS b bl bm last bk :: logA bl bd x :: diskA bd D :: ckS bk bw now :: ckM bw m :: glA (bx, G) :: R)
  | 4 => fun a w => ∃ A' c' A'' c'', Fr 48 a [(0, .pointer (some ⟨b, 0, none⟩)), (1, .pointer (some ⟨bx, 0, none⟩)), (8, .pointer (some ⟨bl, 0, none⟩)), (15, .pointer (some ⟨bx, 0, none⟩)), (14, .slice A' 4 c'), (16, .slice A'' (sites allV G).length c'')] ∧ Sat w0 w (ownA .u8 5 A' c' (fourL G.g) :: ownA .u8 5 A'' c'' (sites allV G) :: chS b bl bm last bk :: logA bl bd x :: diskA bd D :: ckS bk bw now :: ckM bw m :: glA (bx, G) :: R)
  | 5 => fun a w => ∃ A c A' c' A'' c'', Fr 48 a [(0, .pointer (some ⟨b, 0, none⟩)), (1, .pointer (some ⟨bx, 0, none⟩)), (8, .pointer (some ⟨bl, 0, none⟩)), (15, .pointer (some ⟨bx, 0, none⟩)), (9, .slice A ([99] : List Int).length c), (14, .slice A' 4 c'), (16, .slice A'' (sites allV G).length c'')] ∧ Sat w0 w (ownA .u8 5 A c [99] :: ownA .u8 5 A' c' (fourL G.g) :: ownA .u8 5 A'' c'' (sites allV G) :: chS b bl bm last bk :: logA bl bd x :: diskA bd D :: ckS bk bw now :: ckM bw m :: glA (bx, G) :: R)
  | _ => fun _ _ => False) [u_ 0 5, u_ 1 6, u_ 2 7, u_ 3 8, u_ 5 10, u_ 6 11, u_ 7 12, u_ 8 13, u_ 10 15]
        [m_ 5 0 24,
        c_ 6 5,
        f_ 7 77 6 0,
        l_ 8 73 7,
        m_ 10 1 83,
        c_ 11 10,
        f_ 12 88 11 0,
        l_ 13 31 12,
        m_ 15 1 83]
        [⟨0, #[true, true, true, true, false, true, true, true, true, false, true, false, false, false, false, false], [(4, some 9, 1), (9, some 14, 2)]⟩, ⟨1, #[true, true, true, true, true, true, true, true, true, false, true, false, false, false, false, false], [(9, some 14, 3)]⟩, ⟨2, #[true, true, true, true, false, true, true, true, true, true, true, false, false, false, false, false], [(4, some 9, 3), (11, some 16, 4)]⟩, ⟨3, #[true, true, true, true, true, true, true, true, true, true, true, false, false, false, false, false], [(11, some 16, 5)]⟩, ⟨4, #[true, true, true, true, false, true, true, true, true, true, true, true, false, false, false, false], [(4, some 9, 5)]⟩] ⟨0, #[true, true, true, true, false, true, true, true, true, false, true, false, false, false, false, false], [(4, some 9, 1), (9, some 14, 2)]⟩
        [(0, [(⟨false, some 9, (Go.Op.buildSlice 92 1 #[(0, (Go.Operand.const (Go.Value.int Go.IntKind.u8 99)))]), 92, none⟩, 1), (⟨false, some 14, (Go.Op.call { callee := (Go.Callee.value (Go.Operand.func 34)), args := #[(Go.Operand.tmp 13)], argTypes := #[31] }), 92, none⟩, 2)]), (1, [(⟨false, some 14, (Go.Op.call { callee := (Go.Callee.value (Go.Operand.func 34)), args := #[(Go.Operand.tmp 13)], argTypes := #[31] }), 92, none⟩, 3)]), (2, [(⟨false, some 9, (Go.Op.buildSlice 92 1 #[(0, (Go.Operand.const (Go.Value.int Go.IntKind.u8 99)))]), 92, none⟩, 3), (⟨false, some 16, (Go.Op.call { callee := (Go.Callee.value (Go.Operand.func 29)), args := #[(Go.Operand.tmp 15), (Go.Operand.func 43)], argTypes := #[83, 94] }), 92, none⟩, 4)]), (3, [(⟨false, some 16, (Go.Op.call { callee := (Go.Callee.value (Go.Operand.func 29)), args := #[(Go.Operand.tmp 15), (Go.Operand.func 43)], argTypes := #[83, 94] }), 92, none⟩, 5)]), (4, [(⟨false, some 9, (Go.Op.buildSlice 92 1 #[(0, (Go.Operand.const (Go.Value.int Go.IntKind.u8 99)))]), 92, none⟩, 5)])] #[true, true, true, true, true, true, true, true, true, true, true, true, false, false, false, false] 5
        [.one (12, false, some 17), .one (13, false, some 18), .one (14, false, some 19), u_ 15 20]
        [.one ⟨false, some 17, (.buildSlice 124 3 #[(0, (.tmp 9)), (1, (.tmp 14)), (2, (.tmp 16))]), 124, none⟩,
        .one ⟨false, some 18, (.call { callee := (.value (.func 96)), args := #[(.tmp 17)], argTypes := #[124] }), 92, none⟩,
        .one ⟨false, some 19, (.call { callee := (.value (.func 33)), args := #[(.tmp 8), (.tmp 18)], argTypes := #[73, 92] }), 28, none⟩,
        .one ⟨true, some 20, (.binOp .neq 28 (.tmp 19) (.const (.int .i64 0)) 28), 4, none⟩]
  (fun v => Sat w0 v [chS b bl bm last bk, glA (bx, G)]) rfl (by kernel_rfl) (List.mem_cons_self) (by kernel_rfl) (by kernel_rfl) (by kernel_rfl) (by kernel_rfl) (((S.frontAt 5 rfl).frontAt 1 rfl).drew.firsts [_, _]) ?_ ⟨⟨?_, ?_, trivial⟩, ⟨?_, trivial⟩, ⟨?_, ?_, trivial⟩, ⟨?_, trivial⟩, ⟨?_, trivial⟩, trivial⟩ ?_
 ·have S := S.drew
  have hS : Sat w0 _ [chS b bl bm last bk, glA (bx, G)] := ((S.frontAt 5 rfl).frontAt 1 rfl).firsts [_, _]
  (repeat (first | refine sl_run oCh_ 1 rfl fr fun a fr => ?_ | refine sl_ldf oCh_ (fun _ S => Sat.stAt S 0 rfl rfl) fr rfl rfl rfl rfl rfl rfl rfl rfl hS fun a fr => ?_ | refine sl_ldf oCh_ (fun _ S => Sat.stAt S 1 rfl (j := 0) rfl) fr rfl rfl rfl rfl rfl rfl rfl rfl hS fun a fr => ?_))
  refine sl_end ?_
  exact ⟨rfl, fr.sub ⟨rfl, rfl, rfl, rfl, rfl, trivial⟩, S⟩
 ·rintro a w hS ⟨fr, S⟩
  refine sl_lit (xs := [99]) oCh_ litB fr rfl rfl rfl rfl rfl ⟨rfl, rfl, trivial⟩ rfl rfl S ?_
  intro w3 A c S
  refine ⟨((S.frontAt 6 rfl).frontAt 2 rfl).firsts [_, _], fun a fr => ?_⟩
  refine sl_end ?_
  exact ⟨rfl, A, c, fr.sub ⟨rfl, rfl, rfl, rfl, rfl, rfl, trivial⟩, S⟩
 ·rintro a w hS ⟨fr, S⟩
  refine sl_call fr rfl rfl rfl rfl rfl enFour (four_call hg S) ?_
  rintro _ w3 ⟨A, c, rfl, hv, S⟩
  refine ⟨_, rfl, hv, ((S.frontAt 6 rfl).frontAt 2 rfl).firsts [_, _], fun a fr => ?_⟩
  refine sl_end ?_
  exact ⟨rfl, A, c, fr.sub ⟨rfl, rfl, rfl, rfl, rfl, trivial⟩, S⟩
 ·rintro a w hS ⟨A, c, fr, S⟩
  refine sl_call fr rfl rfl rfl rfl rfl enFour (four_call hg S) ?_
  rintro _ w3 ⟨A', c', rfl, hv, S⟩
  refine ⟨_, rfl, hv, ((S.frontAt 7 rfl).frontAt 3 rfl).firsts [_, _], fun a fr => ?_⟩
  refine sl_end ?_
  exact ⟨rfl, A, c, A', c', fr.sub ⟨rfl, rfl, rfl, rfl, rfl, rfl, trivial⟩, (S.frontAt 1 rfl)⟩
 ·rintro a w hS ⟨A, c, fr, S⟩
  refine sl_lit (xs := [99]) oCh_ litB fr rfl rfl rfl rfl rfl ⟨rfl, rfl, trivial⟩ rfl rfl S ?_
  intro w3 A' c' S
  refine ⟨((S.frontAt 7 rfl).frontAt 3 rfl).firsts [_, _], fun a fr => ?_⟩
  refine sl_end ?_
  exact ⟨rfl, A', c', A, c, fr.sub ⟨rfl, rfl, rfl, rfl, rfl, rfl, trivial⟩, S⟩
 ·rintro a w hS ⟨A', c', fr, S⟩
  have S := (((((((S.frontAt 5 rfl).frontAt 5 rfl).frontAt 5 rfl).frontAt 5 rfl).frontAt 5 rfl).frontAt 5 rfl).frontAt 6 rfl)
  refine sl_call fr rfl rfl rfl rfl rfl enSites (sites_call enEach asks_each h4 S) ?_
  rintro _ w3 ⟨A'', c'', rfl, hv, S⟩
  refine ⟨_, rfl, hv, ((S.frontAt 1 rfl).frontAt 3 rfl).firsts [_, _], fun a fr => ?_⟩
  refine sl_end ?_
  exact ⟨rfl, A', c', A'', c'', fr.sub ⟨rfl, rfl, rfl, rfl, rfl, rfl, trivial⟩, ((((((((S.frontAt 1 rfl).frontAt 7 rfl).frontAt 7 rfl).frontAt 7 rfl).frontAt 7 rfl).frontAt 7 rfl).frontAt 6 rfl).frontAt 7 rfl)⟩
 ·rintro a w hS ⟨A, c, A', c', fr, S⟩
  have S := ((((((((S.frontAt 6 rfl).frontAt 6 rfl).frontAt 6 rfl).frontAt 6 rfl).frontAt 6 rfl).frontAt 6 rfl).frontAt 6 rfl).frontAt 7 rfl)
  refine sl_call fr rfl rfl rfl rfl rfl enSites (sites_call enEach asks_each h4 S) ?_
  rintro _ w3 ⟨A'', c'', rfl, hv, S⟩
  refine ⟨_, rfl, hv, ((S.frontAt 1 rfl).frontAt 4 rfl).firsts [_, _], fun a fr => ?_⟩
  refine sl_end ?_
  exact ⟨rfl, A, c, A', c', A'', c'', fr.sub ⟨rfl, rfl, rfl, rfl, rfl, rfl, rfl, trivial⟩, (((((((((S.frontAt 1 rfl).frontAt 8 rfl).frontAt 8 rfl).frontAt 8 rfl).frontAt 8 rfl).frontAt 8 rfl).frontAt 6 rfl).frontAt 8 rfl).frontAt 8 rfl)⟩
 ·rintro a w hS ⟨A', c', A'', c'', fr, S⟩
  refine sl_lit (xs := [99]) oCh_ litB fr rfl rfl rfl rfl rfl ⟨rfl, rfl, trivial⟩ rfl rfl S ?_
  intro w3 A c S
  refine ⟨((S.frontAt 8 rfl).frontAt 4 rfl).firsts [_, _], fun a fr => ?_⟩
  refine sl_end ?_
  exact ⟨rfl, A, c, A', c', A'', c'', fr.sub ⟨rfl, rfl, rfl, rfl, rfl, rfl, rfl, trivial⟩, S⟩
 rintro a w hS ⟨A, c, A', c', A'', c'', fr, S⟩
 have k0 : vok (.slice A ([99] : List Int).length c) = true := vok_sl S.own.2
 have k1 : vok (.slice A' (fourL G.g).length c') = true := vok_sl (S.frontAt 1 rfl).own.2
 have k2 : vok (.slice A'' (sites allV G).length c'') = true := vok_sl (S.frontAt 2 rfl).own.2
 have hall : [Value.slice A ([99] : List Int).length c, .slice A' (fourL G.g).length c', .slice A'' (sites allV G).length c''].all vok1 = true := by
  simp only [List.all_cons, List.all_nil, Bool.and_true, Bool.and_eq_true]
  exact ⟨k0, k1, k2⟩
 obtain ⟨A0, w3, hrun, hv0, S⟩ := lit3_exec (P := Tryz.prog) Tryz.underlying124 (by kernel_rfl) fr (o := SOp.oper ⟨false, some 17, .buildSlice 124 3 #[(0, .tmp 9), (1, .tmp 14), (2, .tmp 16)], 124, none⟩) rfl rfl rfl rfl rfl rfl rfl k0 k1 k2 S
 refine sl_val fr rfl rfl rfl rfl hrun (((S.frontAt 9 rfl).frontAt 5 rfl).firsts [_, _]) hv0 fun a fr => ?_
 have e2 : ([(A, c, [99]), (A', c', fourL G.g), (A'', c'', sites allV G)] : List Rw).flatMap (·.2.2) = commitR G := by simp [commitR]
 have hsum : sumR [(A, c, [99]), (A', c', fourL G.g), (A'', c'', sites allV G)] = 5 + (sites allV G).length := by simp [sumR, fourL]; omega
 have hcl := concat_call (A := A0) (c := 3) (rs := [(A, c, [99]), (A', c', fourL G.g), (A'', c'', sites allV G)]) (fun w' S' => rd3 hall S') ⟨Nat.le_refl _, by unfold maxLen; decide⟩ (by rw [hsum]; omega) (by rw [hsum]; omega) S
 rw [e2] at hcl
 refine sl_call fr rfl rfl rfl rfl rfl enConcat hcl ?_
 rintro _ w4 ⟨A4, c4, rfl, hv4, S⟩
 refine ⟨_, rfl, hv4, ((S.frontAt 10 rfl).frontAt 6 rfl).firsts [_, _], fun a fr => ?_⟩
 have hrk := S.own.1
 have hm4 := S.own.2
 have S := (((((((((((S.frontAt 10 rfl).frontAt 10 rfl).frontAt 10 rfl).frontAt 8 rfl).frontAt 8 rfl).frontAt 8 rfl).frontAt 8 rfl).frontAt 8 rfl).frontAt 8 rfl).frontAt 10 rfl).frontAt 10 rfl)
 have hlen : (commitR G).length ≤ 1000000000 := by simp [commitR, fourL]; omega
 refine sl_call fr rfl rfl rfl rfl rfl enAdd (add_callI (A := A4) (c := c4) (l := commitR G) S hrk hm4 ⟨hb.1, hb.2, hlen⟩) ?_
 rintro _ w5 ⟨rfl, hv5, S⟩
 refine ⟨_, rfl, hv5, ((S.frontAt 10 rfl).frontAt 8 rfl).firsts [_, _], fun a fr => ?_⟩
 repeat refine sl_run oCh_ 1 rfl fr fun a fr => ?_
 refine sl_end ?_
 repeat with_reducible refine then_n ?_
 have S : Sat w0 w5 (chS b bl bm last bk :: logA bl bd (addXI D x (commitR G)) :: diskA bd (addDI D x (commitR G)) :: ckS bk bw now :: ckM bw m :: glA (bx, G) :: R) := ((((((S.frontAt 10 rfl).frontAt 10 rfl).frontAt 10 rfl).frontAt 4 rfl).frontAt 4 rfl).frontAt 10 rfl).mask [true, true, true, true, true, true, false, false, false, false, false]
 have fr := fr.sub (L' := [(0, .pointer (some ⟨b, 0, none⟩)), (1, .pointer (some ⟨bx, 0, none⟩)), (20, .bool (addEI D x (commitR G) != 0))]) ⟨rfl, rfl, rfl, trivial⟩
 cases hok : commitOk G D x with
 | false =>
  have eS : commitS G D x = 5 := by unfold commitS; rw [hok]; rfl
  have eD : commitD G D x = addDI D x (commitR G) := by unfold commitD; rw [hok]; rfl
  have eM : commitM G D x = abortG G := by unfold commitM; rw [hok]; rfl
  rw [eS, eD, eM]
  have fr := fr.bool (d := 20) rfl (show (addEI D x (commitR G) != 0) = true by unfold commitOk at hok; rw [bne, hok]; rfl)
  refine q_ rfl ?_
  refine cw_t fr rfl ?_
  refine r_ rfl ?_
  repeat refine w_ oCh_ rfl fr fun a fr => ?_
  have S := ((((((S.frontAt 2 rfl).frontAt 2 rfl).frontAt 5 rfl).frontAt 5 rfl).frontAt 5 rfl).frontAt 5 rfl)
  refine wl_call fr rfl rfl rfl rfl enAbort (abort_call h4 S) ?_
  rintro _ w6 ⟨A6, c6, rfl, hv6, S⟩
  refine ⟨_, rfl, hv6, fun a fr => ?_⟩
  repeat refine w_ oCh_ rfl fr fun a fr => ?_
  first | refine e_ ?_ | refine wpList_nil ?_
  refine wp_ret ?_
  try simp only [Exit.then, Exit.inBlock]
  exact ret1 fr rfl rfl ⟨A6, c6, rfl, hv6, (((((((S.frontAt 4 rfl).frontAt 4 rfl).frontAt 4 rfl).frontAt 6 rfl).frontAt 6 rfl).frontAt 6 rfl).frontAt 6 rfl)⟩
 | true =>
  have eS : commitS G D x = 4 := by unfold commitS; rw [hok]; rfl
  have eD : commitD G D x = (addDI D x (commitR G)).sync := by unfold commitD; rw [hok]; rfl
  have eM : commitM G D x = commitG G := by unfold commitM; rw [hok]; rfl
  rw [eS, eD, eM]
  have fr := fr.bool (d := 20) rfl (show (addEI D x (commitR G) != 0) = false by unfold commitOk at hok; rw [bne, hok]; rfl)
  refine q_ rfl ?_
  refine cw_f fr rfl ?_
  refine wp_skip ?_
  refine r_ rfl ?_
  (repeat (first | refine wl_run oCh_ 1 rfl fr fun a fr => ?_ | refine wl_ldf oCh_ (Sat.stAt S 0 rfl rfl) fr rfl rfl rfl rfl rfl rfl rfl fun a fr => ?_))
  have S := ((((((S.frontAt 5 rfl).frontAt 5 rfl).frontAt 5 rfl).frontAt 3 rfl).frontAt 5 rfl).frontAt 5 rfl)
  refine wl_call fr rfl rfl rfl rfl enForce (force_call S) ?_
  rintro _ w6 ⟨rfl, S⟩
  refine ⟨_, rfl, rfl, fun a fr => ?_⟩
  refine eq_ rfl rfl ?_
  have S := ((((((S.frontAt 1 rfl).frontAt 1 rfl).frontAt 5 rfl).frontAt 5 rfl).frontAt 5 rfl).frontAt 5 rfl)
  refine wp_region_sl [u_ 0 29, u_ 1 30, u_ 2 31, u_ 3 32, u_ 4 33, u_ 5 34, u_ 6 35, u_ 7 36, .one (8, false, some 37)]
        [m_ 29 0 24,
        c_ 30 29,
        f_ 31 77 30 3,
        l_ 32 75 31,
        m_ 33 1 83,
        c_ 34 33,
        f_ 35 88 34 0,
        l_ 36 31 35,
        .one ⟨false, some 37, (.call { callee := (.value (.func 60)), args := #[(.tmp 32), (.tmp 36)], argTypes := #[75, 31] }), 28, none⟩]
        (fun v => Sat w0 v [chS b bl bm last bk, glA (bx, G)]) rfl (by kernel_rfl) (by kernel_rfl) ?_ ?_
  ·exact ((S.frontAt 3 rfl).frontAt 1 rfl).drew.firsts [_, _]
  have S := S.drew
  have hS : Sat w0 _ [chS b bl bm last bk, glA (bx, G)] := ((S.frontAt 3 rfl).frontAt 1 rfl).firsts [_, _]
  (repeat (first | refine sl_run oCh_ 1 rfl fr fun a fr => ?_ | refine sl_ldf oCh_ (fun _ S => Sat.stAt S 0 rfl rfl) fr rfl rfl rfl rfl rfl rfl rfl rfl hS fun a fr => ?_ | refine sl_ldf oCh_ (fun _ S => Sat.stAt S 1 rfl (j := 0) rfl) fr rfl rfl rfl rfl rfl rfl rfl rfl hS fun a fr => ?_))
  have S := ((((((S.frontAt 5 rfl).frontAt 5 rfl).frontAt 5 rfl).frontAt 3 rfl).frontAt 5 rfl).frontAt 5 rfl)
  refine sl_call fr rfl rfl rfl rfl rfl enCkClear (ckclear_call hg S) ?_
  rintro _ w7 ⟨⟨v, rfl, hv⟩, S⟩
  refine ⟨_, rfl, hv, ((S.frontAt 3 rfl).frontAt 3 rfl).firsts [_, _], fun a fr => ?_⟩
  refine sl_end ?_
  repeat with_reducible refine then_n ?_
  have S := ((((((S.frontAt 5 rfl).frontAt 5 rfl).frontAt 4 rfl).frontAt 4 rfl).frontAt 4 rfl).frontAt 5 rfl)
  refine r_ rfl ?_
  repeat refine w_ oCh_ rfl fr fun a fr => ?_
  refine wl_stfA oCh_ 1 fr rfl rfl rfl rfl rfl rfl rfl rfl rfl S (by simp [glV]) ?_
  intro w8 S
  repeat refine w_ oCh_ rfl fr fun a fr => ?_
  refine wl_stfA oCh_ 2 fr rfl rfl rfl rfl rfl rfl rfl rfl rfl S (by simp [glV]) ?_
  intro w9 S
  have S : Sat w0 w9 (glA (bx, commitG G) :: ckS bk bw now :: ckM bw (delM m G.g) :: chS b bl bm last bk :: logA bl bd (addXI D x (commitR G)) :: diskA bd (addDI D x (commitR G)).sync :: R) := S
  refine er_ rfl rfl ?_
  repeat refine w_ oCh_ rfl fr fun a fr => ?_
  refine wl_call fr rfl rfl rfl rfl enSites (sites_call enEach asks_each (G := commitG G) h4 S) ?_
  rintro _ w10 ⟨A4, c4, rfl, hv4, S⟩
  refine ⟨_, rfl, hv4, fun a fr => ?_⟩
  have hsl2 : (sites allV (commitG G)).length ≤ 4 := hsl
  refine wl_call fr rfl rfl rfl rfl enTo (tell_call (s := 4) rfl (by omega) S) ?_
  rintro _ w11 ⟨A5, c5, rfl, hv5, S⟩
  refine ⟨_, rfl, hv5, fun a fr => ?_⟩
  repeat refine w_ oCh_ rfl fr fun a fr => ?_
  first | refine e_ ?_ | refine wpList_nil ?_
  refine wp_ret ?_
  have e1 : (toM 4 (commitG G).g (sites allV (commitG G))).length = (sites allV G).length := by rw [toM, List.length_map]; rfl
  rw [e1] at hv5 fr
  refine ret1 fr rfl rfl ⟨A5, c5, rfl, hv5, ?_⟩
  exact (((((((S.frontAt 1 rfl).frontAt 3 rfl).frontAt 3 rfl).frontAt 6 rfl).frontAt 6 rfl).frontAt 6 rfl).frontAt 6 rfl)
end
def mgV (s f t g : Int) (Ao : Option Addr) (no co : Nat) (Ar : Option Addr) (nr cr : Nat) : List Value := [.int .u8 s, .int .u8 f, .int .u8 t, .int .u32 g, .slice Ao no co, .slice Ar nr cr]
structure MgW (s f t g : Int) (no co nr cr : Nat) : Prop where
 s : (Lit.int .u8 s).wf = true
 f : (Lit.int .u8 f).wf = true
 t : (Lit.int .u8 t).wf = true
 g : (Lit.int .u32 g).wf = true
 o : no ≤ co ∧ co ≤ maxLen
 r : nr ≤ cr ∧ cr ≤ maxLen
theorem MgW.ok {s f t g : Int} {no co nr cr : Nat} (h : MgW s f t g no co nr cr) (Ao Ar : Option Addr) : (mgV s f t g Ao no co Ar nr cr).all vok1 = true := by
 simp only [mgV, List.all_cons, List.all_nil, Bool.and_true, Bool.and_eq_true]
 exact ⟨h.s, h.f, h.t, h.g, vok_sl (A := Ao) h.o, vok_sl (A := Ar) h.r⟩
theorem MgW.okv {s f t g : Int} {no co nr cr : Nat} (h : MgW s f t g no co nr cr) (Ao Ar : Option Addr) : (mgV s f t g Ao no co Ar nr cr).all vok = true := by
 simp only [mgV, List.all_cons, List.all_nil, Bool.and_true, Bool.and_eq_true]
 exact ⟨h.s, h.f, h.t, h.g, vok_sl (A := Ao) h.o, vok_sl (A := Ar) h.r⟩
section
variable {α : Type}
def vVote (l : α) (v : Vt α) : Vt α := { v with yes := true, l := l }
def voteG (G : Gl α) (k : Nat) (l : α) : Gl α := { G with v := updV (vVote l) k G.v }
def yesAt (G : Gl α) (k : Nat) : Bool := match G.v[k]? with | some v => v.yes | none => false
structure Cs (α : Type) where
 G : Gl α
 m : List (Int × Int)
 x : Int
 D : Dk
def doingC (C : Cs α) (s : Int) (k : Nat) (l : α) : Cs α :=
 if s == 3 then { C with G := abortG C.G, m := delM C.m C.G.g }
 else if s != 2 || yesAt C.G k then C
 else if decide (((sites notYes (voteG C.G k l)).length : Int) > 0) then { C with G := voteG C.G k l }
 else { G := commitM (voteG C.G k l) C.D C.x, m := delM C.m C.G.g, x := addXI C.D C.x (commitR (voteG C.G k l)), D := commitD (voteG C.G k l) C.D C.x }
def doingO (C : Cs α) (s : Int) (k : Nat) (l : α) : List PM :=
 if s == 3 then toM 5 C.G.g (sites allV C.G)
 else if s != 2 || yesAt C.G k then []
 else if decide (((sites notYes (voteG C.G k l)).length : Int) > 0) then []
 else toM (commitS (voteG C.G k l) C.D C.x) C.G.g (sites allV (voteG C.G k l))
end
section
variable {w w0 : World} {R M : List Asn} {b bl bm bk bw bx bd : Nat} {last now x : Int} {m : List (Int × Int)} {G : Gl RawV} {D : Dk}
theorem upd_sat {α : Type} {f : Vt α → Asn} {g : Vt α → Vt α} {A : Asn} : ∀ (l : List (Vt α)) (k : Nat) (X : List Asn), (∀ h : k < l.length, f (g l[k]) = A) → k < l.length → Sat w0 w (X ++ A :: (l.map f ++ R)) → Sat w0 w (X ++ ((updV g k l).map f ++ R)) := by
 intro l
 induction l with
 | nil => intro k X _ hk; simp at hk
 | cons v r ih =>
  intro k X h hk S
  cases k with
  | zero =>
   have h0 : f (g v) = A := h (by simp)
   have S : Sat w0 w (X ++ A :: f v :: (r.map f ++ R)) := S
   have S := S.perm ((List.Perm.append_left X (List.Perm.swap _ _ _)).trans (List.perm_middle (l₁ := X)))
   show Sat w0 w (X ++ f (g v) :: (r.map f ++ R))
   rw [h0]
   exact S.tl
  | succ k =>
   have S : Sat w0 w (X ++ A :: f v :: (r.map f ++ R)) := S
   have S : Sat w0 w ((X ++ [f v]) ++ A :: (r.map f ++ R)) := by
    rw [List.append_assoc]
    exact S.perm (List.Perm.append_left X (List.Perm.swap _ _ _))
   have := ih k (X ++ [f v]) (fun hh => h (by simpa using hh)) (by simpa using hk) S
   rw [List.append_assoc] at this
   exact this
theorem updV_comp {α : Type} (f g : Vt α → Vt α) : ∀ (k : Nat) (l : List (Vt α)), updV g k (updV f k l) = updV (fun v => g (f v)) k l := by
 intro k l
 induction l generalizing k with
 | nil => cases k <;> rfl
 | cons v r ih =>
  cases k with
  | zero => rfl
  | succ k => show v :: updV g k (updV f k r) = v :: _; rw [ih k]
theorem noPm (S : Sat w0 w R) : Sat w0 w (pmA none 0 [] :: R) := rv_nil 42 6 S
theorem toM_len (s g : Int) (l : List Int) : (toM s g l).length = l.length := List.length_map _
def chL (b bl bm : Nat) (last : Int) (bk bw : Nat) (now : Int) (bd bx : Nat) (C : Cs RawV) (R : List Asn) : List Asn :=
 chS b bl bm last bk :: logA bl bd C.x :: diskA bd C.D :: ckS bk bw now :: ckM bw C.m :: glA (bx, C.G) :: (glR (bx, C.G) ++ R)
theorem doing_call {s f t g : Int} {Ao Ar : Option Addr} {no co cr : Nat} {rs : List RawR} {k : Nat} (C : Cs RawV) (hk : k < 4) (hf : f = k) (hmg : MgW s f t g no co rs.length cr) (hR : ∀ w', Sat w0 w' R → RdRaw w' Ar rs) (hW : RawW rs) (hrb : rs.length * 24 ≤ 140737488355328) (hrr : ∀ r ∈ rs, r.2.2.length * 24 ≤ 140737488355328)
  (h4 : C.G.v.length = 4) (hb : (0 ≤ C.x ∧ C.x ≤ 4096) ∧ C.D.waits.length ≤ 100000000) (S : Sat w0 w (chL b bl bm last bk bw now bd bx C R)) :
  Calls Tryz.prog 41 #[.pointer (some ⟨b, 0, none⟩), .pointer (some ⟨bx, 0, none⟩), .agg (mgV s f t g Ao no co Ar rs.length cr).toArray] w fun e w' => ∃ (A' : Option Addr) (c' : Nat) (A2 : Option Addr) (c2 : Nat), e = .returned (.slice A' (doingO C s k (A2, c2, rawL rs)).length (doingO C s k (A2, c2, rawL rs)).length) ∧ vok (.slice A' (doingO C s k (A2, c2, rawL rs)).length (doingO C s k (A2, c2, rawL rs)).length) = true ∧ Sat w0 w' (pmA A' c' (doingO C s k (A2, c2, rawL rs)) :: chL b bl bm last bk bw now bd bx (doingC C s k (A2, c2, rawL rs)) R) := by
 obtain ⟨G, m, x, D⟩ := C
 have h4 : G.v.length = 4 := h4
 have hb : (0 ≤ x ∧ x ≤ 4096) ∧ D.waits.length ≤ 100000000 := hb
 have S : Sat w0 w (chS b bl bm last bk :: logA bl bd x :: diskA bd D :: ckS bk bw now :: ckM bw m :: glA (bx, G) :: (glR (bx, G) ++ R)) := S
 have hkv : k < G.v.length := by omega
 have hyk : yesAt G k = G.v[k].yes := by unfold yesAt; rw [List.getElem?_eq_getElem hkv]
 refine calls_start (N := 47) [.pointer (some ⟨b, 0, none⟩), .pointer (some ⟨bx, 0, none⟩), .agg (mgV s f t g Ao no co Ar rs.length cr).toArray] Tryz.func41 rfl rfl rfl (vok_c rfl (vok_c rfl (vok_c (hmg.ok Ao Ar) rfl))) fun a fr => ?_
 refine r_ rfl ?_
 refine wl_boxs fr rfl rfl rfl rfl rfl (hmg.okv Ao Ar) S ?_
 intro w1 bg S a fr
 repeat refine w_ oCh_ rfl fr fun a fr => ?_
 refine eq_ rfl rfl ?_
 refine wp_region_sl [u_ 0 8, u_ 1 9, u_ 2 10, u_ 3 11, u_ 4 12, u_ 5 13, u_ 6 7]
        [m_ 8 1 83,
        f_ 9 42 5 1,
        l_ 10 5 9,
        c_ 11 8,
        f_ 12 88 11 5,
        i_ 13 86 12 10,
        .one ⟨true, some 7, (.assign (.tmp 13)), 154, none⟩]
        (fun v => Sat w0 v [stA 42 bg (mgV s f t g Ao no co Ar rs.length cr)]) rfl (by kernel_rfl) (by kernel_rfl) ?_ ?_
 ·exact S.drew.firsts [_]
 have S := S.drew
 have hS : Sat w0 _ [stA 42 bg (mgV s f t g Ao no co Ar rs.length cr)] := S.firsts [_]
 (repeat (first | refine sl_run oCh_ 1 rfl fr fun a fr => ?_ | refine sl_ldf oCh_ (fun _ S => Sat.stAt S 0 rfl rfl) fr rfl rfl rfl rfl rfl rfl rfl rfl (by assumption) fun a fr => ?_))
 refine sl_ixa oCh_ fr rfl rfl rfl rfl rfl rfl rfl rfl rfl ⟨by subst hf; omega, by subst hf; omega⟩ fun a fr => ?_
 repeat refine sl_run oCh_ 1 rfl fr fun a fr => ?_
 refine sl_end ?_
 repeat with_reducible refine then_n ?_
 subst hf
 have fr := fr.sub (L' := [(0, .pointer (some ⟨b, 0, none⟩)), (1, .pointer (some ⟨bx, 0, none⟩)), (5, .pointer (some ⟨bg, 0, none⟩)), (7, .pointer (some (((⟨bx, 0, none⟩ : Addr).add 5).add (k * 4))))]) ⟨rfl, rfl, rfl, rfl, trivial⟩
 refine q_ rfl ?_
 refine wp_block ?_
 refine r_ rfl ?_
 (repeat (first | refine wl_run oCh_ 1 rfl fr fun a fr => ?_ | refine wl_ldf oCh_ (Sat.stAt S 0 rfl rfl) fr rfl rfl rfl rfl rfl rfl rfl fun a fr => ?_))
 first | refine e_ ?_ | refine wpList_nil ?_
 refine bs 14 fr rfl (fun h1 fr => ?_) (fun h1 fr => ?_)
 ·have eC : ∀ l, doingC ⟨G, m, x, D⟩ s k l = ⟨abortG G, delM m G.g, x, D⟩ := fun l => by unfold doingC; rw [show (s == 3) = true from h1]; rfl
  have eO : ∀ l, doingO ⟨G, m, x, D⟩ s k l = toM 5 G.g (sites allV G) := fun l => by unfold doingO; rw [show (s == 3) = true from h1]; rfl
  refine q_ rfl ?_
  refine cw_t fr rfl ?_
  refine r_ rfl ?_
  repeat refine w_ oCh_ rfl fr fun a fr => ?_
  have S := ((((((S.frontAt 3 rfl).frontAt 3 rfl).frontAt 6 rfl).frontAt 6 rfl).frontAt 6 rfl).frontAt 6 rfl)
  refine wl_call fr rfl rfl rfl rfl enAbort (abort_call h4 S) ?_
  rintro _ w6 ⟨A6, c6, rfl, hv6, S⟩
  refine ⟨_, rfl, hv6, fun a fr => ?_⟩
  repeat refine w_ oCh_ rfl fr fun a fr => ?_
  first | refine e_ ?_ | refine wpList_nil ?_
  refine wp_ret ?_
  try simp only [Exit.then, Exit.inBlock]
  refine ret1 fr rfl rfl ⟨A6, c6, none, 0, ?_, ?_, ?_⟩
  ·rw [eO, toM_len]
  ·rw [eO, toM_len]; exact hv6
  ·rw [eC, eO]
   exact (((((((S.frontAt 4 rfl).frontAt 4 rfl).frontAt 4 rfl).frontAt 6 rfl).frontAt 6 rfl).frontAt 6 rfl).frontAt 6 rfl).mask [true, true, true, true, true, true, true, false]
 have hs3 : (s == 3) = false := h1
 refine q_ rfl ?_
 refine cw_f fr rfl ?_
 have nope : ∀ {a : Act} {w6 : World} {L : Env}, FrD [] 47 a L → L.lookup 6 = some (.slice none 0 0) → (s != 2 || yesAt G k) = true → Sat w0 w6 (stA 42 bg (mgV s k t g Ao no co Ar rs.length cr) :: chS b bl bm last bk :: logA bl bd x :: diskA bd D :: ckS bk bw now :: ckM bw m :: glA (bx, G) :: (glR (bx, G) ++ R)) → bodyPost Tryz.prog Tryz.f41 (fun e w' => ∃ (A' : Option Addr) (c' : Nat) (A2 : Option Addr) (c2 : Nat), e = .returned (.slice A' (doingO ⟨G, m, x, D⟩ s k (A2, c2, rawL rs)).length (doingO ⟨G, m, x, D⟩ s k (A2, c2, rawL rs)).length) ∧ vok (.slice A' (doingO ⟨G, m, x, D⟩ s k (A2, c2, rawL rs)).length (doingO ⟨G, m, x, D⟩ s k (A2, c2, rawL rs)).length) = true ∧ Sat w0 w' (pmA A' c' (doingO ⟨G, m, x, D⟩ s k (A2, c2, rawL rs)) :: chL b bl bm last bk bw now bd bx (doingC ⟨G, m, x, D⟩ s k (A2, c2, rawL rs)) R)) .ret a w6 := by
  intro a w6 L fr hl hn S
  have eC : ∀ l, doingC ⟨G, m, x, D⟩ s k l = ⟨G, m, x, D⟩ := fun l => by unfold doingC; rw [hs3]; simp only [hn]; rfl
  have eO : ∀ l, doingO ⟨G, m, x, D⟩ s k l = [] := fun l => by unfold doingO; rw [hs3]; simp only [hn]; rfl
  refine ret1 fr rfl hl ⟨none, 0, none, 0, ?_, ?_, ?_⟩
  ·rw [eO]; rfl
  ·rw [eO]; rfl
  ·rw [eC, eO]
   exact noPm S.tl
 refine r_ rfl ?_
 (repeat (first | refine wl_run oCh_ 1 rfl fr fun a fr => ?_ | refine wl_ldf oCh_ (Sat.stAt S 0 rfl rfl) fr rfl rfl rfl rfl rfl rfl rfl fun a fr => ?_))
 refine bs 25 fr rfl (fun h2 fr => ?_) (fun h2 fr => ?_)
 ·(repeat (first | refine wl_run oCh_ 1 rfl fr fun a fr => ?_ | refine wl_ldf oCh_ (Sat.stAt S 0 rfl rfl) fr rfl rfl rfl rfl rfl rfl rfl fun a fr => ?_))
  refine eq_ rfl rfl ?_
  refine cw_t fr rfl ?_
  refine r_ rfl ?_
  repeat refine w_ oCh_ rfl fr fun a fr => ?_
  first | refine e_ ?_ | refine wpList_nil ?_
  refine wp_ret ?_
  try simp only [Exit.then, Exit.inBlock]
  exact nope fr rfl (by rw [show (s != 2) = true from h2]; rfl) S
 repeat refine w_ oCh_ rfl fr fun a fr => ?_
 refine wl_ldf oCh_ (v := .bool G.v[k].yes) ⟨by rw [vt_addr]; exact (Sat.stAt S 6 rfl (gl_at (j := 1) hkv rfl)).1, rfl⟩ fr rfl rfl rfl rfl rfl rfl rfl fun a fr => ?_
 repeat refine w_ oCh_ rfl fr fun a fr => ?_
 first | refine e_ ?_ | refine wpList_nil ?_
 refine bs 21 fr rfl (fun h3 fr => ?_) (fun h3 fr => ?_)
 ·refine q_ rfl ?_
  refine cw_t fr rfl ?_
  refine r_ rfl ?_
  repeat refine w_ oCh_ rfl fr fun a fr => ?_
  first | refine e_ ?_ | refine wpList_nil ?_
  refine wp_ret ?_
  try simp only [Exit.then, Exit.inBlock]
  exact nope fr rfl (by rw [hyk, h3]; simp) S
 clear nope
 have hn : (s != 2 || yesAt G k) = false := by rw [hyk, h3]; rw [show (s != 2) = false from h2]; rfl
 refine q_ rfl ?_
 refine cw_f fr rfl ?_
 refine wp_skip ?_
 refine r_ rfl ?_
 (repeat (first | refine wl_run oCh_ 1 rfl fr fun a fr => ?_ | refine wl_ldf oCh_ (Sat.stAt S 0 rfl rfl) fr rfl rfl rfl rfl rfl rfl rfl fun a fr => ?_))
 refine wl_call fr rfl rfl rfl rfl enTwinR (twin_call_r (fun w' S' => hR w' (Sat.lastsT (_ :: _ :: _ :: _ :: _ :: _ :: _ :: glR (bx, G)) S')) hW hmg.r hrb hrr S) ?_
 rintro _ w6 ⟨A2, c2, rfl, hv2, S⟩
 refine ⟨_, rfl, hv2, fun a fr => ?_⟩
 have hrl : (rawL rs).length = rs.length := by simp [rawL]
 obtain ⟨G1, hG1⟩ : ∃ G1, G1 = voteG G k (A2, c2, rawL rs) := ⟨_, rfl⟩
 have h41 : G1.v.length = 4 := by rw [hG1]; show (updV _ k G.v).length = 4; rw [updV_len]; exact h4
 have S := ((((((((S.frontAt 6 rfl).frontAt 6 rfl).frontAt 6 rfl).frontAt 6 rfl).frontAt 6 rfl).frontAt 6 rfl).frontAt 6 rfl).frontAt 7 rfl)
 repeat refine w_ oCh_ rfl fr fun a fr => ?_
 refine wl_stfA oCh_ (5 + (k * 4 + 1)) fr rfl rfl rfl rfl (vt_addr k 1) rfl rfl rfl rfl S (by
  show 5 + (k * 4 + 1) < (G.v.flatMap vtV).length + 1 + 1 + 1 + 1 + 1
  rw [el_len vtV_len, h4]; omega) ?_
 intro w7 S
 rw [gl_set (f := fun v => { v with yes := true }) (by decide) (fun _ => rfl)] at S
 repeat refine w_ oCh_ rfl fr fun a fr => ?_
 have S : Sat w0 w7 (stA 88 bx (glV { G with v := updV (fun v => { v with yes := true }) k G.v }) :: resA A2 c2 (rawL rs) :: stA 42 bg (mgV s k t g Ao no co Ar rs.length cr) :: chS b bl bm last bk :: logA bl bd x :: diskA bd D :: ckS bk bw now :: ckM bw m :: (glR (bx, G) ++ R)) := S
 refine wl_stfA oCh_ (5 + (k * 4 + 3)) fr rfl rfl rfl rfl (vt_addr k 3) rfl rfl rfl rfl S (by
  show 5 + (k * 4 + 3) < ((updV _ k G.v).flatMap vtV).length + 1 + 1 + 1 + 1 + 1
  rw [el_len vtV_len, updV_len, h4]; omega) ?_
 intro w8 S
 rw [gl_set (f := fun v => { v with l := (A2, c2, rawL rs) }) (by decide) (fun _ => by simp only [vtV, List.set, hrl])] at S
 have eG : ({ ({ G with v := updV (fun v => { v with yes := true }) k G.v } : Gl RawV) with v := updV (fun v => { v with l := (A2, c2, rawL rs) }) k (updV (fun v => { v with yes := true }) k G.v) } : Gl RawV) = G1 := by
  rw [hG1, updV_comp]; rfl
 have S : Sat w0 w8 (stA 88 bx (glV ({ ({ G with v := updV (fun v => { v with yes := true }) k G.v } : Gl RawV) with v := updV (fun v => { v with l := (A2, c2, rawL rs) }) k (updV (fun v => { v with yes := true }) k G.v) } : Gl RawV)) :: resA A2 c2 (rawL rs) :: stA 42 bg (mgV s k t g Ao no co Ar rs.length cr) :: chS b bl bm last bk :: logA bl bd x :: diskA bd D :: ckS bk bw now :: ckM bw m :: (glR (bx, G) ++ R)) := S
 rw [eG] at S
 have S : Sat w0 w8 ([glA (bx, G1), chS b bl bm last bk, logA bl bd x, diskA bd D, ckS bk bw now, ckM bw m] ++ resA A2 c2 (rawL rs) :: (glR (bx, G) ++ R)) := (((((((((S.frontAt 1 rfl).frontAt 7 rfl).frontAt 7 rfl).frontAt 7 rfl).frontAt 7 rfl).frontAt 7 rfl).frontAt 6 rfl).frontAt 7 rfl)).tl
 have S := upd_sat (g := vVote (A2, c2, rawL rs)) G.v k _ (fun _ => rfl) hkv S
 have S : Sat w0 w8 (glA (bx, G1) :: chS b bl bm last bk :: logA bl bd x :: diskA bd D :: ckS bk bw now :: ckM bw m :: (glR (bx, G1) ++ R)) := by rw [hG1]; rw [hG1] at S; exact S
 refine er_ rfl rfl ?_
 repeat refine w_ oCh_ rfl fr fun a fr => ?_
 refine wl_call fr rfl rfl rfl rfl enSites (sites_call enDoing1 asks_doing h41 S) ?_
 rintro _ w9 ⟨A9, c9, rfl, hv9, S⟩
 refine ⟨_, rfl, hv9, fun a fr => ?_⟩
 have S := S.tl
 repeat refine w_ oCh_ rfl fr fun a fr => ?_
 first | refine e_ ?_ | refine wpList_nil ?_
 refine bs 43 fr rfl (fun h5 fr => ?_) (fun h5 fr => ?_)
 ·have eC : doingC ⟨G, m, x, D⟩ s k (A2, c2, rawL rs) = ⟨G1, m, x, D⟩ := by unfold doingC; rw [hs3]; simp only [hn, ← hG1, h5]; rfl
  have eO : doingO ⟨G, m, x, D⟩ s k (A2, c2, rawL rs) = [] := by unfold doingO; rw [hs3]; simp only [hn, ← hG1, h5]; rfl
  refine q_ rfl ?_
  refine cw_t fr rfl ?_
  refine r_ rfl ?_
  repeat refine w_ oCh_ rfl fr fun a fr => ?_
  first | refine e_ ?_ | refine wpList_nil ?_
  refine wp_ret ?_
  try simp only [Exit.then, Exit.inBlock]
  refine ret1 fr rfl rfl ⟨none, 0, A2, c2, ?_, ?_, ?_⟩
  ·rw [eO]; rfl
  ·rw [eO]; rfl
  ·rw [eC, eO]
   exact noPm (((((S.frontAt 5 rfl).frontAt 5 rfl).frontAt 5 rfl).frontAt 5 rfl).frontAt 5 rfl)
 ·have eC : doingC ⟨G, m, x, D⟩ s k (A2, c2, rawL rs) = { G := commitM G1 D x, m := delM m G.g, x := addXI D x (commitR G1), D := commitD G1 D x } := by unfold doingC; rw [hs3]; simp only [hn, ← hG1, h5]; rfl
  have eO : doingO ⟨G, m, x, D⟩ s k (A2, c2, rawL rs) = toM (commitS G1 D x) G.g (sites allV G1) := by unfold doingO; rw [hs3]; simp only [hn, ← hG1, h5]; rfl
  have eg : G1.g = G.g := by rw [hG1]; rfl
  refine q_ rfl ?_
  refine cw_f fr rfl ?_
  refine wp_skip ?_
  refine r_ rfl ?_
  repeat refine w_ oCh_ rfl fr fun a fr => ?_
  have S := (((((S.frontAt 5 rfl).frontAt 5 rfl).frontAt 5 rfl).frontAt 5 rfl).frontAt 5 rfl)
  refine wl_call fr rfl rfl rfl rfl enCommit (commit_call h41 hb S) ?_
  rintro _ w10 ⟨A6, c6, rfl, hv6, S⟩
  refine ⟨_, rfl, hv6, fun a fr => ?_⟩
  repeat refine w_ oCh_ rfl fr fun a fr => ?_
  first | refine e_ ?_ | refine wpList_nil ?_
  refine wp_ret ?_
  refine ret1 fr rfl rfl ⟨A6, c6, A2, c2, ?_, ?_, ?_⟩
  ·rw [eO, toM_len]
  ·rw [eO, toM_len]; exact hv6
  ·rw [eC, eO]
   rw [eg] at S
   have eR : glR (bx, G1) = glR (bx, commitM G1 D x) := by unfold commitM; split <;> rfl
   rw [eR] at S
   exact S
end
section
variable {α : Type}
def idxG : List (Gl α) → Int → Option Nat
 | [], _ => none
 | G :: r, g => if G.g = g then some 0 else (idxG r g).map (· + 1)
theorem idxG_some : ∀ {l : List (Gl α)} {g : Int} {j : Nat}, idxG l g = some j → ∃ h : j < l.length, l[j].g = g := by
 intro l
 induction l with
 | nil => intro g j h; cases h
 | cons G r ih =>
  intro g j h
  unfold idxG at h
  split at h
  ·rename_i hg
   injection h with h
   subst h
   exact ⟨by simp, hg⟩
  ·obtain ⟨i, h1, rfl⟩ := Option.map_eq_some_iff.1 h
   obtain ⟨h2, h3⟩ := ih h1
   exact ⟨by simpa using h2, h3⟩
theorem idxG_none : ∀ {l : List (Gl α)} {g : Int}, idxG l g = none → ∀ G ∈ l, G.g ≠ g := by
 intro l
 induction l with
 | nil => intro g _ G hG; cases hG
 | cons G r ih =>
  intro g h H hH
  unfold idxG at h
  split at h
  ·cases h
  ·rename_i hg
   rcases List.mem_cons.1 hH with rfl | hH
   ·exact hg
   ·exact ih (by simpa using h) H hH
theorem idxG_map {β : Type} {f : Gl α → Gl β} (hf : ∀ G, (f G).g = G.g) : ∀ (l : List (Gl α)) (g : Int), idxG (l.map f) g = idxG l g := by
 intro l g
 induction l with
 | nil => rfl
 | cons G r ih => rw [List.map_cons, idxG, idxG, hf, ih]
end
def vt0 (v : Vt RawV) : Vt RsT := { part := v.part, yes := v.yes, done := v.done, l := v.l.2.2 }
def gl0 (G : Gl RawV) : Gl RsT := { g := G.g, ph := G.ph, com := G.com, kn := G.kn, told := G.told, v := G.v.map vt0 }
abbrev Gs := List (Nat × Gl RawV)
def keysG (gs : Gs) : List (Int × Option Nat) := gs.map fun p => (p.2.g, some p.1)
def gsT (gs : Gs) : List Asn := gs.flatMap fun p => glA p :: glR p
abbrev glM (bm : Nat) (gs : Gs) : Asn := mapA .u32 ptO bm (keysG gs)
theorem lkG_none : ∀ {gs : Gs} {g : Int}, idxG (gs.map (·.2)) g = none → lkM (keysG gs) g = none := by
 intro gs
 induction gs with
 | nil => intro g _; rfl
 | cons p r ih =>
  intro g h
  rw [List.map_cons, idxG] at h
  split at h
  ·cases h
  ·rename_i hg
   show lkM ((p.2.g, some p.1) :: keysG r) g = none
   rw [lkM_cons, if_neg hg]
   exact ih (by simpa using h)
theorem lkG_at : ∀ {gs : Gs} {g : Int} {j : Nat}, idxG (gs.map (·.2)) g = some j → ∃ h : j < gs.length, lkM (keysG gs) g = some (some gs[j].1) ∧ gs[j].2.g = g := by
 intro gs
 induction gs with
 | nil => intro g j h; cases h
 | cons p r ih =>
  intro g j h
  rw [List.map_cons, idxG] at h
  show ∃ h : j < (p :: r).length, lkM ((p.2.g, some p.1) :: keysG r) g = some (some (p :: r)[j].1) ∧ (p :: r)[j].2.g = g
  rw [lkM_cons]
  split at h
  ·rename_i hg
   injection h with h
   subst h
   rw [if_pos hg]
   exact ⟨by simp, rfl, hg⟩
  ·rename_i hg
   obtain ⟨i, h1, rfl⟩ := Option.map_eq_some_iff.1 h
   obtain ⟨h2, h3, h4⟩ := ih h1
   rw [if_neg hg]
   exact ⟨by simpa using h2, h3, h4⟩
theorem perm_takeT {α : Type} (T : List α) {j : Nat} (hj : j < T.length) : T.Perm (T[j] :: T.eraseIdx j) := by
 obtain ⟨e1, e2, -⟩ := erase_parts T hj T[j]
 rw [e2]
 generalize hx : T[j] = x at *
 generalize T.take j = T1 at *
 generalize T.drop (j + 1) = T2 at *
 rw [e1]
 exact List.perm_middle
theorem perm_putT {α : Type} (T : List α) {j : Nat} (hj : j < T.length) (r : α) : (r :: T.eraseIdx j).Perm (T.set j r) := by
 obtain ⟨-, e2, e3⟩ := erase_parts T hj r
 rw [e2, e3]
 exact List.perm_middle.symm
section
variable {w w0 : World} {R M : List Asn} {b bl bm bk bw bx bd : Nat} {last now x : Int} {m : List (Int × Int)} {gs : Gs} {D : Dk}
def chW (b bl bm : Nat) (last : Int) (bk bw : Nat) (now : Int) (bd : Nat) (gs : Gs) (m : List (Int × Int)) (x : Int) (D : Dk) (R : List Asn) : List Asn :=
 chS b bl bm last bk :: logA bl bd x :: diskA bd D :: ckS bk bw now :: ckM bw m :: glM bm gs :: (gsT gs ++ R)
theorem gs_take {j : Nat} (hj : j < gs.length) : (gsT gs).Perm (glA gs[j] :: (glR gs[j] ++ gsT (gs.eraseIdx j))) :=
 (perm_takeT gs hj).flatMap_right _
theorem gs_put {j : Nat} (hj : j < gs.length) (p : Nat × Gl RawV) : (glA p :: (glR p ++ gsT (gs.eraseIdx j))).Perm (gsT (gs.set j p)) :=
 (perm_putT gs hj p).flatMap_right (fun p => glA p :: glR p)
theorem keys_set {j : Nat} (hj : j < gs.length) {p : Nat × Gl RawV} (h1 : p.1 = gs[j].1) (h2 : p.2.g = gs[j].2.g) : keysG (gs.set j p) = keysG gs := by
 unfold keysG
 rw [List.map_set]
 apply List.ext_getElem
 ·simp
 ·intro i q1 q2
  rw [List.getElem_set]
  split
  ·rename_i hij
   subst hij
   simp [h1, h2]
  ·rfl
theorem Sat.focus {j : Nat} (hj : j < gs.length) (S : Sat w0 w (chW b bl bm last bk bw now bd gs m x D R)) : Sat w0 w (chL b bl bm last bk bw now bd gs[j].1 ⟨gs[j].2, m, x, D⟩ (glM bm gs :: (gsT (gs.eraseIdx j) ++ R))) := by
 have S : Sat w0 w ([chS b bl bm last bk, logA bl bd x, diskA bd D, ckS bk bw now, ckM bw m] ++ (glM bm gs :: (gsT gs ++ R))) := S
 have h2 : (glM bm gs :: (gsT gs ++ R)).Perm (glA gs[j] :: (glR gs[j] ++ (glM bm gs :: (gsT (gs.eraseIdx j) ++ R)))) := by
  refine (List.Perm.cons _ (List.Perm.append_right R (gs_take hj))).trans ?_
  have h := (List.perm_middle (l₁ := glA gs[j] :: glR gs[j]) (a := glM bm gs) (l₂ := gsT (gs.eraseIdx j) ++ R)).symm
  rw [← List.append_assoc] at h
  exact h
 exact S.perm (List.Perm.append_left _ h2)
theorem unfocus_perm {j : Nat} (hj : j < gs.length) {C : Cs RawV} (hg : C.G.g = gs[j].2.g) : (chL b bl bm last bk bw now bd gs[j].1 C (glM bm gs :: (gsT (gs.eraseIdx j) ++ R))).Perm (chW b bl bm last bk bw now bd (gs.set j (gs[j].1, C.G)) C.m C.x C.D R) := by
 have h2 : (glA (gs[j].1, C.G) :: (glR (gs[j].1, C.G) ++ (glM bm gs :: (gsT (gs.eraseIdx j) ++ R)))).Perm (glM bm gs :: (gsT (gs.set j (gs[j].1, C.G)) ++ R)) := by
  refine List.Perm.trans ?_ (List.Perm.cons _ (List.Perm.append_right R (gs_put hj (gs[j].1, C.G))))
  have h := (List.perm_middle (l₁ := glA (gs[j].1, C.G) :: glR (gs[j].1, C.G)) (a := glM bm gs) (l₂ := gsT (gs.eraseIdx j) ++ R))
  rw [← List.append_assoc] at h
  exact h
 have h3 := List.Perm.append_left [chS b bl bm last bk, logA bl bd C.x, diskA bd C.D, ckS bk bw now, ckM bw C.m] h2
 unfold chW
 rw [show glM bm (gs.set j (gs[j].1, C.G)) = glM bm gs by unfold glM; rw [keys_set (p := (gs[j].1, C.G)) hj rfl hg]]
 exact h3
theorem Sat.unfocus {j : Nat} (hj : j < gs.length) {C : Cs RawV} (hg : C.G.g = gs[j].2.g) (S : Sat w0 w (chL b bl bm last bk bw now bd gs[j].1 C (glM bm gs :: (gsT (gs.eraseIdx j) ++ R)))) : Sat w0 w (chW b bl bm last bk bw now bd (gs.set j (gs[j].1, C.G)) C.m C.x C.D R) := S.perm (unfocus_perm hj hg)
def phaseG {α : Type} (gs : List (Gl α)) (g : Int) : Int := match (idxG gs g).bind fun j => gs[j]? with | none => 0 | some G => G.ph
theorem enPhase : Enters Tryz.prog 13 := fun _ _ => by kernel_rfl
theorem enTold : Enters Tryz.prog 14 := fun _ _ => by kernel_rfl
theorem phase_call {g : Int} (hg : (Lit.int .u32 g).wf = true) (S : Sat w0 w (chW b bl bm last bk bw now bd gs m x D R)) :
  Calls Tryz.prog 13 #[.pointer (some ⟨b, 0, none⟩), .int .u32 g] w fun e w' => e = .returned (.int .u8 (phaseG (gs.map (·.2)) g)) ∧ vok (.int .u8 (phaseG (gs.map (·.2)) g)) = true ∧ Sat w0 w' (chW b bl bm last bk bw now bd gs m x D R) := by
 refine calls_start (N := 26) [.pointer (some ⟨b, 0, none⟩), .int .u32 g] Tryz.func13 rfl rfl rfl (vok_c rfl (vok_c hg rfl)) fun a fr => ?_
 have S : Sat w0 w (chS b bl bm last bk :: logA bl bd x :: diskA bd D :: ckS bk bw now :: ckM bw m :: glM bm gs :: (gsT gs ++ R)) := S
 refine r_ rfl ?_
 repeat refine w_ oCh_ rfl fr fun a fr => ?_
 refine er_ rfl rfl ?_
 repeat refine w_ oCh_ rfl fr fun a fr => ?_
 refine wl_call fr rfl rfl rfl rfl enChThere (chthere_call S) ?_
 rintro _ w1 ⟨rfl, rfl⟩
 refine ⟨_, rfl, rfl, fun a fr => ?_⟩
 (repeat (first | refine wl_run oCh_ 1 rfl fr fun a fr => ?_ | refine wl_ldf oCh_ (Sat.stAt S 0 rfl rfl) fr rfl rfl rfl rfl rfl rfl rfl fun a fr => ?_))
 refine wl_lk (f := ptO) oCh_ (none : Option Nat) (fun _ => by kernel_rfl) rfl (Sat.mapAt S 5 rfl) fr rfl rfl rfl rfl rfl rfl rfl rfl fun a fr => ?_
 cases hi : idxG (gs.map (·.2)) g with
 | none =>
  have e1 : phaseG (gs.map (·.2)) g = 0 := by unfold phaseG; rw [hi]; rfl
  rw [lkG_none hi] at fr
  have fr := fr.spell (d := 14) rfl (show ptO ((none : Option (Option Nat)).getD none) = .pointer none from rfl)
  repeat refine w_ oCh_ rfl fr fun a fr => ?_
  refine eq_ rfl rfl ?_
  refine cw_t fr rfl ?_
  refine r_ rfl ?_
  repeat refine w_ oCh_ rfl fr fun a fr => ?_
  first | refine e_ ?_ | refine wpList_nil ?_
  refine wp_ret ?_
  try simp only [Exit.then, Exit.inBlock]
  rw [e1]
  exact ret1 fr rfl rfl ⟨rfl, rfl, S⟩
 | some j =>
  obtain ⟨hj, h1, h2⟩ := lkG_at hi
  have e1 : phaseG (gs.map (·.2)) g = gs[j].2.ph := by unfold phaseG; rw [hi]; simp [hj]
  rw [h1] at fr
  have fr := fr.spell (d := 14) rfl (show ptO ((some (some gs[j].1) : Option (Option Nat)).getD none) = .pointer (some ⟨gs[j].1, 0, none⟩) from rfl)
  repeat refine w_ oCh_ rfl fr fun a fr => ?_
  refine eq_ rfl rfl ?_
  refine cw_f fr rfl ?_
  refine wp_skip ?_
  refine r_ rfl ?_
  (repeat (first | refine wl_run oCh_ 1 rfl fr fun a fr => ?_ | refine wl_ldf oCh_ (Sat.stAt S 0 rfl rfl) fr rfl rfl rfl rfl rfl rfl rfl fun a fr => ?_))
  refine wl_lk (f := ptO) oCh_ (none : Option Nat) (fun _ => by kernel_rfl) rfl (Sat.mapAt S 5 rfl) fr rfl rfl rfl rfl rfl rfl rfl rfl fun a fr => ?_
  rw [h1] at fr
  have fr := fr.spell (d := 22) rfl (show ptO ((some (some gs[j].1) : Option (Option Nat)).getD none) = .pointer (some ⟨gs[j].1, 0, none⟩) from rfl)
  repeat refine w_ oCh_ rfl fr fun a fr => ?_
  have S1 := Sat.focus hj S
  have S1 : Sat w0 _ (chS b bl bm last bk :: logA bl bd x :: diskA bd D :: ckS bk bw now :: ckM bw m :: glA (gs[j].1, gs[j].2) :: (glR (gs[j].1, gs[j].2) ++ (glM bm gs :: (gsT (gs.eraseIdx j) ++ R)))) := S1
  refine wl_ldf oCh_ (Sat.stAt S1 5 rfl (j := 1) rfl) fr rfl rfl rfl rfl rfl rfl rfl fun a fr => ?_
  repeat refine w_ oCh_ rfl fr fun a fr => ?_
  first | refine e_ ?_ | refine wpList_nil ?_
  refine wp_ret ?_
  rw [e1]
  exact ret1 fr rfl rfl ⟨rfl, fr.vok (d := 4) rfl, S⟩
end
section
variable {P : Program} {T : Orc} {ops : Array Oper} {Q : Exit → Act → World → Prop} {Df : List Deferred} {N : Nat} {a : Act} {w w0 : World} {L : Env} {R : List Asn}
theorem wl_litv1 {t e : Nat} (hu : P.underlying t = some (.slice e)) (hi : (P.info? e).map (fun i => (i.zero.isSome, i.size)) = some (true, 1)) {o : Oper} {rest : List Oper} {d : Nat} {x : Operand} {v : Value} (fr : FrD Df N a L) (hw : wantL ops L o = some true) (hd : o.dst = some d) (hlt : Nat.blt d N = true) (ho : o.op = .buildSlice t 1 #[(0, x)]) (hx : ev L x = some v) (hc : v.cells = #[v]) (hv : vok1 v = true) (S : Sat w0 w R)
  (h : ∀ w' A, Sat w0 w' (rvA e 1 A 1 1 [v] :: R) → ∀ a', FrD Df N a' ((d, .slice A 1 1) :: L) → wpList P ops Q rest a' w') : wpList P ops Q (o :: rest) a w := by
 refine wl_val (v := .slice (some ⟨w.heap.size, 0, none⟩) 1 1) (w' := w.alloc (.cells #[v] e)) fr hw hd hlt (one_cell_exec fr ho hx hc hu hi) (vok_sl ⟨Nat.le_refl _, by unfold maxLen; omega⟩) (h _ _ ?_)
 have hm := RowV.made w e 1 1 #[v] S.below.size rfl (by unfold maxLen; omega)
 exact S.add (F := fun g => (Value.slice (some ⟨w.heap.size, 0, none⟩) 1 1).ownBlock = some g) ((Below.refl _ _).alloc (Nat.le_refl _) _) ⟨hm, fun u hu => by
   have hu : u ∈ [v] := hu
   rw [List.mem_singleton] at hu
   subst hu
   exact hv, fun g => Iff.rfl⟩ fun g hg => by
   have : w.heap.size = g := by simpa [Value.ownBlock] using hg
   omega
end
def tdCell (r : RawV) : List Value := [.slice r.1 r.2.2.length r.2.2.length]
def tdRow (r : RawV) : Asn := resA r.1 r.2.1 r.2.2
def tdA (A : Option Addr) (c : Nat) (ls : List RsT) : Asn := exA fun p : { rs : List RawV // rs.map (·.2.2) = ls } => allA (rvA 40 1 A c p.1.length (p.1.flatMap tdCell) :: p.1.map tdRow)
def ResB (l : RsT) : Prop := l.length * 24 ≤ 140737488355328 ∧ ∀ r ∈ l, r.1.length * 24 ≤ 140737488355328
section
variable {w w0 : World} {R M : List Asn} {b bl bm bk bw bx bd : Nat} {last now x : Int} {m : List (Int × Int)} {gs : Gs} {D : Dk} {A : Option Addr} {c : Nat}
theorem Sat.toTd {rs : List RawV} (S : Sat w0 w (rvA 40 1 A c rs.length (rs.flatMap tdCell) :: (rs.map tdRow ++ R))) : Sat w0 w (tdA A c (rs.map (·.2.2)) :: R) :=
 Sat.toEx (f := fun p : { rs' : List RawV // rs'.map (·.2.2) = rs.map (·.2.2) } => allA (rvA 40 1 A c p.1.length (p.1.flatMap tdCell) :: p.1.map tdRow)) ⟨rs, rfl⟩ (Sat.toAllT (L := rvA 40 1 A c rs.length (rs.flatMap tdCell) :: rs.map tdRow) S)
theorem Sat.noTd (S : Sat w0 w R) : Sat w0 w (tdA none 0 [] :: R) := Sat.toTd (rs := []) (rv_nil 40 1 S)
theorem twin_own {n c : Nat} {l : RsT} (hl : l.length ≤ n ∧ n ≤ maxLen) (hB : ResB l) (S : Sat w0 w (resA A c l :: R)) :
  Calls Tryz.prog 44 #[.slice A l.length n] w fun e w' => ∃ A' c', e = .returned (.slice A' l.length l.length) ∧ vok (.slice A' l.length l.length) = true ∧ Sat w0 w' (resA A' c' l :: resA A c l :: R) := by
 obtain ⟨rs, ⟨h1, h2⟩, S⟩ := S.ofRes
 have e1 : (rs.map clipR).length = l.length := by rw [← h1]; simp [rawL]
 have e2 : rawL (rs.map clipR) = l := by rw [raw_clip]; exact h1
 have hcall := twin_call_r (rs := rs.map clipR) (A := A) (c := n) (fun w' S' => (Sat.resRd h2 S').1) (Sat.resRd h2 S).2 (by rw [e1]; exact hl) (by rw [e1]; exact hB.1) (fun r hr => by
  obtain ⟨r', hr', rfl⟩ := List.mem_map.1 hr
  have := hB.2 (r'.2.2, ()) (by rw [← h1]; exact List.mem_map.2 ⟨r', hr', rfl⟩)
  exact this) S
 rw [e1, e2] at hcall
 refine hcall.mono ?_
 rintro e w' ⟨A', c', q1, q2, S⟩
 refine ⟨A', c', q1, q2, ?_⟩
 have S := S.perm (List.perm_middle (l₁ := rvA 157 1 A c rs.length (rs.flatMap resCell) :: rs.map resRow) (a := resA A' c' l) (l₂ := R)).symm
 have S : Sat w0 w' (rvA 157 1 A c rs.length (rs.flatMap resCell) :: (rs.map resRow ++ (resA A' c' l :: R))) := S
 exact (Sat.toRes ⟨h1, h2⟩ S).frontAt 1 rfl
def resOf {α : Type} (d : α) (G : Gl α) (n : Int) : α := match G.v[n.toNat]? with | some v => v.l | none => d
def toldG (gs : List (Gl RsT)) (g : Int) : Bool × List RsT × Int :=
 match (idxG gs g).bind fun j => gs[j]? with
 | none => (false, [], 6)
 | some G => if G.ph == 1 then (false, [], 7) else if (!G.com || !G.told) = true then (G.com, [], 0) else (true, (sites allV G).map (resOf [] G), 0)
theorem sites0 (p : {α : Type} → Vt α → Bool) (hp : ∀ v : Vt RawV, p (vt0 v) = p v) (G : Gl RawV) : sites p (gl0 G) = sites p G := by
 have key : ∀ (l : List (Vt RawV)) (i : Nat), sitesFrom p i (l.map vt0) = sitesFrom p i l := by
  intro l
  induction l with
  | nil => intro i; rfl
  | cons v r ih =>
   intro i
   rw [List.map_cons]
   unfold sitesFrom
   rw [hp, ih]
   rfl
 exact key G.v 0
theorem resOf0 (G : Gl RawV) (n : Int) : resOf [] (gl0 G) n = (resOf (none, 0, []) G n).2.2 := by
 unfold resOf
 have e : (gl0 G).v[n.toNat]? = (G.v[n.toNat]?).map vt0 := List.getElem?_map
 rw [e]
 cases G.v[n.toNat]? <;> rfl
theorem vok_t3 {p : Bool} {B : Option Addr} {n c : Nat} {z : Int} (h : n ≤ c ∧ c ≤ maxLen) (hz : (Lit.int .i64 z).wf = true) : vok (.tuple #[.bool p, .slice B n c, .int .i64 z]) = true := by
 have h1 : vokC (.slice B n c) = true := vok_sl (A := B) h
 show [Value.bool p, .slice B n c, .int .i64 z].all vokC = true
 simp only [List.all_cons, List.all_nil, Bool.and_true, Bool.and_eq_true]
 exact ⟨rfl, h1, hz⟩
theorem told_call {g : Int} (hg : (Lit.int .u32 g).wf = true) (h4 : ∀ p ∈ gs, p.2.v.length = 4) (hB : ∀ p ∈ gs, ∀ v ∈ p.2.v, ResB v.l.2.2) (S : Sat w0 w (chW b bl bm last bk bw now bd gs m x D R)) :
  Calls Tryz.prog 14 #[.pointer (some ⟨b, 0, none⟩), .int .u32 g] w fun e w' => ∃ A c, e = .returned (.tuple #[.bool (toldG (gs.map fun p => gl0 p.2) g).1, .slice A (toldG (gs.map fun p => gl0 p.2) g).2.1.length (toldG (gs.map fun p => gl0 p.2) g).2.1.length, .int .i64 (toldG (gs.map fun p => gl0 p.2) g).2.2]) ∧ vok (.tuple #[.bool (toldG (gs.map fun p => gl0 p.2) g).1, .slice A (toldG (gs.map fun p => gl0 p.2) g).2.1.length (toldG (gs.map fun p => gl0 p.2) g).2.1.length, .int .i64 (toldG (gs.map fun p => gl0 p.2) g).2.2]) = true ∧
   Sat w0 w' (tdA A c (toldG (gs.map fun p => gl0 p.2) g).2.1 :: chW b bl bm last bk bw now bd gs m x D R) := by
 have hidx : idxG (gs.map fun p => gl0 p.2) g = idxG (gs.map (·.2)) g := by
  rw [show (gs.map fun p => gl0 p.2) = (gs.map (·.2)).map gl0 by rw [List.map_map]; rfl]
  exact idxG_map (f := gl0) (fun _ => rfl) _ g
 refine calls_start (N := 66) [.pointer (some ⟨b, 0, none⟩), .int .u32 g] Tryz.func14 rfl rfl rfl (vok_c rfl (vok_c hg rfl)) fun a fr => ?_
 have S0 := S
 have S : Sat w0 w (chS b bl bm last bk :: logA bl bd x :: diskA bd D :: ckS bk bw now :: ckM bw m :: glM bm gs :: (gsT gs ++ R)) := S
 refine r_ rfl ?_
 repeat refine w_ oCh_ rfl fr fun a fr => ?_
 refine er_ rfl rfl ?_
 repeat refine w_ oCh_ rfl fr fun a fr => ?_
 refine wl_call fr rfl rfl rfl rfl enChThere (chthere_call S) ?_
 rintro _ w1 ⟨rfl, rfl⟩
 refine ⟨_, rfl, rfl, fun a fr => ?_⟩
 repeat refine w_ oCh_ rfl fr fun a fr => ?_
 refine eq_ rfl rfl ?_
 refine cw_f fr rfl ?_
 refine wp_skip ?_
 refine r_ rfl ?_
 (repeat (first | refine wl_run oCh_ 1 rfl fr fun a fr => ?_ | refine wl_ldf oCh_ (Sat.stAt S 0 rfl rfl) fr rfl rfl rfl rfl rfl rfl rfl fun a fr => ?_))
 refine wl_lk (f := ptO) oCh_ (none : Option Nat) (fun _ => by kernel_rfl) rfl (Sat.mapAt S 5 rfl) fr rfl rfl rfl rfl rfl rfl rfl rfl fun a fr => ?_
 cases hi : idxG (gs.map (·.2)) g with
 | none =>
  have e1 : toldG (gs.map fun p => gl0 p.2) g = (false, [], 6) := by unfold toldG; rw [hidx, hi]; rfl
  rw [lkG_none hi] at fr
  have fr := fr.spell (d := 18) rfl (show ptO ((none : Option (Option Nat)).getD none) = .pointer none from rfl)
  repeat refine w_ oCh_ rfl fr fun a fr => ?_
  refine eq_ rfl rfl ?_
  refine wp_block ?_
  refine r_ rfl ?_
  repeat refine w_ oCh_ rfl fr fun a fr => ?_
  refine eq_ rfl rfl ?_
  refine cw_t fr rfl ?_
  refine r_ rfl ?_
  repeat refine w_ oCh_ rfl fr fun a fr => ?_
  first | refine e_ ?_ | refine wpList_nil ?_
  refine wp_ret ?_
  try simp only [Exit.then, Exit.inBlock]
  rw [e1]
  exact ret3 fr rfl rfl rfl rfl ⟨none, 0, rfl, rfl, S0.noTd⟩
 | some j =>
  obtain ⟨hj, h1, h2⟩ := lkG_at hi
  obtain ⟨bx, hbx⟩ : ∃ bx, bx = gs[j].1 := ⟨_, rfl⟩
  obtain ⟨G, hG⟩ : ∃ G, G = gs[j].2 := ⟨_, rfl⟩
  have h4G : G.v.length = 4 := by rw [hG]; exact h4 _ (List.getElem_mem hj)
  have hBG : ∀ v ∈ G.v, ResB v.l.2.2 := by rw [hG]; exact hB _ (List.getElem_mem hj)
  have e1 : toldG (gs.map fun p => gl0 p.2) g = if G.ph == 1 then (false, [], 7) else if (!G.com || !G.told) = true then (G.com, [], 0) else (true, (sites allV G).map (fun n => (resOf (none, 0, []) G n).2.2), 0) := by
   unfold toldG
   rw [hidx, hi]
   have : ((gs.map fun p => gl0 p.2)[j]?) = some (gl0 G) := by rw [List.getElem?_map, List.getElem?_eq_getElem hj, hG]; rfl
   simp only [Option.bind_some, this]
   have e2 : (sites allV (gl0 G)).map (resOf [] (gl0 G)) = (sites allV G).map (fun n => (resOf (none, 0, []) G n).2.2) := by
    rw [sites0 allV (fun _ => rfl) G]
    exact List.map_congr_left fun n _ => resOf0 G n
   rw [e2]
   rfl
  rw [h1] at fr
  have fr := fr.spell (d := 18) rfl (show ptO ((some (some gs[j].1) : Option (Option Nat)).getD none) = .pointer (some ⟨bx, 0, none⟩) by rw [hbx]; rfl)
  repeat refine w_ oCh_ rfl fr fun a fr => ?_
  first | refine e_ ?_ | refine wpList_nil ?_
  have back : (chL b bl bm last bk bw now bd bx ⟨G, m, x, D⟩ (glM bm gs :: (gsT (gs.eraseIdx j) ++ R))).Perm (chW b bl bm last bk bw now bd gs m x D R) := by
   have := unfocus_perm (R := R) (b := b) (bl := bl) (bm := bm) (last := last) (bk := bk) (bw := bw) (now := now) (bd := bd) hj (C := ⟨G, m, x, D⟩) (by rw [hG])
   rw [show gs.set j (gs[j].1, (⟨G, m, x, D⟩ : Cs RawV).G) = gs by show gs.set j (gs[j].1, G) = gs; rw [hG]; exact List.set_getElem_self hj, ← hbx] at this
   exact this
  have S := Sat.focus hj S0
  rw [← hbx, ← hG] at S
  have S : Sat w0 _ (chS b bl bm last bk :: logA bl bd x :: diskA bd D :: ckS bk bw now :: ckM bw m :: glA (bx, G) :: (glR (bx, G) ++ (glM bm gs :: (gsT (gs.eraseIdx j) ++ R)))) := S
  generalize hR1 : (glM bm gs :: (gsT (gs.eraseIdx j) ++ R)) = R1 at *
  refine q_ rfl ?_
  refine wp_block ?_
  refine r_ rfl ?_
  repeat refine w_ oCh_ rfl fr fun a fr => ?_
  refine eq_ rfl rfl ?_
  refine cw_f fr rfl ?_
  refine r_ rfl ?_
  repeat refine w_ oCh_ rfl fr fun a fr => ?_
  refine wl_ldf oCh_ (Sat.stAt S 5 rfl (j := 1) rfl) fr rfl rfl rfl rfl rfl rfl rfl fun a fr => ?_
  repeat refine w_ oCh_ rfl fr fun a fr => ?_
  first | refine e_ ?_ | refine wpList_nil ?_
  refine bs 22 fr rfl (fun q1 fr => ?_) (fun q1 fr => ?_)
  ·refine q_ rfl ?_
   refine cw_t fr rfl ?_
   refine r_ rfl ?_
   repeat refine w_ oCh_ rfl fr fun a fr => ?_
   first | refine e_ ?_ | refine wpList_nil ?_
   refine wp_ret ?_
   try simp only [Exit.then, Exit.inBlock]
   have q1 : (G.ph == 1) = true := q1
   rw [e1, q1]
   exact ret3 fr rfl rfl rfl rfl ⟨none, 0, rfl, rfl, S0.noTd⟩
  have q1 : (G.ph == 1) = false := q1
  rw [q1] at e1
  have e1 : toldG (gs.map fun p => gl0 p.2) g = if (!G.com || !G.told) = true then (G.com, [], 0) else (true, (sites allV G).map (fun n => (resOf (none, 0, []) G n).2.2), 0) := e1
  refine q_ rfl ?_
  refine cw_f fr rfl ?_
  refine r_ rfl ?_
  repeat refine w_ oCh_ rfl fr fun a fr => ?_
  refine wl_ldf oCh_ (Sat.stAt S 5 rfl (j := 2) rfl) fr rfl rfl rfl rfl rfl rfl rfl fun a fr => ?_
  repeat refine w_ oCh_ rfl fr fun a fr => ?_
  refine bs 34 fr rfl (fun q2 fr => ?_) (fun q2 fr => ?_)
  ·repeat refine w_ oCh_ rfl fr fun a fr => ?_
   refine eq_ rfl rfl ?_
   refine cw_t fr rfl ?_
   refine r_ rfl ?_
   repeat refine w_ oCh_ rfl fr fun a fr => ?_
   refine wl_ldf oCh_ (Sat.stAt S 5 rfl (j := 2) rfl) fr rfl rfl rfl rfl rfl rfl rfl fun a fr => ?_
   repeat refine w_ oCh_ rfl fr fun a fr => ?_
   first | refine e_ ?_ | refine wpList_nil ?_
   refine wp_ret ?_
   try simp only [Exit.then, Exit.inBlock]
   have q2 : (!G.com) = true := q2
   rw [e1, q2]
   exact ret3 fr rfl rfl rfl rfl ⟨none, 0, rfl, rfl, S0.noTd⟩
  repeat refine w_ oCh_ rfl fr fun a fr => ?_
  refine wl_ldf oCh_ (Sat.stAt S 5 rfl (j := 4) rfl) fr rfl rfl rfl rfl rfl rfl rfl fun a fr => ?_
  repeat refine w_ oCh_ rfl fr fun a fr => ?_
  first | refine e_ ?_ | refine wpList_nil ?_
  have q2 : (!G.com) = false := q2
  refine bs 28 fr rfl (fun q3 fr => ?_) (fun q3 fr => ?_)
  ·refine q_ rfl ?_
   refine cw_t fr rfl ?_
   refine r_ rfl ?_
   repeat refine w_ oCh_ rfl fr fun a fr => ?_
   refine wl_ldf oCh_ (Sat.stAt S 5 rfl (j := 2) rfl) fr rfl rfl rfl rfl rfl rfl rfl fun a fr => ?_
   repeat refine w_ oCh_ rfl fr fun a fr => ?_
   first | refine e_ ?_ | refine wpList_nil ?_
   refine wp_ret ?_
   try simp only [Exit.then, Exit.inBlock]
   have q3 : (!G.told) = true := q3
   rw [e1, q2, q3]
   exact ret3 fr rfl rfl rfl rfl ⟨none, 0, rfl, rfl, S0.noTd⟩
  have q3 : (!G.told) = false := q3
  rw [q2, q3] at e1
  have e1 : toldG (gs.map fun p => gl0 p.2) g = (true, (sites allV G).map (fun n => (resOf (none, 0, []) G n).2.2), 0) := e1
  rw [e1]
  clear e1
  refine q_ rfl ?_
  refine cw_f fr rfl ?_
  refine wp_skip ?_
  repeat first | with_reducible refine then_n ?_ | with_reducible refine blk_n ?_
  have S := ((((((S.frontAt 4 rfl).frontAt 4 rfl).frontAt 4 rfl).frontAt 4 rfl).frontAt 4 rfl).frontAt 5 rfl)
  refine r_ rfl ?_
  repeat refine w_ oCh_ rfl fr fun a fr => ?_
  refine wl_call fr rfl rfl rfl rfl enSites (sites_call enEach asks_each h4G S) ?_
  rintro _ w3 ⟨A3, c3, rfl, hv3, S⟩
  have hm3 := S.own.2
  obtain ⟨sl, hsl⟩ : ∃ sl, sl = sites allV G := ⟨_, rfl⟩
  rw [← hsl] at hv3 hm3 S ⊢
  have hsl4 : sl.length ≤ 4 := by rw [hsl]; exact sites_short allV h4G
  refine ⟨_, rfl, hv3, fun a fr => ?_⟩
  repeat refine w_ oCh_ rfl fr fun a fr => ?_
  first | refine e_ ?_ | refine wpList_nil ?_
  have S : Sat w0 w3 (rvA 40 1 none 0 ([] : List RawV).length (([] : List RawV).flatMap tdCell) :: glA (bx, G) :: ownA .u8 5 A3 c3 sl :: chS b bl bm last bk :: logA bl bd x :: diskA bd D :: ckS bk bw now :: ckM bw m :: (glR (bx, G) ++ (([] : List RawV).map tdRow ++ R1))) := rv_nil 40 1 (((((((S.frontAt 6 rfl).frontAt 6 rfl).frontAt 6 rfl).frontAt 6 rfl).frontAt 6 rfl).frontAt 5 rfl).frontAt 6 rfl)
  refine q_ rfl ?_
  refine wp_block ?_
  refine cw_loop (fun q a w2 => ∃ (i : Nat) (A2 : Option Addr) (c2 : Nat) (os : List RawV), i + q = sl.length + 1 ∧ i ≤ sl.length ∧ os.map (·.2.2) = (sl.take i).map (fun n => (resOf (none, 0, []) G n).2.2) ∧ Fr 66 a [(5, .slice A2 os.length c2), (7, .pointer (some ⟨bx, 0, none⟩)), (46, .slice A3 sl.length c3), (47, .int .i64 (sl.length : Int)), (48, .int .i64 (i : Int))] ∧ Sat w0 w2 (rvA 40 1 A2 c2 os.length (os.flatMap tdCell) :: glA (bx, G) :: ownA .u8 5 A3 c3 sl :: chS b bl bm last bk :: logA bl bd x :: diskA bd D :: ckS bk bw now :: ckM bw m :: (glR (bx, G) ++ (os.map tdRow ++ R1)))) (sl.length + 1)
   ⟨0, none, 0, [], by omega, by omega, rfl, fr.sub ⟨rfl, rfl, rfl, rfl, rfl, trivial⟩, S⟩ ?_ ?_
  ·rintro a w2 ⟨i, _, _, _, h, h', -⟩
   omega
  clear fr S
  rintro q a w4 ⟨i, A2, c2, os, hi, hi', hos, fr, S⟩
  have hol : os.length = i := by have := congrArg List.length hos; simpa [Nat.min_eq_left hi'] using this
  refine r_ rfl ?_
  repeat refine w_ oCh_ rfl fr fun a fr => ?_
  first | refine e_ ?_ | refine wpList_nil ?_
  by_cases hlt : i < sl.length
  rotate_left
  ·have fr := fr.bool (d := 49) rfl (decide_eq_false (show ¬ (i : Int) < (sl.length : Int) by omega))
   obtain rfl : i = sl.length := by omega
   rw [List.take_length] at hos
   refine q_ rfl ?_
   refine cw_f fr rfl ?_
   refine wp_exit ?_
   refine xr_ rfl rfl ?_
   repeat refine w_ oCh_ rfl fr fun a fr => ?_
   have hm2 := (Sat.rvAt S 0 rfl).2.1
   refine wl_call fr rfl rfl rfl rfl enClipResults (clipResults_call hm2) ?_
   rintro _ w5 ⟨rfl, rfl⟩
   refine ⟨_, rfl, vok_clip hm2, fun a fr => ?_⟩
   repeat refine w_ oCh_ rfl fr fun a fr => ?_
   first | refine e_ ?_ | refine wpList_nil ?_
   refine wp_ret ?_
   have hln : ((sl.map (fun n => (resOf (none, 0, []) G n).2.2))).length = os.length := by rw [List.length_map, hol]
   refine ret3 fr rfl rfl rfl rfl ⟨A2, c2, by rw [hln], by rw [hln]; exact vok_t3 ⟨Nat.le_refl _, Nat.le_trans hm2.1 hm2.2⟩ rfl, ?_⟩
   have hp : (rvA 40 1 A2 c2 os.length (os.flatMap tdCell) :: glA (bx, G) :: ownA .u8 5 A3 c3 sl :: chS b bl bm last bk :: logA bl bd x :: diskA bd D :: ckS bk bw now :: ckM bw m :: (glR (bx, G) ++ (os.map tdRow ++ R1))).Perm (rvA 40 1 A2 c2 os.length (os.flatMap tdCell) :: (os.map tdRow ++ (ownA .u8 5 A3 c3 sl :: chL b bl bm last bk bw now bd bx ⟨G, m, x, D⟩ R1))) := by
    refine List.Perm.cons _ ?_
    have h1 : (glA (bx, G) :: ownA .u8 5 A3 c3 sl :: chS b bl bm last bk :: logA bl bd x :: diskA bd D :: ckS bk bw now :: ckM bw m :: (glR (bx, G) ++ (os.map tdRow ++ R1))).Perm ((ownA .u8 5 A3 c3 sl :: chS b bl bm last bk :: logA bl bd x :: diskA bd D :: ckS bk bw now :: ckM bw m :: glA (bx, G) :: glR (bx, G)) ++ (os.map tdRow ++ R1)) :=
     (List.perm_middle (l₁ := [ownA .u8 5 A3 c3 sl, chS b bl bm last bk, logA bl bd x, diskA bd D, ckS bk bw now, ckM bw m]) (a := glA (bx, G)) (l₂ := glR (bx, G) ++ (os.map tdRow ++ R1))).symm
    refine h1.trans ?_
    rw [← List.append_assoc]
    refine (List.Perm.append_right R1 List.perm_append_comm).trans ?_
    rw [List.append_assoc]
    exact List.Perm.refl _
   have S := Sat.toTd (S.perm hp)
   rw [hos] at S
   have S2 : Sat w0 w5 (tdA A2 c2 (sl.map fun n => (resOf (none, 0, []) G n).2.2) :: chL b bl bm last bk bw now bd bx ⟨G, m, x, D⟩ R1) := (S.frontAt 1 rfl).tl
   exact S2.perm (List.Perm.cons _ back)
  have fr := fr.bool (d := 49) rfl (decide_eq_true (show (i : Int) < (sl.length : Int) by omega))
  refine q_ rfl ?_
  refine cw_t fr rfl ?_
  refine wp_skip ?_
  with_reducible refine then_n ?_
  have hmem : ∀ z ∈ sl, z ∈ sitesFrom allV 0 G.v := by rw [hsl]; exact fun z h => h
  have hin := sitesFrom_in allV 0 G.v _ (hmem _ (List.getElem_mem hlt))
  obtain ⟨k, hk⟩ : ∃ k : Nat, sl[i] = (k : Int) := ⟨sl[i].toNat, by omega⟩
  have hk4 : k < 4 := by rw [hk] at hin; omega
  have hkv : k < G.v.length := by omega
  have hge : sl.getD i 0 = (k : Int) := by rw [List.getD_eq_getElem?_getD, List.getElem?_eq_getElem hlt]; exact hk
  obtain ⟨v, hvk⟩ : ∃ v, v = G.v[k] := ⟨_, rfl⟩
  have hvm : v ∈ G.v := by rw [hvk]; exact List.getElem_mem hkv
  have hres : resOf (none, 0, []) G sl[i] = v.l := by
   unfold resOf
   rw [hk, Int.toNat_natCast, List.getElem?_eq_getElem hkv, hvk]
  refine q_ rfl ?_
  refine wp_block ?_
  refine r_ rfl ?_
  refine wl_ld oCh_ (Sat.ownAt S 2 rfl) fr rfl rfl rfl rfl rfl rfl rfl rfl rfl rfl rfl rfl rfl rfl rfl rfl ⟨by omega, by omega⟩ fun a fr => ?_
  rw [Int.toNat_natCast, hge] at fr
  repeat refine w_ oCh_ rfl fr fun a fr => ?_
  refine er_ rfl rfl ?_
  repeat refine w_ oCh_ rfl fr fun a fr => ?_
  refine wl_ixa oCh_ fr rfl rfl rfl rfl rfl rfl rfl rfl ⟨by omega, by omega⟩ fun a fr => ?_
  repeat refine w_ oCh_ rfl fr fun a fr => ?_
  have hcellv := Sat.stAt S 1 rfl (gl_at (j := 3) (u := .slice v.l.1 v.l.2.2.length v.l.2.2.length) hkv (by rw [← hvk]; rfl))
  refine wl_ldf oCh_ (v := .slice v.l.1 v.l.2.2.length v.l.2.2.length) ⟨(show w4.cell? ((((⟨bx, 0, none⟩ : Addr).add 5).add (k * 4)).add 3) = some (.slice v.l.1 v.l.2.2.length v.l.2.2.length) by rw [vt_addr]; exact hcellv.1), hcellv.2⟩ fr rfl rfl rfl rfl rfl rfl rfl fun a fr => ?_
  have hmv : v.l.2.2.length ≤ v.l.2.2.length ∧ v.l.2.2.length ≤ maxLen := by
   have h9 := hcellv.2
   have h9 : (decide (v.l.2.2.length ≤ v.l.2.2.length) && decide (v.l.2.2.length ≤ maxLen)) = true := h9
   simpa using h9
  have hp1 : (glR (bx, G)).Perm (tdRow v.l :: (G.v.eraseIdx k).map fun v => resA v.l.1 v.l.2.1 v.l.2.2) := by
   have := (perm_takeT G.v hkv).map fun v => resA v.l.1 v.l.2.1 v.l.2.2
   rw [← hvk] at this
   exact this
  have S : Sat w0 w4 ([rvA 40 1 A2 c2 os.length (os.flatMap tdCell), glA (bx, G), ownA .u8 5 A3 c3 sl, chS b bl bm last bk, logA bl bd x, diskA bd D, ckS bk bw now, ckM bw m] ++ (glR (bx, G) ++ (os.map tdRow ++ R1))) := S
  have S := S.perm (List.Perm.append_left _ (List.Perm.append_right (os.map tdRow ++ R1) hp1))
  have S := S.frontAt 8 rfl
  refine wl_call fr rfl rfl rfl rfl enTwinR (twin_own hmv (hBG v hvm) S) ?_
  rintro _ w5 ⟨A5, c5, rfl, hv5, S⟩
  refine ⟨_, rfl, hv5, fun a fr => ?_⟩
  have S : Sat w0 w5 ((resA A5 c5 v.l.2.2 :: [rvA 40 1 A2 c2 os.length (os.flatMap tdCell), glA (bx, G), ownA .u8 5 A3 c3 sl, chS b bl bm last bk, logA bl bd x, diskA bd D, ckS bk bw now, ckM bw m]) ++ ((tdRow v.l :: (G.v.eraseIdx k).map fun v => resA v.l.1 v.l.2.1 v.l.2.2) ++ (os.map tdRow ++ R1))) := ((((((((((S.frontAt 1 rfl).frontAt 9 rfl).frontAt 9 rfl).frontAt 9 rfl).frontAt 9 rfl).frontAt 9 rfl).frontAt 9 rfl).frontAt 9 rfl).frontAt 9 rfl).frontAt 9 rfl)
  have S := S.perm (List.Perm.append_left _ (List.Perm.append_right (os.map tdRow ++ R1) hp1.symm))
  refine wl_litv1 Tryz.underlying45 (by kernel_rfl) fr rfl rfl rfl rfl rfl rfl hv5 S ?_
  intro w6 A6 S a fr
  have S := S.frontAt 2 rfl
  refine wl_rvapp (z := 1) (bytes := 24) Tryz.underlying45 (by kernel_rfl) rfl rfl fr rfl rfl rfl rfl rfl rfl rfl (by omega) (S.frontAt 1 rfl) ?_
  intro w7 A7 c7 S a fr
  have S : Sat w0 w7 (rvA 40 1 A7 c7 (os.length + 1) (os.flatMap tdCell ++ tdCell (A5, c5, v.l.2.2)) :: tdRow (A5, c5, v.l.2.2) :: glA (bx, G) :: ownA .u8 5 A3 c3 sl :: chS b bl bm last bk :: logA bl bd x :: diskA bd D :: ckS bk bw now :: ckM bw m :: (glR (bx, G) ++ (os.map tdRow ++ R1))) := S
  repeat refine w_ oCh_ rfl fr fun a fr => ?_
  first | refine e_ ?_ | refine wpList_nil ?_
  refine blk_n ?_
  refine r_ rfl ?_
  repeat refine w_ oCh_ rfl fr fun a fr => ?_
  first | refine e_ ?_ | refine wpList_nil ?_
  have fr := fr.spell (d := 48) rfl (congrArg (Value.int .i64) (i64_next hlt (by omega)))
  have eln : os.length + 1 = (os ++ [((A5, c5, v.l.2.2) : RawV)]).length := by rw [List.length_append]; rfl
  have hp2 : (tdRow (A5, c5, v.l.2.2) :: glA (bx, G) :: ownA .u8 5 A3 c3 sl :: chS b bl bm last bk :: logA bl bd x :: diskA bd D :: ckS bk bw now :: ckM bw m :: (glR (bx, G) ++ (os.map tdRow ++ R1))).Perm (glA (bx, G) :: ownA .u8 5 A3 c3 sl :: chS b bl bm last bk :: logA bl bd x :: diskA bd D :: ckS bk bw now :: ckM bw m :: (glR (bx, G) ++ ((os ++ [((A5, c5, v.l.2.2) : RawV)]).map tdRow ++ R1))) := by
   have h1 := (List.perm_middle (l₁ := glA (bx, G) :: ownA .u8 5 A3 c3 sl :: chS b bl bm last bk :: logA bl bd x :: diskA bd D :: ckS bk bw now :: ckM bw m :: glR (bx, G)) (a := tdRow (A5, c5, v.l.2.2)) (l₂ := os.map tdRow ++ R1)).symm
   refine h1.trans ?_
   exact List.Perm.append_left _ (map_snoc tdRow)
  have S := S.perm (List.Perm.cons _ hp2)
  rw [← el_snoc, eln] at S
  rw [eln] at fr
  refine ⟨i + 1, A7, c7, os ++ [(A5, c5, v.l.2.2)], by omega, by omega, ?_, fr.sub ⟨rfl, rfl, rfl, rfl, rfl, trivial⟩, S⟩
  rw [List.take_succ_eq_append_getElem hlt, List.map_append, List.map_append, hos]
  simp only [List.map_cons, List.map_nil, hres]
end
end Go.Proofs.YticnjkdaccacaaaGreat.Sx
end
