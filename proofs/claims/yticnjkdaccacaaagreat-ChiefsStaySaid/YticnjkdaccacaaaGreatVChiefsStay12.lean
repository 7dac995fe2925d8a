/- Texts of this work, one behind the other. -/
import Derived.Test.YticnjkdaccacaaaGreatVChiefsStay11
set_option maxRecDepth 100000
set_option maxHeartbeats 16000000
section
namespace Go.Proofs.YticnjkdaccacaaaGreat.Sx
open Go Go.RowKit Base Oq OwnV Disk
structure Vt (α : Type) where
 part : Bool
 yes : Bool
 done : Bool
 l : α
structure Gl (α : Type) where
 g : Int
 ph : Int
 com : Bool
 kn : Bool
 told : Bool
 v : List (Vt α)
abbrev RawV := Option Addr × Nat × RsT
def vtV (v : Vt RawV) : List Value := [.bool v.part, .bool v.yes, .bool v.done, .slice v.l.1 v.l.2.2.length v.l.2.2.length]
def glV (G : Gl RawV) : List Value := .int .u32 G.g :: .int .u8 G.ph :: .bool G.com :: .bool G.kn :: .bool G.told :: G.v.flatMap vtV
def glA (p : Nat × Gl RawV) : Asn := stA 88 p.1 (glV p.2)
def glR (p : Nat × Gl RawV) : List Asn := p.2.v.map fun v => resA v.l.1 v.l.2.1 v.l.2.2
theorem vtV_len (v : Vt RawV) : (vtV v).length = 4 := rfl
section
variable {α : Type}
def sitesFrom (p : Vt α → Bool) : Nat → List (Vt α) → List Int
 | _, [] => []
 | i, v :: r => if (v.part && p v) = true then (i : Int) :: sitesFrom p (i + 1) r else sitesFrom p (i + 1) r
def sites (p : Vt α → Bool) (G : Gl α) : List Int := sitesFrom p 0 G.v
def allV (_ : Vt α) : Bool := true
def notYes (v : Vt α) : Bool := !v.yes
def notDone (v : Vt α) : Bool := !v.done
theorem sitesFrom_len (p : Vt α → Bool) : ∀ (i : Nat) (l : List (Vt α)), (sitesFrom p i l).length ≤ l.length := by
 intro i l
 induction l generalizing i with
 | nil => exact Nat.le_refl _
 | cons v r ih =>
  unfold sitesFrom
  split
  ·exact Nat.succ_le_succ (ih _)
  ·exact Nat.le_succ_of_le (ih _)
theorem sitesFrom_in (p : Vt α → Bool) : ∀ (i : Nat) (l : List (Vt α)), ∀ z ∈ sitesFrom p i l, (i : Int) ≤ z ∧ z < (i + l.length : Nat) := by
 intro i l
 induction l generalizing i with
 | nil => intro z hz; cases hz
 | cons v r ih =>
  intro z hz
  unfold sitesFrom at hz
  have h2 := fun hz' => ih (i + 1) z hz'
  split at hz
  ·rcases List.mem_cons.1 hz with rfl | hz
   ·constructor
    ·omega
    ·simp only [List.length_cons]; omega
   ·have := h2 hz
    simp only [List.length_cons]; omega
  ·have := h2 hz
   simp only [List.length_cons]; omega
def fourL (g : Int) : List Int := [IntKind.wrap .u8 (Int.fdiv g (2 ^ 24)), IntKind.wrap .u8 (Int.fdiv g (2 ^ 16)), IntKind.wrap .u8 (Int.fdiv g (2 ^ 8)), IntKind.wrap .u8 g]
abbrev PM := Int × Int × Int
def pmV (m : PM) : List Value := [.int .u8 m.1, .int .u8 0, .int .u8 m.2.1, .int .u32 m.2.2, .slice none 0 0, .slice none 0 0]
def pmA (A : Option Addr) (c : Nat) (l : List PM) : Asn := rvA 42 6 A c l.length (l.flatMap pmV)
def toM (s g : Int) (l : List Int) : List PM := l.map fun n => (s, n, g)
end
def orcCh : Orc := ⟨[(3, .int .i64), (4, .bool), (5, .int .u8), (31, .int .u32), (28, .int .i64), (43, .int .u8), (36, .int .u8), (92, .slice 5), (124, .slice 92), (72, .slice 31), (42, .struct #[Go.Field.mk "Say" 36 0 false "" "" 0, Go.Field.mk "From" 5 1 false "" "" 1, Go.Field.mk "To" 5 2 false "" "" 2, Go.Field.mk "G" 31 3 false "" "" 4, Go.Field.mk "Ops" 37 4 false "" "" 8, Go.Field.mk "Results" 40 5 false "" "" 32]), (27, .slice 42), (40, .slice 157), (85, .struct #[Go.Field.mk "part" 4 0 false "" "concordat/chiefs" 0, Go.Field.mk "yes" 4 1 false "" "concordat/chiefs" 1, Go.Field.mk "done" 4 2 false "" "concordat/chiefs" 2, Go.Field.mk "l" 40 3 false "" "concordat/chiefs" 8]), (86, .array 4 85), (88, .struct #[Go.Field.mk "g" 31 0 false "" "concordat/chiefs" 0, Go.Field.mk "phase" 43 1 false "" "concordat/chiefs" 4, Go.Field.mk "committed" 4 2 false "" "concordat/chiefs" 5, Go.Field.mk "known" 4 3 false "" "concordat/chiefs" 6, Go.Field.mk "told" 4 4 false "" "concordat/chiefs" 7, Go.Field.mk "votes" 86 5 false "" "concordat/chiefs" 8]), (83, .pointer 88), (77, .struct #[Go.Field.mk "log" 73 0 false "" "concordat/chiefs" 0, Go.Field.mk "l" 74 1 false "" "concordat/chiefs" 8, Go.Field.mk "last" 31 2 false "" "concordat/chiefs" 16, Go.Field.mk "clock" 75 3 false "" "concordat/chiefs" 24]), (24, .pointer 77), (74, .map 31 83), (73, .pointer 150), (75, .pointer 131), (107, .slice 36), (37, .slice 104), (104, .struct #[Go.Field.mk "Kind" 102 0 false "" "" 0, Go.Field.mk "Key" 9 1 false "" "" 8, Go.Field.mk "To" 9 2 false "" "" 24, Go.Field.mk "Value" 31 3 false "" "" 40]), (39, .struct #[Go.Field.mk "Site" 5 0 false "" "" 0, Go.Field.mk "Ops" 37 1 false "" "" 8]), (22, .slice 39), (45, .slice 40)],
 [(3, 1), (4, 1), (5, 1), (31, 1), (28, 1), (43, 1), (36, 1), (92, 1), (124, 1), (72, 1), (42, 6), (27, 1), (40, 1), (85, 4), (86, 16), (88, 21), (83, 1), (77, 4), (24, 1), (74, 1), (73, 1), (75, 1), (107, 1), (37, 1), (104, 4), (39, 2), (22, 1), (45, 1)]⟩
theorem oCh_ : orcCh.Ok Tryz.prog := ⟨⟨Tryz.underlying3, Tryz.underlying4, Tryz.underlying5, Tryz.underlying31, Tryz.underlying28, Tryz.underlying43, Tryz.underlying36, Tryz.underlying92, Tryz.underlying124, Tryz.underlying72, Tryz.underlying42, Tryz.underlying27, Tryz.underlying40, Tryz.underlying85, Tryz.underlying86, Tryz.underlying88, Tryz.underlying83, Tryz.underlying77, Tryz.underlying24, Tryz.underlying74, Tryz.underlying73, Tryz.underlying75, Tryz.underlying107, Tryz.underlying37, Tryz.underlying104, Tryz.underlying39, Tryz.underlying22, Tryz.underlying45, trivial⟩, ⟨by kernel_rfl, by kernel_rfl, by kernel_rfl, by kernel_rfl, by kernel_rfl, by kernel_rfl, by kernel_rfl, by kernel_rfl, by kernel_rfl, by kernel_rfl, by kernel_rfl, by kernel_rfl, by kernel_rfl, by kernel_rfl, by kernel_rfl, by kernel_rfl, by kernel_rfl, by kernel_rfl, by kernel_rfl, by kernel_rfl, by kernel_rfl, by kernel_rfl, by kernel_rfl, by kernel_rfl, by kernel_rfl, by kernel_rfl, by kernel_rfl, by kernel_rfl, trivial⟩⟩
theorem enChThere : Enters Tryz.prog 22 := fun _ _ => by kernel_rfl
theorem enFour : Enters Tryz.prog 34 := fun _ _ => by kernel_rfl
theorem enSites : Enters Tryz.prog 29 := fun _ _ => by kernel_rfl
theorem enTo : Enters Tryz.prog 28 := fun _ _ => by kernel_rfl
theorem enEach : Enters Tryz.prog 43 := fun _ _ => by kernel_rfl
theorem enDoing1 : Enters Tryz.prog 73 := fun _ _ => by kernel_rfl
theorem enDone1 : Enters Tryz.prog 75 := fun _ _ => by kernel_rfl
theorem enTick1 : Enters Tryz.prog 30 := fun _ _ => by kernel_rfl
theorem enAbort : Enters Tryz.prog 27 := fun _ _ => by kernel_rfl
theorem enDecided : Enters Tryz.prog 39 := fun _ _ => by kernel_rfl
abbrev chS (b bl bm : Nat) (last : Int) (bk : Nat) : Asn := stA 77 b [.pointer (some ⟨bl, 0, none⟩), .map (some bm), .int .u32 last, .pointer (some ⟨bk, 0, none⟩)]
section
variable {w w0 : World} {R M : List Asn} {b bl bm bk bw bx : Nat} {last now : Int} {m : List (Int × Int)} {G : Gl RawV}
theorem chthere_call (S : Sat w0 w (chS b bl bm last bk :: R)) : Calls Tryz.prog 22 #[.pointer (some ⟨b, 0, none⟩)] w fun e w' => e = .returned (.bool true) ∧ w' = w := by
 refine calls_start (N := 12) [.pointer (some ⟨b, 0, none⟩)] Tryz.func22 rfl rfl rfl rfl fun a fr => ?_
 refine r_ rfl ?_
 repeat refine w_ oCh_ rfl fr fun a fr => ?_
 refine er_ rfl rfl ?_
 (repeat (first | refine wl_run oCh_ 1 rfl fr fun a fr => ?_ | refine wl_ldf oCh_ (Sat.stAt S 0 rfl rfl) fr rfl rfl rfl rfl rfl rfl rfl fun a fr => ?_))
 first | refine e_ ?_ | refine wpList_nil ?_
 refine wp_ret ?_
 exact ret1 fr rfl rfl ⟨rfl, rfl⟩
theorem four_call {g : Int} (hg : (Lit.int .u32 g).wf = true) (S : Sat w0 w R) : Calls Tryz.prog 34 #[.int .u32 g] w fun e w' => ∃ A c, e = .returned (.slice A 4 c) ∧ vok (.slice A 4 c) = true ∧ Sat w0 w' (ownA .u8 5 A c (fourL g) :: R) := by
 refine calls_start (N := 15) [.int .u32 g] Tryz.func34 rfl rfl rfl (vok_c hg rfl) fun a fr => ?_
 refine r_ rfl ?_
 repeat refine w_ oCh_ rfl fr fun a fr => ?_
 refine er_ rfl rfl ?_
 repeat refine w_ oCh_ rfl fr fun a fr => ?_
 refine wl_lit (xs := fourL g) oCh_ litB fr rfl rfl rfl rfl ⟨rfl, rfl, rfl, rfl, rfl, rfl, rfl, rfl, trivial⟩ rfl rfl S ?_
 intro w1 A c S a fr
 repeat refine w_ oCh_ rfl fr fun a fr => ?_
 first | refine e_ ?_ | refine wpList_nil ?_
 refine wp_ret ?_
 exact ret1 fr rfl rfl ⟨A, c, rfl, fr.vok (d := 2) rfl, S⟩
theorem gl_votes (S : Sat w0 w M) (i : Nat) (hi : M[i]? = some (glA (bx, G))) : (G.v.flatMap vtV).all vok1 = true ∧ (Lit.int .u32 G.g).wf = true ∧ (Lit.int .u8 G.ph).wf = true := by
 obtain ⟨F, h1, h2, h3, h4⟩ := (S.frontAt i hi).hd
 have h2 : (glV G).all vok = true := h2
 unfold glV at h2
 simp only [List.all_cons, Bool.and_eq_true] at h2
 refine ⟨?_, h2.1, h2.2.1⟩
 rw [List.all_eq_true]
 have h5 := h2.2.2.2.2.2
 rw [List.all_eq_true] at h5
 refine flat_all fun x hx v hv => ?_
 have h6 := h5 v (List.mem_flatMap.2 ⟨x, hx, hv⟩)
 simp only [vtV, List.mem_cons, List.not_mem_nil, or_false] at hv
 rcases hv with rfl | rfl | rfl | rfl
 ·rfl
 ·rfl
 ·rfl
 ·exact h6
theorem vt_ok {v : Vt RawV} (h : (G.v.flatMap vtV).all vok1 = true) (hv : v ∈ G.v) : (vtV v).all vok1 = true := by
 rw [List.all_eq_true] at h ⊢
 exact fun u hu => h u (List.mem_flatMap.2 ⟨v, hv, hu⟩)
theorem vt_okv {v : Vt RawV} (h : (vtV v).all vok1 = true) : (vtV v).all vok = true := by
 simp only [vtV, List.all_cons, List.all_nil, Bool.and_true, Bool.and_eq_true] at h ⊢
 exact ⟨rfl, rfl, rfl, h.2.2.2⟩
def Asks (f : FuncId) (p : Vt RawV → Bool) : Prop := ∀ {w0 w : World} {R : List Asn} (v : Vt RawV), (vtV v).all vok1 = true → Sat w0 w R → Calls Tryz.prog f #[.agg (vtV v).toArray] w fun e w' => e = .returned (.bool (p v)) ∧ Sat w0 w' R
theorem asks_each : Asks 43 allV := by
 intro w0 w R v hv S
 refine calls_start (N := 3) [.agg (vtV v).toArray] Tryz.func43 rfl rfl rfl (vok_c hv rfl) fun a fr => ?_
 refine r_ rfl ?_
 refine wl_boxs fr rfl rfl rfl rfl rfl (vt_okv hv) S ?_
 intro w1 g S a fr
 repeat refine w_ oCh_ rfl fr fun a fr => ?_
 refine er_ rfl rfl ?_
 repeat refine w_ oCh_ rfl fr fun a fr => ?_
 first | refine e_ ?_ | refine wpList_nil ?_
 refine wp_ret ?_
 exact ret1 fr rfl rfl ⟨rfl, S.tl⟩
theorem asks_doing : Asks 73 notYes := by
 intro w0 w R v hv S
 refine calls_start (N := 6) [.agg (vtV v).toArray] Tryz.func73 rfl rfl rfl (vok_c hv rfl) fun a fr => ?_
 refine r_ rfl ?_
 refine wl_boxs fr rfl rfl rfl rfl rfl (vt_okv hv) S ?_
 intro w1 g S a fr
 repeat refine w_ oCh_ rfl fr fun a fr => ?_
 refine er_ rfl rfl ?_
 (repeat (first | refine wl_run oCh_ 1 rfl fr fun a fr => ?_ | refine wl_ldf oCh_ (Sat.stAt S 0 rfl rfl) fr rfl rfl rfl rfl rfl rfl rfl fun a fr => ?_))
 first | refine e_ ?_ | refine wpList_nil ?_
 refine wp_ret ?_
 exact ret1 fr rfl rfl ⟨rfl, S.tl⟩
theorem asks_done : Asks 75 notDone := by
 intro w0 w R v hv S
 refine calls_start (N := 6) [.agg (vtV v).toArray] Tryz.func75 rfl rfl rfl (vok_c hv rfl) fun a fr => ?_
 refine r_ rfl ?_
 refine wl_boxs fr rfl rfl rfl rfl rfl (vt_okv hv) S ?_
 intro w1 g S a fr
 repeat refine w_ oCh_ rfl fr fun a fr => ?_
 refine er_ rfl rfl ?_
 (repeat (first | refine wl_run oCh_ 1 rfl fr fun a fr => ?_ | refine wl_ldf oCh_ (Sat.stAt S 0 rfl rfl) fr rfl rfl rfl rfl rfl rfl rfl fun a fr => ?_))
 first | refine e_ ?_ | refine wpList_nil ?_
 refine wp_ret ?_
 exact ret1 fr rfl rfl ⟨rfl, S.tl⟩
theorem asks_tick : Asks 30 notDone := by
 intro w0 w R v hv S
 refine calls_start (N := 6) [.agg (vtV v).toArray] Tryz.func30 rfl rfl rfl (vok_c hv rfl) fun a fr => ?_
 refine r_ rfl ?_
 refine wl_boxs fr rfl rfl rfl rfl rfl (vt_okv hv) S ?_
 intro w1 g S a fr
 repeat refine w_ oCh_ rfl fr fun a fr => ?_
 refine er_ rfl rfl ?_
 (repeat (first | refine wl_run oCh_ 1 rfl fr fun a fr => ?_ | refine wl_ldf oCh_ (Sat.stAt S 0 rfl rfl) fr rfl rfl rfl rfl rfl rfl rfl fun a fr => ?_))
 first | refine e_ ?_ | refine wpList_nil ?_
 refine wp_ret ?_
 exact ret1 fr rfl rfl ⟨rfl, S.tl⟩
theorem drop_vt {l : List (Vt RawV)} {i : Nat} (hi : i < l.length) : ((l.flatMap vtV).drop (i * 4)).take 4 = vtV l[i] := by
 rw [← el_drop vtV_len l i, List.drop_eq_getElem_cons hi, List.flatMap_cons]
 rw [List.take_append_of_le_length (by rw [vtV_len]; exact Nat.le_refl _)]
 exact List.take_of_length_le (by rw [vtV_len]; exact Nat.le_refl _)
theorem sites_snoc (p : Vt RawV → Bool) : ∀ (l : List (Vt RawV)) (k i : Nat) (hi : i < l.length), sitesFrom p k (l.take (i + 1)) = sitesFrom p k (l.take i) ++ (if (l[i].part && p l[i]) = true then [((k + i : Nat) : Int)] else []) := by
 intro l
 induction l with
 | nil => intro k i hi; simp at hi
 | cons v r ih =>
  intro k i hi
  cases i with
  | zero => simp [sitesFrom]
  | succ i =>
   have := ih (k + 1) i (by simpa using hi)
   rw [List.take_succ_cons, List.take_succ_cons]
   show sitesFrom p k (v :: r.take (i + 1)) = sitesFrom p k (v :: r.take i) ++ _
   unfold sitesFrom
   rw [this]
   rw [List.getElem_cons_succ, show k + 1 + i = k + (i + 1) by omega]
   split
   ·rfl
   ·rfl
theorem sites_call {f : FuncId} {p : Vt RawV → Bool} (hin : Enters Tryz.prog f) (hp : Asks f p) (h4 : G.v.length = 4) (S : Sat w0 w (glA (bx, G) :: R)) :
  Calls Tryz.prog 29 #[.pointer (some ⟨bx, 0, none⟩), .func (.func f) #[] #[]] w fun e w' => ∃ A c, e = .returned (.slice A (sites p G).length c) ∧ vok (.slice A (sites p G).length c) = true ∧ Sat w0 w' (ownA .u8 5 A c (sites p G) :: glA (bx, G) :: R) := by
 have hv := (gl_votes S 0 rfl).1
 have hfl : (G.v.flatMap vtV).length = 16 := by rw [el_len vtV_len, h4]
 refine calls_start (N := 29) [.pointer (some ⟨bx, 0, none⟩), .func (.func f) #[] #[]] Tryz.func29 rfl rfl rfl rfl fun a fr => ?_
 refine r_ rfl ?_
 repeat refine w_ oCh_ rfl fr fun a fr => ?_
 refine er_ rfl rfl ?_
 repeat refine w_ oCh_ rfl fr fun a fr => ?_
 refine wl_ldsub (cs := G.v.flatMap vtV) oCh_ (fun j u hu => by
  have h := S.stRng 0 rfl 5 16 (A := (⟨bx, 0, none⟩ : Addr).add 5) rfl j u
  rw [show ((glV G).drop 5).take 16 = G.v.flatMap vtV from List.take_of_length_le (by rw [show (glV G).drop 5 = G.v.flatMap vtV from rfl, hfl]; exact Nat.le_refl _)] at h
  exact h hu) hv fr rfl rfl rfl rfl rfl rfl rfl (by rw [hfl]; rfl) fun a fr => ?_
 repeat refine w_ oCh_ rfl fr fun a fr => ?_
 first | refine e_ ?_ | refine wpList_nil ?_
 have S := S.nilRow .u8 5
 refine q_ rfl ?_
 refine wp_block ?_
 refine cw_loop (fun q a w2 => ∃ (i : Nat) (A : Option Addr) (c : Nat) (l : List Int), i + q = 5 ∧ i ≤ 4 ∧ l = sitesFrom p 0 (G.v.take i) ∧ Fr 29 a [(1, .func (.func f) #[] #[]), (4, .slice A l.length c), (10, .agg (G.v.flatMap vtV).toArray), (11, .int .i64 (i : Int))] ∧ Sat w0 w2 (ownA .u8 5 A c l :: glA (bx, G) :: R)) 5
  ⟨0, none, 0, [], rfl, by omega, rfl, fr.sub ⟨rfl, rfl, rfl, rfl, trivial⟩, S⟩ ?_ ?_
 ·rintro a w2 ⟨i, _, _, _, h, h', -⟩
  omega
 clear fr S
 rintro q a w2 ⟨i, A, c, l, hi, hi', hl, fr, S⟩
 refine r_ rfl ?_
 repeat refine w_ oCh_ rfl fr fun a fr => ?_
 first | refine e_ ?_ | refine wpList_nil ?_
 by_cases hlt : i < 4
 rotate_left
 ·have fr := fr.bool (d := 12) rfl (decide_eq_false (show ¬ (i : Int) < (4 : Int) by omega))
  obtain rfl : i = 4 := by omega
  refine q_ rfl ?_
  refine cw_f fr rfl ?_
  refine wp_exit ?_
  refine xr_ rfl rfl ?_
  repeat refine w_ oCh_ rfl fr fun a fr => ?_
  first | refine e_ ?_ | refine wpList_nil ?_
  refine wp_ret ?_
  rw [List.take_of_length_le (by omega)] at hl
  have hl : l = sites p G := hl
  subst hl
  exact ret1 fr rfl rfl ⟨A, c, rfl, fr.vok (d := 4) rfl, S⟩
 have fr := fr.bool (d := 12) rfl (decide_eq_true (show (i : Int) < (4 : Int) by omega))
 have hiv : i < G.v.length := by omega
 obtain ⟨v, hvi⟩ : ∃ v, v = G.v[i] := ⟨_, rfl⟩
 have hvm : v ∈ G.v := by rw [hvi]; exact List.getElem_mem hiv
 have hv1 := vt_ok hv hvm
 refine q_ rfl ?_
 refine cw_t fr rfl ?_
 refine wp_skip ?_
 refine q_ rfl ?_
 refine wp_block ?_
 refine r_ rfl ?_
 repeat refine w_ oCh_ rfl fr fun a fr => ?_
 refine wl_ixs2 (i := i) oCh_ fr rfl rfl rfl rfl rfl rfl rfl rfl rfl rfl hlt hv fun a fr => ?_
 rw [drop_vt hiv, ← hvi] at fr
 refine wl_allocg (zs := [.bool false, .bool false, .bool false, .slice none 0 0]) fr rfl rfl rfl rfl (fun _ => by kernel_rfl) rfl S ?_
 intro w3 g S a fr
 repeat refine w_ oCh_ rfl fr fun a fr => ?_
 refine wl_stg (cs := [.bool false, .bool false, .bool false, .slice none 0 0]) (vs := vtV v) oCh_ fr rfl rfl rfl rfl rfl rfl rfl (by
  have := vt_okv hv1
  simp only [vtV, List.all_cons, List.all_nil, Bool.and_true, Bool.and_eq_true] at this ⊢
  exact ⟨⟨rfl, rfl⟩, ⟨rfl, rfl⟩, ⟨rfl, rfl⟩, rfl, this.2.2.2⟩) S ?_
 intro w4 S
 have S : Sat w0 w4 (stA 85 g (vtV v) :: ownA .u8 5 A c l :: glA (bx, G) :: R) := S
 first | refine e_ ?_ | refine wpList_nil ?_
 have hsn := sites_snoc p G.v 0 i hiv
 rw [← hvi, ← hl, Nat.zero_add] at hsn
 refine q_ rfl ?_
 refine cw_at (fun a w5 => Fr 29 a [(1, .func (.func f) #[] #[]), (4, .slice A l.length c), (5, .int .i64 (i : Int)), (10, .agg (G.v.flatMap vtV).toArray), (11, .int .i64 (i : Int)), (21, .bool (v.part && p v))] ∧ Sat w0 w5 (ownA .u8 5 A c l :: glA (bx, G) :: R)) ?_ ?_
 ·refine wp_region_lit ?_
  (repeat (first | refine wl_run oCh_ 1 rfl fr fun a fr => ?_ | refine wl_ldf oCh_ (Sat.stAt S 0 rfl rfl) fr rfl rfl rfl rfl rfl rfl rfl fun a fr => ?_))
  refine bs 17 fr rfl (fun h1 fr => ?_) (fun h1 fr => ?_)
  ·(repeat (first | refine wl_run oCh_ 1 rfl fr fun a fr => ?_ | refine wl_ldf oCh_ (Sat.stAt S 0 rfl rfl) fr rfl rfl rfl rfl rfl rfl rfl fun a fr => ?_))
   refine wl_ldsub (cs := vtV v) oCh_ (fun j u hu => by rw [addr0]; have := (S.stAt 0 rfl hu).1; rwa [addr0] at this) hv1 fr rfl rfl rfl rfl rfl rfl rfl rfl fun a fr => ?_
   refine wl_callv fr rfl rfl rfl rfl rfl rfl rfl hin (hp v hv1 S) ?_
   rintro _ w5 ⟨rfl, S⟩
   refine ⟨_, rfl, rfl, fun a fr => ?_⟩
   repeat refine w_ oCh_ rfl fr fun a fr => ?_
   first | refine e_ ?_ | refine wpList_nil ?_
   rw [h1, Bool.true_and]
   exact ⟨fr.sub ⟨rfl, rfl, rfl, rfl, rfl, rfl, trivial⟩, S.tl⟩
  ·repeat refine w_ oCh_ rfl fr fun a fr => ?_
   first | refine e_ ?_ | refine wpList_nil ?_
   rw [h1, Bool.false_and]
   exact ⟨fr.sub ⟨rfl, rfl, rfl, rfl, rfl, rfl, trivial⟩, S.tl⟩
 clear fr S
 rintro a w5 ⟨fr, S⟩
 have hii : ∀ {x : Int}, IntKind.wrap .i64 ((i : Int) + 1) = x → x = ((i + 1 : Nat) : Int) := fun h => by rw [← h]; exact i64_next hlt (by decide)
 have hll : l.length ≤ 4 := by rw [hl]; exact Nat.le_trans (sitesFrom_len p 0 _) (by rw [List.length_take]; omega)
 refine bs 21 fr rfl (fun h1 fr => ?_) (fun h1 fr => ?_)
 ·rw [h1, if_pos rfl] at hsn
  refine q_ rfl ?_
  refine cw_t fr rfl ?_
  refine r_ rfl ?_
  repeat refine w_ oCh_ rfl fr fun a fr => ?_
  have fr := fr.spell (d := 24) rfl (show Value.int .u8 (IntKind.wrap .u8 (i : Int)) = .int .u8 (i : Int) by
   congr 1
   rw [IntKind.wrap_u8]; omega)
  refine wl_lit (xs := [(i : Int)]) oCh_ litB fr rfl rfl rfl rfl ⟨rfl, rfl, trivial⟩ rfl rfl S ?_
  intro w6 A6 c6 S a fr
  have hk := Sat.ownAt S 0 rfl
  have S := S.frontAt 1 rfl
  refine wl_app litB fr rfl rfl rfl rfl rfl rfl rfl rfl hk (by simp only [List.length_cons, List.length_nil]; omega) S ?_
  intro w7 A7 c7 S a fr
  have S := S.mask [true, false]
  repeat refine w_ oCh_ rfl fr fun a fr => ?_
  first | refine e_ ?_ | refine wpList_nil ?_
  refine blk_n ?_
  refine r_ rfl ?_
  repeat refine w_ oCh_ rfl fr fun a fr => ?_
  first | refine e_ ?_ | refine wpList_nil ?_
  have fr := fr.spell (d := 11) rfl (congrArg (Value.int .i64) (hii rfl))
  exact ⟨i + 1, A7, c7, l ++ [(i : Int)], by omega, by omega, hsn.symm, fr.sub ⟨rfl, rfl, rfl, rfl, trivial⟩, S⟩
 ·rw [h1, if_neg (by decide), List.append_nil] at hsn
  refine q_ rfl ?_
  refine cw_f fr rfl ?_
  refine wp_skip ?_
  refine blk_n ?_
  refine r_ rfl ?_
  repeat refine w_ oCh_ rfl fr fun a fr => ?_
  first | refine e_ ?_ | refine wpList_nil ?_
  have fr := fr.spell (d := 11) rfl (congrArg (Value.int .i64) (hii rfl))
  exact ⟨i + 1, A, c, l, by omega, by omega, hsn.symm, fr.sub ⟨rfl, rfl, rfl, rfl, trivial⟩, S⟩
theorem to_call {s : Int} {A : Option Addr} {c : Nat} {l : List Int} (hs : (Lit.int .u8 s).wf = true) (hr : ∀ w', Sat w0 w' (glA (bx, G) :: R) → Rk .u8 w' A l) (hm : l.length ≤ c ∧ c ≤ maxLen) (hb : l.length ≤ 1000) (S : Sat w0 w (glA (bx, G) :: R)) :
  Calls Tryz.prog 28 #[.pointer (some ⟨bx, 0, none⟩), .int .u8 s, .slice A l.length c] w fun e w' => ∃ A' c', e = .returned (.slice A' (toM s G.g l).length (toM s G.g l).length) ∧ vok (.slice A' (toM s G.g l).length (toM s G.g l).length) = true ∧ Sat w0 w' (pmA A' c' (toM s G.g l) :: glA (bx, G) :: R) := by
 have hg := (gl_votes S 0 rfl).2.1
 refine calls_start (N := 28) [.pointer (some ⟨bx, 0, none⟩), .int .u8 s, .slice A l.length c] Tryz.func28 rfl rfl rfl (vok_c rfl (vok_c hs (vok_c (vok_sl hm) rfl))) fun a fr => ?_
 refine r_ rfl ?_
 repeat refine w_ oCh_ rfl fr fun a fr => ?_
 refine er_ rfl rfl ?_
 repeat refine w_ oCh_ rfl fr fun a fr => ?_
 first | refine e_ ?_ | refine wpList_nil ?_
 have S : Sat w0 w (pmA none 0 [] :: glA (bx, G) :: R) := rv_nil 42 6 S
 refine q_ rfl ?_
 refine wp_block ?_
 refine cw_loop (fun q a w2 => ∃ (i : Nat) (A2 : Option Addr) (c2 : Nat) (os : List PM), i + q = l.length + 1 ∧ i ≤ l.length ∧ os = toM s G.g (l.take i) ∧ Fr 28 a [(0, .pointer (some ⟨bx, 0, none⟩)), (1, .int .u8 s), (6, .slice A2 os.length c2), (9, .slice A l.length c), (10, .int .i64 (l.length : Int)), (11, .int .i64 (i : Int))] ∧ Sat w0 w2 (pmA A2 c2 os :: glA (bx, G) :: R)) (l.length + 1)
  ⟨0, none, 0, [], by omega, by omega, rfl, fr.sub ⟨rfl, rfl, rfl, rfl, rfl, rfl, trivial⟩, S⟩ ?_ ?_
 ·rintro a w2 ⟨i, _, _, _, h, h', -⟩
  omega
 clear fr S
 rintro q a w2 ⟨i, A2, c2, os, hi, hi', hos, fr, S⟩
 have hol : os.length = i := by rw [hos, toM, List.length_map, List.length_take]; omega
 refine r_ rfl ?_
 repeat refine w_ oCh_ rfl fr fun a fr => ?_
 first | refine e_ ?_ | refine wpList_nil ?_
 by_cases hlt : i < l.length
 rotate_left
 ·have fr := fr.bool (d := 12) rfl (decide_eq_false (show ¬ (i : Int) < (l.length : Int) by omega))
  obtain rfl : i = l.length := by omega
  rw [List.take_length] at hos
  subst hos
  refine q_ rfl ?_
  refine cw_f fr rfl ?_
  refine wp_exit ?_
  refine xr_ rfl rfl ?_
  repeat refine w_ oCh_ rfl fr fun a fr => ?_
  have hm2 := (Sat.rvAt S 0 rfl).2.1
  refine wl_call fr rfl rfl rfl rfl enClipMsg (clipMsg_call hm2) ?_
  rintro _ w3 ⟨rfl, rfl⟩
  refine ⟨_, rfl, vok_sl ⟨Nat.le_refl _, Nat.le_trans hm2.1 hm2.2⟩, fun a fr => ?_⟩
  repeat refine w_ oCh_ rfl fr fun a fr => ?_
  first | refine e_ ?_ | refine wpList_nil ?_
  refine wp_ret ?_
  exact ret1 fr rfl rfl ⟨A2, c2, rfl, fr.vok (d := 6) rfl, S⟩
 have fr := fr.bool (d := 12) rfl (decide_eq_true (show (i : Int) < (l.length : Int) by omega))
 refine q_ rfl ?_
 refine cw_t fr rfl ?_
 refine wp_skip ?_
 with_reducible refine then_n ?_
 have hrk := hr _ S.tl
 have hge : l.getD i 0 = l[i] := by rw [List.getD_eq_getElem?_getD, List.getElem?_eq_getElem hlt]; rfl
 obtain ⟨y, hy⟩ : ∃ y, y = l[i] := ⟨_, rfl⟩
 have hyw : (Lit.int .u8 y).wf = true := hrk.wf y (by rw [hy]; exact List.getElem_mem hlt)
 rw [← hy] at hge
 refine q_ rfl ?_
 refine wp_block ?_
 refine r_ rfl ?_
 refine wl_ld oCh_ hrk fr rfl rfl rfl rfl rfl rfl rfl rfl rfl rfl rfl rfl rfl rfl rfl rfl ⟨by omega, by omega⟩ fun a fr => ?_
 rw [Int.toNat_natCast, hge] at fr
 repeat refine w_ oCh_ rfl fr fun a fr => ?_
 refine er_ rfl rfl ?_
 repeat refine w_ oCh_ rfl fr fun a fr => ?_
 refine wl_ldf oCh_ (Sat.stAt S 1 rfl (j := 0) rfl) fr rfl rfl rfl rfl rfl rfl rfl fun a fr => ?_
 have hpv : (pmV (s, y, G.g)).all vok1 = true := by
  simp only [pmV, List.all_cons, List.all_nil, Bool.and_true, Bool.and_eq_true]
  exact ⟨hs, rfl, hyw, hg, rfl, rfl⟩
 refine wl_build (cs := pmV (s, y, G.g)) (L2 := [(0, .int .u8 s), (2, .int .u8 y), (3, .int .u32 G.g)]) fr rfl rfl rfl rfl (by
   have e1 := (fr.ev (o := .tmp 16) rfl).1
   have e2 := (fr.ev (o := .tmp 17) rfl).1
   have e3 := (fr.ev (o := .tmp 21) rfl).1
   simp [e1, e2, e3]) (by kernel_rfl) hpv fun a fr => ?_
 refine wl_lit1 (cs := pmV (s, y, G.g)) (z := 6) Tryz.underlying27 (by kernel_rfl) rfl fr rfl rfl rfl rfl rfl rfl hpv S ?_
 intro w7 A7 c7 S a fr
 have hl7 := Sat.rvAt S 0 rfl
 have S := S.frontAt 1 rfl
 refine wl_rvapp (z := 6) (bytes := 56) Tryz.underlying27 (by kernel_rfl) rfl rfl fr rfl rfl rfl rfl rfl rfl rfl (by rw [hol]; omega) (S.frontAt 1 rfl) ?_
 intro w8 A8 c8 S a fr
 have S : Sat w0 w8 (pmA A8 c8 (os ++ [(s, y, G.g)]) :: glA (bx, G) :: R) := by
  unfold pmA
  rw [List.length_append, el_snoc]
  exact S
 repeat refine w_ oCh_ rfl fr fun a fr => ?_
 first | refine e_ ?_ | refine wpList_nil ?_
 refine blk_n ?_
 refine r_ rfl ?_
 repeat refine w_ oCh_ rfl fr fun a fr => ?_
 first | refine e_ ?_ | refine wpList_nil ?_
 have fr := fr.spell (d := 11) rfl (congrArg (Value.int .i64) (i64_next hlt (by have h9 := hm; unfold maxLen at h9; omega)))
 have fr := fr.spell (d := 6) rfl (show Value.slice A8 (os.length + 1) c8 = .slice A8 (os ++ [((s, y, G.g) : PM)]).length c8 by rw [List.length_append]; rfl)
 refine ⟨i + 1, A8, c8, os ++ [(s, y, G.g)], by omega, by omega, ?_, fr.sub ⟨rfl, rfl, rfl, rfl, rfl, rfl, trivial⟩, S⟩
 rw [List.take_succ_eq_append_getElem hlt, hos, ← hy]
 simp [toM]
theorem sites_short (p : Vt RawV → Bool) (h4 : G.v.length = 4) : (sites p G).length ≤ 4 := h4 ▸ sitesFrom_len p 0 G.v
theorem vok_clip {A : Option Addr} {n c : Nat} (h : n ≤ c ∧ c ≤ maxLen) : vok (.slice A n n) = true := vok_sl ⟨Nat.le_refl _, Nat.le_trans h.1 h.2⟩
theorem decided_call {y : Int} (hy : (Lit.int .u8 y).wf = true) (S : Sat w0 w (glA (bx, G) :: R)) : Calls Tryz.prog 39 #[.pointer (some ⟨bx, 0, none⟩), .int .u8 y] w fun e w' => ∃ A' c', e = .returned (.slice A' 1 1) ∧ vok (.slice A' 1 1) = true ∧ Sat w0 w' (pmA A' c' [((if G.com = true then 4 else 5), y, G.g)] :: glA (bx, G) :: R) := by
 refine calls_start (N := 17) [.pointer (some ⟨bx, 0, none⟩), .int .u8 y] Tryz.func39 rfl rfl rfl (vok_c rfl (vok_c hy rfl)) fun a fr => ?_
 refine r_ rfl ?_
 repeat refine w_ oCh_ rfl fr fun a fr => ?_
 refine er_ rfl rfl ?_
 (repeat (first | refine wl_run oCh_ 1 rfl fr fun a fr => ?_ | refine wl_ldf oCh_ (Sat.stAt S 0 rfl rfl) fr rfl rfl rfl rfl rfl rfl rfl fun a fr => ?_))
 first | refine e_ ?_ | refine wpList_nil ?_
 have both : ∀ {s : Int} (hs : (Lit.int .u8 s).wf = true) {w1 : World} {A c}, Sat w0 w1 (ownA .u8 5 A c [y] :: glA (bx, G) :: R) → Calls Tryz.prog 28 #[.pointer (some ⟨bx, 0, none⟩), .int .u8 s, .slice A ([y] : List Int).length c] w1 fun e w' => ∃ A' c', e = .returned (.slice A' 1 1) ∧ vok (.slice A' 1 1) = true ∧ Sat w0 w' (pmA A' c' [(s, y, G.g)] :: glA (bx, G) :: R) := by
  intro s hs w1 A c S
  obtain ⟨-, hm⟩ := S.own
  refine (to_call hs (fun w' S' => Sat.ownAt S' 1 rfl) hm (by simp) (S.frontAt 1 rfl)).mono ?_
  rintro e w2 ⟨A', c', h1, h2, S⟩
  exact ⟨A', c', h1, h2, (S.frontAt 2 rfl).tl⟩
 refine bs 8 fr rfl (fun h1 fr => ?_) (fun h1 fr => ?_)
 ·rw [show G.com = true from h1, if_pos rfl]
  refine q_ rfl ?_
  refine cw_t fr rfl ?_
  refine r_ rfl ?_
  repeat refine w_ oCh_ rfl fr fun a fr => ?_
  refine wl_lit (xs := [y]) oCh_ litB fr rfl rfl rfl rfl ⟨rfl, rfl, trivial⟩ rfl rfl S ?_
  intro w1 A c S a fr
  refine wl_call fr rfl rfl rfl rfl enTo (both rfl S) ?_
  rintro _ w2 ⟨A', c', rfl, hv, S⟩
  refine ⟨_, rfl, hv, fun a fr => ?_⟩
  repeat refine w_ oCh_ rfl fr fun a fr => ?_
  first | refine e_ ?_ | refine wpList_nil ?_
  refine wp_ret ?_
  try simp only [Exit.then, Exit.inBlock]
  exact ret1 fr rfl rfl ⟨A', c', rfl, hv, S⟩
 ·rw [show G.com = false from h1, if_neg (by decide)]
  refine q_ rfl ?_
  refine cw_f fr rfl ?_
  refine wp_skip ?_
  refine r_ rfl ?_
  repeat refine w_ oCh_ rfl fr fun a fr => ?_
  refine wl_lit (xs := [y]) oCh_ litB fr rfl rfl rfl rfl ⟨rfl, rfl, trivial⟩ rfl rfl S ?_
  intro w1 A c S a fr
  refine wl_call fr rfl rfl rfl rfl enTo (both rfl S) ?_
  rintro _ w2 ⟨A', c', rfl, hv, S⟩
  refine ⟨_, rfl, hv, fun a fr => ?_⟩
  repeat refine w_ oCh_ rfl fr fun a fr => ?_
  first | refine e_ ?_ | refine wpList_nil ?_
  refine wp_ret ?_
  exact ret1 fr rfl rfl ⟨A', c', rfl, hv, S⟩
theorem tell_call {s : Int} (hs : (Lit.int .u8 s).wf = true) {l : List Int} {A : Option Addr} {c : Nat} (hb : l.length ≤ 1000) (S : Sat w0 w (ownA .u8 5 A c l :: glA (bx, G) :: R)) : Calls Tryz.prog 28 #[.pointer (some ⟨bx, 0, none⟩), .int .u8 s, .slice A l.length c] w fun e w' => ∃ A' c', e = .returned (.slice A' (toM s G.g l).length (toM s G.g l).length) ∧ vok (.slice A' (toM s G.g l).length (toM s G.g l).length) = true ∧ Sat w0 w' (pmA A' c' (toM s G.g l) :: glA (bx, G) :: R) := by
 obtain ⟨-, hm⟩ := S.own
 refine (to_call hs (fun w' S' => Sat.ownAt S' 1 rfl) hm hb (S.frontAt 1 rfl)).mono ?_
 rintro e w2 ⟨A', c', h1, h2, S⟩
 exact ⟨A', c', h1, h2, (S.frontAt 2 rfl).tl⟩
def abortG {α : Type} (G : Gl α) : Gl α := { G with ph := 4, com := false }
theorem abort_call (h4 : G.v.length = 4) (S : Sat w0 w (chS b bl bm last bk :: ckS bk bw now :: ckM bw m :: glA (bx, G) :: R)) :
  Calls Tryz.prog 27 #[.pointer (some ⟨b, 0, none⟩), .pointer (some ⟨bx, 0, none⟩)] w fun e w' => ∃ A' c', e = .returned (.slice A' (sites allV G).length (sites allV G).length) ∧ vok (.slice A' (sites allV G).length (sites allV G).length) = true ∧ Sat w0 w' (pmA A' c' (toM 5 G.g (sites allV G)) :: chS b bl bm last bk :: ckS bk bw now :: ckM bw (delM m G.g) :: glA (bx, abortG G) :: R) := by
 have hg := (gl_votes S 3 rfl).2.1
 refine calls_start (N := 24) [.pointer (some ⟨b, 0, none⟩), .pointer (some ⟨bx, 0, none⟩)] Tryz.func27 rfl rfl rfl rfl fun a fr => ?_
 refine r_ rfl ?_
 repeat refine w_ oCh_ rfl fr fun a fr => ?_
 refine eq_ rfl rfl ?_
 refine wp_region_sl [u_ 0 5, u_ 1 6, u_ 2 7, u_ 3 8, u_ 4 9, u_ 5 10, u_ 6 11, u_ 7 12, .one (8, false, some 13)]
        [m_ 5 0 24,
        c_ 6 5,
        f_ 7 77 6 3,
        l_ 8 75 7,
        m_ 9 1 83,
        c_ 10 9,
        f_ 11 88 10 0,
        l_ 12 31 11,
        .one ⟨false, some 13, (.call { callee := (.value (.func 60)), args := #[(.tmp 8), (.tmp 12)], argTypes := #[75, 31] }), 28, none⟩]
        (fun v => Sat w0 v [chS b bl bm last bk, glA (bx, G)]) rfl (by kernel_rfl) (by kernel_rfl) ?_ ?_
 ·exact (S.drew.frontAt 3 rfl |>.frontAt 1 rfl).firsts [_, _]
 have S := S.drew
 have hS : Sat w0 _ [chS b bl bm last bk, glA (bx, G)] := (S.frontAt 3 rfl |>.frontAt 1 rfl).firsts [_, _]
 (repeat (first | refine sl_run oCh_ 1 rfl fr fun a fr => ?_ | refine sl_ldf oCh_ (fun _ S => Sat.stAt S 0 rfl rfl) fr rfl rfl rfl rfl rfl rfl rfl rfl hS fun a fr => ?_ | refine sl_ldf oCh_ (fun _ S => Sat.stAt S 1 rfl (j := 0) rfl) fr rfl rfl rfl rfl rfl rfl rfl rfl hS fun a fr => ?_))
 have S : Sat w0 _ (ckS bk bw now :: ckM bw m :: chS b bl bm last bk :: glA (bx, G) :: R) := (S.frontAt 1 rfl).frontAt 2 rfl |>.frontAt 1 rfl
 refine sl_call fr rfl rfl rfl rfl rfl enCkClear (ckclear_call hg S) ?_
 rintro _ w1 ⟨⟨v, rfl, hv⟩, S⟩
 refine ⟨_, rfl, hv, (S.frontAt 2 rfl |>.frontAt 3 rfl |>.frontAt 1 rfl).firsts [_, _], fun a fr => ?_⟩
 refine sl_end ?_
 repeat with_reducible refine then_n ?_
 have S := S.frontAt 3 rfl
 refine r_ rfl ?_
 repeat refine w_ oCh_ rfl fr fun a fr => ?_
 refine wl_stfA oCh_ 1 fr rfl rfl rfl rfl rfl rfl rfl rfl rfl S (by simp [glV]) ?_
 intro w2 S
 repeat refine w_ oCh_ rfl fr fun a fr => ?_
 refine wl_stfA oCh_ 2 fr rfl rfl rfl rfl rfl rfl rfl rfl rfl S (by simp [glV]) ?_
 intro w3 S
 have S : Sat w0 w3 (glA (bx, abortG G) :: ckS bk bw now :: ckM bw (delM m G.g) :: chS b bl bm last bk :: R) := S
 refine er_ rfl rfl ?_
 repeat refine w_ oCh_ rfl fr fun a fr => ?_
 refine wl_call fr rfl rfl rfl rfl enSites (sites_call enEach asks_each (G := abortG G) h4 S) ?_
 rintro _ w4 ⟨A4, c4, rfl, hv4, S⟩
 refine ⟨_, rfl, hv4, fun a fr => ?_⟩
 have hsl : (sites allV (abortG G)).length ≤ 4 := sites_short allV (G := abortG G) h4
 refine wl_call fr rfl rfl rfl rfl enTo (tell_call (s := 5) rfl (by omega) S) ?_
 rintro _ w5 ⟨A5, c5, rfl, hv5, S⟩
 refine ⟨_, rfl, hv5, fun a fr => ?_⟩
 repeat refine w_ oCh_ rfl fr fun a fr => ?_
 first | refine e_ ?_ | refine wpList_nil ?_
 refine wp_ret ?_
 have e1 : (toM 5 (abortG G).g (sites allV (abortG G))).length = (sites allV G).length := by rw [toM, List.length_map]; rfl
 rw [e1] at hv5 fr
 refine ret1 fr rfl rfl ⟨A5, c5, rfl, hv5, ?_⟩
 exact (((((S.frontAt 1 rfl).frontAt 3 rfl).frontAt 3 rfl).frontAt 4 rfl).frontAt 4 rfl)
end
end Go.Proofs.YticnjkdaccacaaaGreat.Sx
end
section
namespace Go.Proofs.YticnjkdaccacaaaGreat.Sx
open Go Go.RowKit Base Oq
structure Pn where
 key : Nat
 fl : Array Bool
 js : List (Nat × Option Tmp × Nat)
def cntF (l : Array Bool) : Nat := l.toList.count false
def endI (I : Act → World → Prop) (e : Exit) (a : Act) (w : World) : Prop := e = .normal ∧ I a w
section
variable {P : Program} {ops : Array Oper} {Q : Exit → Act → World → Prop} {S : World → Prop}
def okNode (ops : Array Oper) (all : List Pn) (lf : Array Bool) (kf : Nat) (nd : Pn) : Bool :=
 (Region.ready .any ops nd.fl == nd.js.map (·.1)) && !nd.js.isEmpty && nd.js.all fun x =>
  (cntF nd.fl == cntF (nd.fl.setIfInBounds x.1 true) + 1) && ((x.2.2 == kf && nd.fl.setIfInBounds x.1 true == lf) || all.any fun m => m.key == x.2.2 && m.fl == nd.fl.setIfInBounds x.1 true)
def stripJ (ops : Array Oper) : List (Nat × Option Tmp × Nat) → Option (List (SOp × Nat))
 | [] => some []
 | (j, N, k) :: r => (strip ops (j, false, N)).bind fun s => if s.g.isNone && ((ops[j]?).map (·.dst) == some N) then (stripJ ops r).map ((s, k) :: ·) else none
def stripP (ops : Array Oper) : List Pn → Option (List (Nat × List (SOp × Nat)))
 | [] => some []
 | nd :: r => (stripJ ops nd.js).bind fun l => (stripP ops r).map ((nd.key, l) :: ·)
def PJ (P : Program) (S : World → Prop) (I : Nat → Act → World → Prop) (k : Nat) : List (SOp × Nat) → Prop
 | [] => True
 | (s, k') :: r => (∀ a w, S w → I k a w → SL P (endI (I k')) S [.one s] a w) ∧ PJ P S I k r
def PSteps (P : Program) (S : World → Prop) (I : Nat → Act → World → Prop) : List (Nat × List (SOp × Nat)) → Prop
 | [] => True
 | (k, l) :: r => PJ P S I k l ∧ PSteps P S I r
theorem pj_at {I : Nat → Act → World → Prop} {k : Nat} : ∀ {js : List (Nat × Option Tmp × Nat)} {l : List (SOp × Nat)}, stripJ ops js = some l → PJ P S I k l → ∀ x ∈ js, ∃ o, ops[x.1]? = some o ∧ (∀ t, Region.wanted o t = true) ∧
  ∀ a w, S w → I k a w → ∀ K : Act → World → Prop, (∀ a' w', S w' → I x.2.2 a' w' → K a' w') → Oper.wp P o a w K (fun _ _ _ => False) := by
 intro js
 induction js with
 | nil => intro l _ _ x hx; cases hx
 | cons y js ih =>
  obtain ⟨j, N, k'⟩ := y
  intro l hl hp x hx
  simp only [stripJ, Option.bind_eq_some_iff] at hl
  obtain ⟨s, hs, hl⟩ := hl
  split at hl
  case isFalse => cases hl
  rename_i hg
  rw [Option.map_eq_some_iff] at hl
  obtain ⟨l', hl', rfl⟩ := hl
  simp only [Bool.and_eq_true, Option.isNone_iff_eq_none, beq_iff_eq] at hg
  rcases List.mem_cons.1 hx with rfl | hx
  ·cases ho : ops[j]? with
   | none => rw [ho] at hg; simp at hg
   | some o =>
    rw [ho] at hg
    have hd : o.dst = N := by simpa using hg.2
    have hgo : o.guard = none := by
     have hs' := hs
     unfold strip at hs'
     rw [ho] at hs'
     simp only [Option.bind_some] at hs'
     cases hgg : o.guard with
     | none => rfl
     | some g =>
      rw [hgg] at hs'
      simp only [Option.map_eq_some_iff] at hs'
      obtain ⟨t', _, rfl⟩ := hs'
      exact absurd hg.1 (by simp)
    refine ⟨o, rfl, fun t => by simp [Region.wanted, hgo], fun a w hS hI K hK => ?_⟩
    obtain ⟨_, hq, hsd, hop, hty⟩ := strip_wanted (x := (j, false, N)) ho hs a.tmps
    rcases hp.1 a w hS hI with ⟨h1, _, _⟩ | ⟨_, h2, _⟩ | ⟨_, _, h3⟩
    ·have : s.wanted a.tmps = true := by simp [SOp.wanted, hg.1]
     rw [this] at h1; cases h1
    ·have h2' : s.q = true := h2
     rw [hq] at h2'; cases h2'
    ·exact oper_same hop hty (hsd.trans hd.symm) (h3 K fun a' w' hS' hh => hK a' w' hS' hh.2)
  ·exact ih hl' hp.2 x hx
theorem psteps_at {I : Nat → Act → World → Prop} : ∀ {nodes : List Pn} {L : List (Nat × List (SOp × Nat))}, stripP ops nodes = some L → PSteps P S I L → ∀ nd ∈ nodes, ∃ l, stripJ ops nd.js = some l ∧ PJ P S I nd.key l := by
 intro nodes
 induction nodes with
 | nil => intro L _ _ nd h; cases h
 | cons n nodes ih =>
  intro L hL hp nd hnd
  simp only [stripP, Option.bind_eq_some_iff, Option.map_eq_some_iff] at hL
  obtain ⟨l, hl, L', hL', rfl⟩ := hL
  rcases List.mem_cons.1 hnd with rfl | hnd
  ·exact ⟨l, hl, hp.1⟩
  ·exact ih hL' hp.2 nd hnd
theorem pool_held {I : Nat → Act → World → Prop} {nodes : List Pn} {lf : Array Bool} {kf : Nat} {L : List (Nat × List (SOp × Nat))} (hall : nodes.all (okNode ops nodes lf kf) = true) (hL : stripP ops nodes = some L) (hs : PSteps P S I L)
  (hfin : ∀ a w, S w → I kf a w → wpAnyH P .any ops (np Q) S (cntF lf) lf a w) : ∀ (n : Nat) (nd : Pn), nd ∈ nodes → cntF nd.fl = n → ∀ a w, S w → I nd.key a w → wpAnyH P .any ops (np Q) S n nd.fl a w := by
 intro n
 induction n with
 | zero =>
  intro nd hnd hc a w hS hI
  have hok := List.all_eq_true.1 hall nd hnd
  unfold okNode at hok
  simp only [Bool.and_eq_true, List.all_eq_true, beq_iff_eq, Bool.not_eq_true', List.isEmpty_eq_false_iff] at hok
  obtain ⟨⟨h1, h2⟩, h3⟩ := hok
  obtain ⟨x, hx⟩ := List.exists_mem_of_ne_nil _ h2
  have := (h3 x hx).1
  omega
 | succ n ih =>
  intro nd hnd hc a w hS hI
  have hok := List.all_eq_true.1 hall nd hnd
  unfold okNode at hok
  simp only [Bool.and_eq_true, List.all_eq_true, beq_iff_eq, Bool.not_eq_true', List.isEmpty_eq_false_iff] at hok
  obtain ⟨⟨h1, h2⟩, h3⟩ := hok
  obtain ⟨l, hl, hj⟩ := psteps_at hL hs nd hnd
  refine wpAnyH_all h1 (by simpa using h2) fun i hi => ?_
  obtain ⟨x, hx, rfl⟩ := List.mem_map.1 hi
  obtain ⟨o, ho, hw, hstep⟩ := pj_at hl hj x hx
  have h4 := h3 x hx
  simp only [Bool.or_eq_true, Bool.and_eq_true, beq_iff_eq, List.any_eq_true] at h4
  obtain ⟨h5, h6⟩ := h4
  refine wpOp_of ho hw (hstep a w hS hI _ fun a' w' hS' hI' => ⟨hS', ?_⟩)
  rcases h6 with ⟨h7, h8⟩ | ⟨m, hm, h7, h8⟩
  ·rw [h8]
   rw [h8] at h5
   have := hfin a' w' hS' (by rw [← h7]; exact hI')
   rwa [show cntF lf = n by omega] at this
  ·rw [← h8]
   rw [← h8] at h5
   exact ih m hm (by omega) a' w' hS' (by rw [h7]; exact hI')
def flagsB : Array Bool → List Sg → Array Bool
 | l, [] => l
 | l, .one (i, _, _) :: r => flagsB (l.setIfInBounds i true) r
 | l, .two i j _ _ :: r => flagsB ((l.setIfInBounds i true).setIfInBounds j true) r
def okPre (ops : Array Oper) : Array Bool → List Sg → Bool
 | _, [] => true
 | l, .one (i, true, _) :: r => Region.free .any ops l i && (Region.ready .any ops l).contains i && okPre ops (l.setIfInBounds i true) r
 | _, _ => false
theorem pre_held (hsel : Region.noSelect ops = true) {Q0 : Exit → Act → World → Prop} {n : Nat} : ∀ (σ : List Sg) (l : Array Bool) (a : Act) (w : World), okPre ops l σ = true → S w → (∀ a w, S w → Q0 .normal a w → wpAnyH P .any ops (np Q) S n (flagsB l σ) a w) → Sched P ops Q0 S σ a w →
  wpAnyH P .any ops (np Q) S (n + cost σ) l a w := by
 intro σ
 induction σ with
 | nil => intro l a w _ hS hf h; exact hf a w hS h
 | cons x r ih =>
  intro l a w hok hS hf h
  cases x with
  | two i j N M => simp [okPre] at hok
  | one x =>
   obtain ⟨i, b, N⟩ := x
   cases b with
   | false => simp [okPre] at hok
   | true =>
    obtain ⟨o, v, ho, rfl, hy, h⟩ := h
    simp only [okPre, Bool.and_eq_true] at hok
    exact wpAnyH_take ho hsel hok.1.1 hok.1.2 (fun _ _ _ hp => hp) hy hS (ih _ _ _ hok.2 hS hf h)
theorem wp_region_pool {id : Nat} {a : Act} {w : World} (I : Nat → Act → World → Prop) (σ0 : List Sg) (L0 : List Itm) (nodes : List Pn) (n0 : Pn) (L : List (Nat × List (SOp × Nat))) (lf : Array Bool) (kf : Nat) (σ1 : List Sg) (L1 : List Itm) (S : World → Prop) (hm : P.follows .mixedOrders = true)
  (hok : (Region.noSelect ops && okPre ops (Array.replicate ops.size false) σ0 && (flagsB (Array.replicate ops.size false) σ0 == n0.fl) && (ops.size == cntF n0.fl + cost σ0) && (cntF lf == cost σ1) && okS ops lf σ1 && dstsOk ops σ0 && dstsOk ops σ1) = true)
  (hn0 : n0 ∈ nodes) (hall : nodes.all (okNode ops nodes lf kf) = true) (hL0 : strips ops σ0 = some L0) (hL : stripP ops nodes = some L) (hL1 : strips ops σ1 = some L1) (hS : S w.drew)
  (h0 : SL P (endI (I n0.key)) S L0 a w.drew) (hs : PSteps P S I L) (h1 : ∀ a w, S w → I kf a w → SL P Q S L1 a w) : (Code.region id ops true).wp P Q a w := by
 simp only [Bool.and_eq_true, beq_iff_eq] at hok
 obtain ⟨⟨⟨⟨⟨⟨⟨q1, q2⟩, q3⟩, q4⟩, q5⟩, q6⟩, q7⟩, q8⟩ := hok
 refine np_mono (wp_region_held (S := S) hm ?_)
 rw [q4] at *
 have key := pre_held (P := P) (S := S) (Q := Q) (n := cntF n0.fl) q1 σ0 (Array.replicate (cntF n0.fl + cost σ0) false) a w.drew (by rw [← q4] at q2 ⊢; exact q2) hS (Q0 := endI (I n0.key)) (fun a' w' hS' hq => by
  have e : flagsB (Array.replicate (cntF n0.fl + cost σ0) false) σ0 = n0.fl := q3
  rw [e]
  refine pool_held hall hL hs (fun a'' w'' hS'' hI => ?_) _ n0 hn0 rfl a' w' hS' hq.2
  rw [q5]
  exact sched_held q1 σ1 lf a'' w'' q6 hS'' (sl_sched σ1 L1 a'' w'' hL1 q8 (h1 a'' w'' hS'' hI))) (sl_sched σ0 L0 a _ hL0 q7 h0)
 exact key
end
end Go.Proofs.YticnjkdaccacaaaGreat.Sx
end
section
namespace Go.Proofs.YticnjkdaccacaaaGreat.Sx
open Go Go.RowKit Base Oq Disk
def parse : Nat → List Int → List (List Int × Nat)
 | 0, _ => []
 | k + 1, b => match Frames.get b with
  | none => []
  | some (r, m) => (r, m) :: parse k (b.drop (m * 64))
def secs (l : List (List Int × Nat)) : Nat := (l.map (·.2)).sum
theorem secs_snoc (l : List (List Int × Nat)) (p : List Int × Nat) : secs (l ++ [p]) = secs l + p.2 := by unfold secs; simp
section
variable {w w0 : World} {R : List Asn}
theorem wli_yields {P : Program} {ops : Array Oper} {Q : Exit → Act → World → Prop} {N n : Nat} {a : Act} {L : Env} {o : Oper} {rest : List Oper} {d lp : Nat} {x : Operand} {vs : List Value} {c : Call} {fn : FuncId} {tmps : Array Value} {assign body : Code} {I : World → Prop} (fr : Fr N a L) (hw : wantL ops L o = some true) (hd : o.dst = some d) (hlt : Nat.blt d N = true) (ho : o.op = .call c) (hc : c.callee = .value x)
  (hx : ev L x = some (.func (.yield lp) #[] #[])) (hxs : evs L c.args.toList = some vs) (hy : (Instr.yield lp vs.toArray).run P w = .ok (.round lp fn tmps assign body) w)
  (hR : RoundIn Fence.wide (n - 1) P lp fn tmps assign body w fun e w' => e = .returned (.bool true) ∧ I w') (h : ∀ w', I w' → ∀ a', Fr N a' ((d, .bool true) :: L) → wpListIn Fence.wide n P ops Q rest a' w') : wpListIn Fence.wide n P ops Q (o :: rest) a w := by
 have e : c.args.map a.eval = vs.toArray := by
  apply Array.toList_inj.1
  rw [Array.toList_map, (evs_run fr hxs).1]
 have hrun : (execOp a.eval o).run P w = .ok (.round lp fn tmps assign body) w := by
  unfold execOp
  simp only [ho, resolve, hc, (fr.ev hx).1, Deferred.ofValue]
  rw [Sem.run_bind, Sem.run_pure, Result.andThen_ok]
  simp only [invoke, e]
  simpa using hy
 unfold wpListIn
 rw [wantL_run fr hw, if_pos rfl]
 refine ⟨fun _ _ => trivial, ?_⟩
 show o.uponIn Fence.wide n P a _ Q ((execOp a.eval o).run P w)
 rw [hrun]
 refine ⟨(fun hh => by cases hh), hR.mono ?_⟩
 rintro e' w' ⟨rfl, hI⟩
 show wpListIn Fence.wide n P ops Q rest (a.put o.dst (.bool true)) w'
 rw [hd]
 exact h w' hI _ (fr.put (blt_lt hlt) rfl)
theorem get_len {b r : List Int} {m : Nat} (h : Frames.get b = some (r, m)) : m = Frames.nsec r.length ∧ 1 ≤ m ∧ m * 64 ≤ b.length ∧ r.length ≤ 16384 := by
 obtain ⟨h1, h2, _, h4, _⟩ := Frames.get_some h
 exact ⟨h1, by rw [h1]; unfold Frames.nsec; omega, h4, h2⟩
theorem get_call {A : Option Addr} {c : Nat} {b : List Int} (rk : Rk .u8 w A b) (hc : b.length ≤ c) (hl : b.length ≤ 100000000) (S : Sat w0 w R) :
  Calls Tryz.prog 100 #[.slice A b.length c] w fun e w' => (Frames.get b = none → e = .returned (.tuple #[.slice none 0 0, .int .i64 0, .int .i64 4]) ∧ Sat w0 w' R) ∧
   ∀ r m, Frames.get b = some (r, m) → ∃ A' c', e = .returned (.tuple #[.slice A' r.length c', .int .i64 m, .int .i64 0]) ∧ vok (.tuple #[.slice A' r.length c', .int .i64 m, .int .i64 0]) = true ∧ Sat w0 w' (ownA .u8 5 A' c' r :: R) := by
 refine (Frames.get_any A c b w hl (bts_rk rk) rk.rd hc).mono ?_
 rintro e w' ⟨h1, h2⟩
 refine ⟨fun hn => ?_, fun r m hg => ?_⟩
 ·rw [hn] at h1
  exact ⟨h1, S.new h2⟩
 ·rw [hg] at h1
  obtain ⟨v, rfl, h3⟩ := h1
  obtain ⟨g1, _, g3, g4, g5⟩ := Frames.get_some hg
  obtain ⟨A', c', rfl, h5, h6⟩ := S.row h2 h3 (bts_wf (fun z hz => by rw [g5] at hz; exact bts_rk rk z (List.mem_of_mem_drop (List.mem_of_mem_take hz))))
  refine ⟨A', c', rfl, ?_, h6⟩
  have h7 : vokC (.slice A' r.length c') = true := h5
  have h8 : vokC (.int .i64 (m : Int)) = true := vok_small (by
   have := (get_len hg).1
   unfold Frames.nsec at this
   omega)
  show [_, _, _].all vokC = true
  rw [List.all_cons, List.all_cons, h7, h8]; rfl
theorem found_iter {M : List Asn} {bx lp : Nat} {A0 : Option Addr} {c0 : Nat} {all : List Int} {rec : Loop} (Z : List (List Int × Nat) → Asn) (hl : all.length ≤ 1000000) (hps : rec.params.size = 2)
  (S : Sat w0 w (Z [] :: objA (.loop rec) lp :: stA 92 bx [.slice A0 all.length c0] :: ownA .u8 5 A0 c0 all :: M))
  (hround : ∀ (w : World) (l : List (List Int × Nat)) (r : List Int) (m : Nat) (A : Option Addr) (c : Nat) (M : List Asn), vok (.slice A r.length c) = true → l.length ≤ 1000000 → secs l + m ≤ 1000000 → Sat w0 w (ownA .u8 5 A c r :: Z l :: objA (.loop rec) lp :: M) →
   RoundIn Fence.wide (3 - 1) Tryz.prog lp rec.fn ((rec.params.zip #[Value.slice A r.length c, Value.int .i64 m]).foldl (fun tmps (t, a) => tmps.setIfInBounds t a) rec.tmps) rec.assign rec.body w fun e w' => e = .returned (.bool true) ∧ Sat w0 w' (Z (l ++ [(r, m)]) :: objA (.loop rec) lp :: M)) :
  Calls Tryz.prog 99 #[.func (.yield lp) #[] #[], .pointer (some ⟨bx, 0, none⟩)] w fun e w' => e = .returned (.tuple #[]) ∧ ∃ v, Sat w0 w' (Z (parse (all.length + 1) all) :: objA (.loop rec) lp :: stA 92 bx [v] :: ownA .u8 5 A0 c0 all :: M) := by
 refine calls_start (N := 25) [.func (.yield lp) #[] #[], .pointer (some ⟨bx, 0, none⟩)] Tryz.func99 rfl rfl rfl rfl fun a fr => ?_
 obtain ⟨n, hn⟩ : ∃ n, n = parse (all.length + 1) all := ⟨_, rfl⟩
 rw [← hn]
 refine wp_block ?_
 refine cw_loop (fun q a w => ∃ (l : List (List Int × Nat)) (b : List Int) (A1 : Option Addr) (c1 : Nat), b.length < q ∧ l ++ parse q b = n ∧ secs l * 64 + b.length = all.length ∧ l.length ≤ secs l ∧ (∀ w, Rk .u8 w A0 all → Rk .u8 w A1 b) ∧ (b.length ≤ c1 ∧ c1 ≤ maxLen) ∧
   Fr 25 a [(0, .func (.yield lp) #[] #[]), (1, .pointer (some ⟨bx, 0, none⟩))] ∧
   Sat w0 w (Z l :: objA (.loop rec) lp :: stA 92 bx [.slice A1 b.length c1] :: ownA .u8 5 A0 c0 all :: M)) (all.length + 1)
  ⟨[], all, A0, c0, by omega, by rw [hn]; rfl, by simp [secs], Nat.zero_le _, fun _ h => h, (S.frontAt 3 rfl).own.2, fr.sub ⟨rfl, rfl, trivial⟩, S⟩ ?_ ?_
 ·rintro a w ⟨l, b, A1, c1, h, -⟩
  omega
 clear fr S
 rintro q a w ⟨l, b, A1, c1, hq, hp, hs, hll, hrd, hmc, fr, S⟩
 refine wp_block ?_
 refine r_ rfl ?_
 refine wl_ldf oL_ (Sat.varAt S 2 rfl) fr rfl rfl rfl rfl rfl rfl rfl fun a fr => ?_
 have hG := get_call (hrd _ (Sat.ownAt S 3 rfl)) hmc.1 (by omega) S
 cases hg : Frames.get b with
 | none =>
  refine wl_call fr rfl rfl rfl rfl enGet hG ?_
  rintro _ w1 ⟨h1, -⟩
  obtain ⟨rfl, S⟩ := h1 hg
  refine ⟨_, rfl, rfl, fun a fr => ?_⟩
  refine wl_run oL_ 7 rfl fr fun a fr => ?_
  refine er_ rfl rfl ?_
  refine wl_run oL_ 9 rfl fr fun a fr => ?_
  refine eq_ rfl rfl ?_
  refine cw_t fr rfl ?_
  refine wp_ret ?_
  try simp only [Exit.then, Exit.inBlock]
  refine ret0 fr rfl ?_
  have : parse (q + 1) b = [] := by unfold parse; rw [hg]
  rw [this, List.append_nil] at hp
  rw [← hp]
  exact ⟨rfl, _, S⟩
 | some p =>
  obtain ⟨r, m⟩ := p
  obtain ⟨g1, g2, g3, g4⟩ := get_len hg
  refine wl_call fr rfl rfl rfl rfl enGet hG ?_
  rintro _ w1 ⟨-, h1⟩
  obtain ⟨A2, c2, rfl, hv, S⟩ := h1 r m hg
  refine ⟨_, rfl, hv, fun a fr => ?_⟩
  refine wl_run oL_ 7 rfl fr fun a fr => ?_
  first | refine e_ ?_ | refine wpList_nil ?_
  skip; (repeat (with_reducible refine wp_seq ?_)); refine reg_out (n := 3) ?_
  refine wli_run oL_ 6 rfl fr fun a fr => ?_
  have hlp := Sat.objAt S 2 rfl
  have hvs := fr.vok (d := 16) rfl
  have S : Sat w0 w1 (ownA .u8 5 A2 c2 r :: Z l :: objA (.loop rec) lp :: stA 92 bx [.slice A1 b.length c1] :: ownA .u8 5 A0 c0 all :: M) := S
  refine wli_yields (vs := [.slice A2 r.length c2, .int .i64 m]) fr rfl rfl rfl rfl rfl rfl rfl (run_yield (P := Tryz.prog) (args := #[.slice A2 r.length c2, .int .i64 m]) hlp (by rw [hps]; rfl)) (hround _ l r m A2 c2 _ hvs (by omega) (by omega) S) ?_
  intro w3 S a fr
  refine wli_run oL_ 2 rfl fr fun a fr => ?_
  refine wpListIn_nil ?_
  refine q_ rfl ?_
  refine cw_f fr rfl ?_
  refine wp_skip ?_
  repeat with_reducible refine then_n ?_
  have hb2 := Sat.varAt S 2 rfl
  refine r_ rfl ?_
  refine wl_ldf oL_ hb2 fr rfl rfl rfl rfl rfl rfl rfl fun a fr => ?_
  refine wl_run oL_ 2 rfl fr fun a fr => ?_
  have fr := fr.spell (d := 23) rfl (congrArg (Value.int .i64) (show IntKind.wrap .i64 ((m : Int) * 64) = ((m * 64 : Nat) : Int) by rw [show IntKind.wrap .i64 ((m : Int) * 64) = (m : Int) * 64 from IntWalk.i64_in _ ⟨by omega, by omega⟩]; omega))
  refine wl_drop oL_ fr rfl rfl rfl rfl rfl rfl rfl infoB rfl ⟨by omega, by omega⟩ fun a fr => ?_
  have S : Sat w0 _ (stA 92 bx [.slice A1 b.length c1] :: Z (l ++ [(r, m)]) :: objA (.loop rec) lp :: ownA .u8 5 A0 c0 all :: M) := S.frontAt 2 rfl
  refine wl_stv oL_ fr rfl rfl rfl rfl rfl rfl rfl rfl S ?_
  intro w4 S
  have S : Sat w0 _ (Z (l ++ [(r, m)]) :: objA (.loop rec) lp :: stA 92 bx [.slice (dropA A1 c1 (Int.toNat ((m * 64 : Nat) : Int))) (b.drop (Int.toNat ((m * 64 : Nat) : Int))).length (c1 - Int.toNat ((m * 64 : Nat) : Int))] :: ownA .u8 5 A0 c0 all :: M) := ((S.frontAt 1 rfl).frontAt 2 rfl).frontAt 1 rfl
  rw [Int.toNat_natCast] at S
  first | refine e_ ?_ | refine wpList_nil ?_
  (repeat (first | (with_reducible refine then_n ?_) | (with_reducible refine blk_n ?_) | (with_reducible refine ng_n ?_)))
  have hgo : parse (q + 1) b = (r, m) :: parse q (b.drop (m * 64)) := by
   conv => lhs; unfold parse
   rw [hg]
  rw [hgo] at hp
  have hdl : (b.drop (m * 64)).length = b.length - m * 64 := List.length_drop
  have hse := secs_snoc l (r, m)
  exact ⟨l ++ [(r, m)], b.drop (m * 64), dropA A1 c1 (m * 64), c1 - m * 64, by omega, by rw [List.append_assoc]; exact hp, by rw [hse, hdl]; simp only; omega, by rw [hse]; simp only [List.length_append, List.length_singleton]; omega, fun w hw => (hrd w hw).drop hmc.1, ⟨by omega, by omega⟩, fr.sub ⟨rfl, rfl, trivial⟩, S⟩
theorem found_call {A : Option Addr} {n c : Nat} (hv : vok (.slice A n c) = true) (S : Sat w0 w R) :
  Calls Tryz.prog 83 #[.slice A n c] w fun e w' => ∃ bx, e = .returned (.func (.func 99) #[] #[.pointer (some ⟨bx, 0, none⟩)]) ∧ Sat w0 w' (stA 92 bx [.slice A n c] :: R) := by
 refine calls_start (N := 4) [.slice A n c] Tryz.func83 rfl rfl rfl (vok_c hv rfl) fun a fr => ?_
 refine r_ rfl ?_
 refine wl_boxv fr rfl rfl rfl rfl rfl rfl S ?_
 intro w1 bx S a fr
 refine wl_val (v := .nilFunc) fr rfl rfl rfl rfl rfl fun a fr => ?_
 refine er_ rfl rfl ?_
 refine wl_makef (xs := [.pointer (some ⟨bx, 0, none⟩)]) fr rfl rfl rfl rfl rfl ?_
 intro a fr
 refine wl_run oL_ 1 rfl fr fun a fr => ?_
 first | refine e_ ?_ | refine wpList_nil ?_
 refine wp_ret ?_
 refine ret1 fr rfl rfl ?_
 exact ⟨bx, rfl, S⟩
end
def orcE : Orc := ⟨[(92, .slice 5), (9, .string), (4, .bool)], []⟩
theorem oE_ : orcE.Ok Tryz.prog := ⟨⟨Tryz.underlying92, Tryz.underlying9, Tryz.underlying4, trivial⟩, trivial⟩
section
variable {w w0 : World} {R : List Asn}
theorem conv_exec {N : Nat} {a : Act} {L : Env} {Df : List Deferred} (fr : FrD Df N a L) {o : Oper} {x : Operand} {A : Option Addr} {n c : Nat} {l : List Int} (ho : o.op = .convert 92 9 x) (hx : ev L x = some (.slice A n c)) (hn : n = l.length) (rk : Rk .u8 w A l) :
  (execOp a.eval o).run Tryz.prog w = .ok (.value (.string (strOfNums l))) w := by
 subst hn
 unfold execOp
 simp only [ho, (fr.ev hx).1]
 rw [Sem.run_bind, Bytes.conv_str Tryz.prog w 92 5 Tryz.underlying92 Tryz.underlying5 A l.length c l rfl rk.rd 9 Tryz.underlying9]
 rfl
theorem str_eq {a b : List Int} (ha : Bytes.Bts a) (hb : Bytes.Bts b) : ((strOfNums a).toList == (strOfNums b).toList) = decide (a = b) := by
 by_cases h : a = b
 ·subst h; simp
 ·rw [decide_eq_false h]
  have : ¬ (strOfNums a).toList = (strOfNums b).toList := fun e => h (Bytes.str_inj a b ha hb (by
   have e1 : (strOfNums a).toList = (strOfNums a).data.toList := ByteArray.toList_eq _
   have e2 : (strOfNums b).toList = (strOfNums b).data.toList := ByteArray.toList_eq _
   rw [e1, e2] at e
   exact ByteArray.ext (Array.toList_inj.1 e)))
  simpa using this
theorem equal_call {A B : Option Addr} {ca cb : Nat} {a b : List Int} (ra : Rk .u8 w A a) (rb : Rk .u8 w B b) (ma : a.length ≤ ca ∧ ca ≤ maxLen) (mb : b.length ≤ cb ∧ cb ≤ maxLen) :
  Calls Tryz.prog 84 #[.slice A a.length ca, .slice B b.length cb] w fun e w' => e = .returned (.bool (decide (a = b))) ∧ w' = w := by
 refine calls_start (N := 10) [.slice A a.length ca, .slice B b.length cb] Tryz.func84 rfl rfl rfl (vok_c (vok_sl ma) (vok_c (vok_sl mb) rfl)) fun a fr => ?_
 refine r_ rfl ?_
 refine wl_run oE_ 1 rfl fr fun a fr => ?_
 refine er_ rfl rfl ?_
 refine wl_run oE_ 1 rfl fr fun a fr => ?_
 refine wl_val fr rfl rfl rfl (conv_exec fr rfl rfl rfl ra) rfl fun a fr => ?_
 refine wl_run oE_ 1 rfl fr fun a fr => ?_
 refine wl_val fr rfl rfl rfl (conv_exec fr rfl rfl rfl rb) rfl fun a fr => ?_
 refine wl_run oE_ 2 rfl fr fun a fr => ?_
 first | refine e_ ?_ | refine wpList_nil ?_
 refine wp_ret ?_
 refine ret1 fr rfl rfl ?_
 exact ⟨congrArg (fun b => Ending.returned (.bool b)) (str_eq ra.bytes rb.bytes), rfl⟩
end
section
variable {P : Program} {T : Orc} {ops : Array Oper} {Q : Exit → Act → World → Prop} {Df : List Deferred} {N : Nat} {a : Act} {w w0 : World} {L : Env} {R : List Asn}
theorem wl_recapp {o1 o2 : Oper} {rest : List Oper} {t eo ei : TypeId} {bytes d1 d2 n1 n c c1 : Nat} {x y : Operand} {A A1 : Option Addr} {l : List Int} {ls : List (List Int)} (ht : P.underlying t = some (.slice eo)) (hi : (P.info? eo).map (fun i => (i.zero.isSome, i.size)) = some (true, 1)) (hinfo : (P.info? eo).map (fun i => (i.zero.map (·.cells.size), i.size, i.bytes)) = some (some 1, 1, bytes)) (hby : bytes ≤ 64) (fr : FrD Df N a L)
  (hw1 : o1.guard = none) (ho1 : o1.op = .buildSlice t 1 #[(0, x)]) (hd1 : o1.dst = some d1) (hl1 : Nat.blt d1 N = true) (hw2 : o2.guard = none) (ho2 : o2.op = .call { callee := .builtin .append, args := #[y, .tmp d1], argTypes := #[t, t] }) (hd2 : o2.dst = some d2) (hl2 : Nat.blt d2 N = true)
  (hx : ev L x = some (.slice A1 n1 c1)) (hn1 : n1 = l.length) (hy : ∀ v, ev ((d1, v) :: L) y = some (.slice A n c)) (hn : n = ls.length) (hb : ls.length ≤ 1000000000) (hf : L.lookup d1 = none) (S : Sat w0 w (ownA .u8 ei A1 c1 l :: recsA .u8 eo ei A c ls :: R))
  (h : ∀ w' A' c', Sat w0 w' (recsA .u8 eo ei A' c' (ls ++ [l]) :: R) → ∀ a', FrD Df N a' ((d2, .slice A' (ls ++ [l]).length c') :: L) → wpList P ops Q rest a' w') : wpList P ops Q (o1 :: o2 :: rest) a w := by
 subst hn1 hn
 have hg : ∀ {o : Oper} {L : Env}, o.guard = none → wantL ops L o = some true := fun h => by unfold wantL; rw [h]
 obtain ⟨⟨rs, rfl⟩, S⟩ := (S.frontAt 1 rfl).ofEx
 have S := S.ofSep
 have hlen : (rs.map (·.2.2)).length = rs.length := List.length_map ..
 rw [hlen] at hb hy
 have hv1 := (fr.ev hx).2
 refine wl_val fr (hg hw1) hd1 hl1 (one_cell_exec fr ho1 hx rfl ht hi) (vok_sl ⟨Nat.le_refl _, by decide⟩) fun a1 fr1 => ?_
 have S := S.alloc (.cells #[.slice A1 l.length c1] eo)
 obtain ⟨A', c', w', h1, h2, h3⟩ := rws_app_exec (r := (A1, c1, l)) ht hinfo hby fr1 ho2 (hy _) rfl (by show ((d1, _) :: L).lookup d1 = _; rw [lookup_cons, if_pos rfl]) (by rw [cell_of_row _ _ _ _ _ _ (heap_alloc_new _ _)]; rfl) hv1 hb S
 refine wl_val fr1 (hg hw2) hd2 hl2 h1 h2 fun a2 fr2 => ?_
 have hl : (rs.map (·.2.2) ++ [l]).length = (rs ++ [(A1, c1, l)]).length := by simp
 rw [← hl] at fr2
 refine h w' A' c' ?_ a2 (fr2.skip2 hf)
 have h4 : Sat w0 w' (rwsA eo A' c' (rs ++ [(A1, c1, l)]) :: ownA .u8 ei A1 c1 l :: allA (rs.reverse.map fun r => ownA .u8 ei r.1 r.2.1 r.2.2) :: R) := by
  have := h3.frontAt 2 rfl
  exact this.frontAt 1 rfl
 have h5 : Sat w0 w' (ownA .u8 ei A1 c1 l :: allA (rs.reverse.map fun r => ownA .u8 ei r.1 r.2.1 r.2.2) :: rwsA eo A' c' (rs ++ [(A1, c1, l)]) :: R) := (h4.frontAt 2 rfl).frontAt 2 rfl
 have h6 := h5.toSep
 have h7 : Sat w0 w' (rwsA eo A' c' (rs ++ [(A1, c1, l)]) :: allA ((rs ++ [(A1, c1, l)]).reverse.map fun r => ownA .u8 ei r.1 r.2.1 r.2.2) :: R) := by
  rw [List.reverse_append]
  exact h6.frontAt 1 rfl
 exact Sat.toEx (f := fun q : { q : List Rw // q.map (·.2.2) = rs.map (·.2.2) ++ [l] } => sepA (rwsA eo A' c' q.1) (allA (q.1.reverse.map fun r => ownA .u8 ei r.1 r.2.1 r.2.2))) ⟨rs ++ [(A1, c1, l)], by simp⟩ h7.toSep
theorem results_cct {fn : Func} (hT : T.Ok P) {t1 t2 t3 : Nat} {y1 y2 : TypeId} {e1 e2 : TypeDesc} {p1 p2 : Addr} {v1 v2 v3 : Value} (hr : fn.results = #[.cell t1 y1, .cell t2 y2, .tmp t3]) (fr : FrD Df N a L) (h1 : L.lookup t1 = some (.pointer (some p1))) (h2 : L.lookup t2 = some (.pointer (some p2))) (h3 : L.lookup t3 = some v3)
  (u1 : T.ty.lookup y1 = some e1) (a1 : aggD e1 = false) (u2 : T.ty.lookup y2 = some e2) (a2 : aggD e2 = false) (c1 : w.cell? p1 = some v1) (c2 : w.cell? p2 = some v2) : (results fn a.tmps).run P w = .ok (.tuple #[v1, v2, v3]) w := by
 have g1 : a.tmps[t1]?.getD undef = .pointer (some p1) := by rw [(fr.get _ _ h1).1]; rfl
 have g2 : a.tmps[t2]?.getD undef = .pointer (some p2) := by rw [(fr.get _ _ h2).1]; rfl
 have g3 : a.tmps[t3]?.getD undef = v3 := by rw [(fr.get _ _ h3).1]; rfl
 simp [results, hr, g1, g2, g3, loadVar, asAddr, isAgg_run (hT.und u1), isAgg_run (hT.und u2), a1, a2, run_load, c1, c2]
end
def found (D : Dk) : List (List Int × Nat) := parse (D.seen.flatten.length + 1) D.seen.flatten
def recsD (D : Dk) : List (List Int) := (found D).map (·.1)
def atD (D : Dk) : Nat := secs (found D)
def clr (all : List Int) : Nat → Nat → Dk → Dk
 | 0, _, D => D
 | k + 1, i, D => clr all k (i + 1) (if (all.drop (i * 64)).take 64 = List.replicate 64 0 then D else D.writeR i (List.replicate 64 0))
def openD (D : Dk) : Dk := (clr D.seen.flatten (D.seen.length - atD D) (atD D) D).sync
theorem zeroLP : ∀ W, (zeroValue 73).run Tryz.prog W = .ok (.pointer none) W := fun _ => by kernel_rfl
theorem zeroRS : ∀ W, (zeroValue 124).run Tryz.prog W = .ok (.slice none 0 0) W := fun _ => by kernel_rfl
theorem litRi : (Tryz.prog.info? 92).map (fun i => (i.zero.isSome, i.size)) = some (true, 1) := by kernel_rfl
theorem litRj : (Tryz.prog.info? 92).map (fun i => (i.zero.map (·.cells.size), i.size, i.bytes)) = some (some 1, 1, 24) := by kernel_rfl
theorem flat_len {l : List (List Int)} (h : ∀ p ∈ l, Pc p) : l.flatten.length = l.length * 64 := by
 induction l with
 | nil => rfl
 | cons p l ih =>
  rw [List.flatten_cons, List.length_append, ih (fun q hq => h q (List.mem_cons_of_mem _ hq)), (h p List.mem_cons_self).1, List.length_cons]
  omega
def zA (b3 b2 g d : Nat) (l : List (List Int × Nat)) : Asn :=
 exA fun p : Option Addr × Nat => sepA (stA 124 b3 [.slice p.1 (l.map (·.1)).length p.2]) (sepA (recsA .u8 92 5 p.1 p.2 (l.map (·.1))) (sepA (stA 73 b2 [.pointer (some ⟨g, 0, none⟩)]) (logA g d (secs l))))
theorem Sat.openZ {w w0 : World} {R : List Asn} {b3 b2 g d : Nat} {l : List (List Int × Nat)} (S : Sat w0 w (zA b3 b2 g d l :: R)) : ∃ A c, Sat w0 w (stA 124 b3 [.slice A (l.map (·.1)).length c] :: recsA .u8 92 5 A c (l.map (·.1)) :: stA 73 b2 [.pointer (some ⟨g, 0, none⟩)] :: logA g d (secs l) :: R) := by
 obtain ⟨p, S⟩ := S.ofEx
 have S := (S.ofSep.frontAt 1 rfl).ofSep
 have S := (S.frontAt 1 rfl).ofSep
 have S : Sat w0 w (stA 124 b3 [.slice p.1 (l.map (·.1)).length p.2] :: recsA .u8 92 5 p.1 p.2 (l.map (·.1)) :: stA 73 b2 [.pointer (some ⟨g, 0, none⟩)] :: logA g d (secs l) :: R) := (S.frontAt 2 rfl).frontAt 3 rfl
 exact ⟨_, _, S⟩
theorem Sat.shutZ {w w0 : World} {R : List Asn} {b3 b2 g d : Nat} {l : List (List Int × Nat)} {A : Option Addr} {c : Nat} (S : Sat w0 w (stA 124 b3 [.slice A (l.map (·.1)).length c] :: recsA .u8 92 5 A c (l.map (·.1)) :: stA 73 b2 [.pointer (some ⟨g, 0, none⟩)] :: logA g d (secs l) :: R)) : Sat w0 w (zA b3 b2 g d l :: R) := by
 have S1 : Sat w0 w (stA 73 b2 [.pointer (some ⟨g, 0, none⟩)] :: logA g d (secs l) :: recsA .u8 92 5 A c (l.map (·.1)) :: stA 124 b3 [.slice A (l.map (·.1)).length c] :: R) := ((S.frontAt 1 rfl).frontAt 3 rfl).frontAt 3 rfl
 have S2 := (S1.toSep.frontAt 1 rfl).toSep
 have S3 := (S2.frontAt 1 rfl).toSep
 exact Sat.toEx (f := fun p : Option Addr × Nat => sepA (stA 124 b3 [.slice p.1 (l.map (·.1)).length p.2]) (sepA (recsA .u8 92 5 p.1 p.2 (l.map (·.1))) (sepA (stA 73 b2 [.pointer (some ⟨g, 0, none⟩)]) (logA g d (secs l))))) (A, c) S3
theorem take_flat {l : List (List Int)} {i : Nat} (hi : i < l.length) : (l.take i).flatten ++ l.getD i [] = (l.take (i + 1)).flatten := by
 rw [List.take_succ_eq_append_getElem hi, List.flatten_append, List.getD_eq_getElem?_getD, List.getElem?_eq_getElem hi]; simp
theorem writeR_len (D : Dk) (x : Int) (b : List Int) : (D.writeR x b).seen.length = D.seen.length := by
 unfold Dk.writeR
 split
 ·simp [Dk.write]
 ·rfl
theorem parse_facts : ∀ (k : Nat) (b : List Int), secs (parse k b) * 64 ≤ b.length ∧ (parse k b).length ≤ secs (parse k b) := by
 intro k
 induction k with
 | zero => intro b; exact ⟨by simp [parse, secs], Nat.zero_le _⟩
 | succ k ih =>
  intro b
  unfold parse
  cases h : Frames.get b with
  | none => exact ⟨by simp [secs], Nat.zero_le _⟩
  | some p =>
   obtain ⟨r, m⟩ := p
   obtain ⟨_, h2, h3, _⟩ := get_len h
   obtain ⟨i1, i2⟩ := ih (b.drop (m * 64))
   rw [List.length_drop] at i1
   have e : secs ((r, m) :: parse k (b.drop (m * 64))) = m + secs (parse k (b.drop (m * 64))) := by unfold secs; simp
   simp only
   rw [e, List.length_cons]
   exact ⟨by omega, by omega⟩
section
variable {w w0 : World} {d : Nat} {D : Dk} {R : List Asn}
theorem open_call (S : Sat w0 w (diskA d D :: R)) (hwt : D.waits.length ≤ 100000000) :
  Calls Tryz.prog 50 #[.pointer (some ⟨d, 0, none⟩)] w fun e w' => ∃ g A c, e = .returned (.tuple #[.pointer (some ⟨g, 0, none⟩), .slice A (recsD D).length c, .int .i64 0]) ∧ vok (.tuple #[.pointer (some ⟨g, 0, none⟩), .slice A (recsD D).length c, .int .i64 0]) = true ∧
   Sat w0 w' (logA g d (atD D) :: recsA .u8 92 5 A c (recsD D) :: diskA d (openD D) :: R) := by
 have hok := disk_seen S
 have hm := hok.most
 have hpos := hok.pos
 have hfl := flat_len hok.seen
 obtain ⟨n, hn⟩ : ∃ n, n = D.seen.length := ⟨_, rfl⟩
 obtain ⟨all, hall⟩ : ∃ all, all = D.seen.flatten := ⟨_, rfl⟩
 obtain ⟨hp1, hp2⟩ := parse_facts (all.length + 1) all
 have hfd : found D = parse (all.length + 1) all := by unfold found; rw [hall]
 have hat : atD D = secs (parse (all.length + 1) all) := by unfold atD; rw [hfd]
 have hatn : atD D ≤ n := by rw [hat]; rw [← hall, ← hn] at hfl; omega
 refine calls_marks (N := 83) [.pointer (some ⟨d, 0, none⟩)] Tryz.func50 rfl rfl rfl (vok_c rfl rfl) fun a fr => ?_
 refine r_ rfl ?_
 refine wl_allocv (v := .pointer none) fr rfl rfl rfl rfl zeroLP rfl rfl S ?_
 intro w1 b2 S a fr
 refine wl_allocv (v := .slice none 0 0) fr rfl rfl rfl rfl zeroRS rfl rfl S ?_
 intro w2 b3 S a fr
 refine wl_run oL_ 1 rfl fr fun a fr => ?_
 refine er_ rfl rfl ?_
 refine wl_run oL_ 1 rfl fr fun a fr => ?_
 refine wl_call fr rfl rfl rfl rfl enSize (disk_size (S.frontAt 2 rfl)) ?_
 rintro _ w ⟨rfl, hw⟩
 subst hw
 refine ⟨_, rfl, vok_small hm, fun a fr => ?_⟩
 rw [← hn] at fr
 refine wl_run oL_ 1 rfl fr fun a fr => ?_
 first | refine e_ ?_ | refine wpList_nil ?_
 have fr := fr.bool (d := 15) rfl (show ((n : Int) == 0) = false by simp; omega)
 refine q_ rfl ?_
 refine cw_f fr rfl ?_
 refine wp_skip ?_
 refine r_ rfl ?_
 refine wl_run oL_ 1 rfl fr fun a fr => ?_
 refine er_ rfl rfl ?_
 refine wl_run oL_ 1 rfl fr fun a fr => ?_
 refine wl_call fr rfl rfl rfl rfl enSize (disk_size (S.frontAt 2 rfl)) ?_
 rintro _ w ⟨rfl, hw⟩
 subst hw
 refine ⟨_, rfl, vok_small hm, fun a fr => ?_⟩
 rw [← hn] at fr
 refine wl_run oL_ 1 rfl fr fun a fr => ?_
 first | refine e_ ?_ | refine wpList_nil ?_
 have S := S.nilRow .u8 5
 refine q_ rfl ?_
 refine wp_block ?_
 refine cw_loop (fun q a w => ∃ (i : Nat) (A : Option Addr) (c : Nat), i + q = n + 1 ∧ i ≤ n ∧
   Fr 83 a [(0, .pointer (some ⟨d, 0, none⟩)), (2, .pointer (some ⟨b2, 0, none⟩)), (3, .pointer (some ⟨b3, 0, none⟩)), (5, .slice A ((D.seen.take i).flatten).length c), (17, .int .i64 (n : Int)), (18, .int .i64 (i : Int))] ∧
   Sat w0 w (ownA .u8 5 A c ((D.seen.take i).flatten) :: stA 124 b3 [.slice none 0 0] :: stA 73 b2 [.pointer none] :: diskA d D :: R)) (n + 1)
  ⟨0, none, 0, by omega, by omega, fr.sub ⟨rfl, rfl, rfl, rfl, rfl, rfl, trivial⟩, S⟩ ?_ ?_
 ·rintro a w ⟨i, A, c, h, h', -⟩
  omega
 clear fr S
 rintro q a w ⟨i, A, c, hi, hi', fr, S⟩
 refine r_ rfl ?_
 refine wl_run oL_ 1 rfl fr fun a fr => ?_
 first | refine e_ ?_ | refine wpList_nil ?_
 by_cases hlt : i < n
 ·have fr := fr.bool (d := 19) rfl (decide_eq_true (show (i : Int) < (n : Int) by omega))
  refine q_ rfl ?_
  refine cw_t fr rfl ?_
  refine wp_skip ?_
  refine q_ rfl ?_
  refine wp_block ?_
  refine r_ rfl ?_
  refine wl_run oL_ 2 rfl fr fun a fr => ?_
  refine er_ rfl rfl ?_
  refine wl_run oL_ 2 rfl fr fun a fr => ?_
  have S : Sat w0 w (diskA d D :: ownA .u8 5 A c ((D.seen.take i).flatten) :: stA 124 b3 [.slice none 0 0] :: stA 73 b2 [.pointer none] :: R) := S.frontAt 3 rfl
  refine wl_call fr rfl rfl rfl rfl enRead (disk_read S (x := (i : Int)) ⟨by omega, by omega⟩) ?_
  rintro _ w1 ⟨A1, c1, rfl, hv, S⟩
  refine ⟨_, rfl, hv, fun a fr => ?_⟩
  refine wl_run oL_ 5 rfl fr fun a fr => ?_
  first | refine e_ ?_ | refine wpList_nil ?_
  have hk := Sat.ownAt S 0 rfl
  rw [Int.toNat_natCast] at hk S fr
  have hb1 : ((D.seen.take i).flatten).length ≤ 1000000 := by
   rw [flat_len (fun p hp => hok.seen p (List.mem_of_mem_take hp)), List.length_take]; omega
  have hb2 : (D.seen.getD i []).length = 64 := (seen_pc hok (by omega)).1
  have S : Sat w0 w1 (ownA .u8 5 A c ((D.seen.take i).flatten) :: ownA .u8 5 A1 c1 (D.seen.getD i []) :: diskA d D :: stA 124 b3 [.slice none 0 0] :: stA 73 b2 [.pointer none] :: R) := S.frontAt 2 rfl
  refine r_ rfl ?_
  refine wl_run oL_ 2 rfl fr fun a fr => ?_
  refine wl_app litB fr rfl rfl rfl rfl rfl rfl rfl rfl hk (by omega) S ?_
  intro w2 A2 c2 S a fr
  rw [take_flat (by omega)] at S fr
  refine wl_run oL_ 1 rfl fr fun a fr => ?_
  first | refine e_ ?_ | refine wpList_nil ?_
  (repeat (first | (with_reducible refine then_n ?_) | (with_reducible refine blk_n ?_) | (with_reducible refine ng_n ?_)))
  refine r_ rfl ?_
  refine wl_run oL_ 2 rfl fr fun a fr => ?_
  first | refine e_ ?_ | refine wpList_nil ?_
  have fr := fr.spell (d := 18) rfl (congrArg (Value.int .i64) (show IntKind.wrap .i64 ((i : Int) + 1) = ((i + 1 : Nat) : Int) by rw [show IntKind.wrap .i64 ((i : Int) + 1) = (i : Int) + 1 from IntWalk.i64_in _ ⟨by omega, by omega⟩]; omega))
  refine ⟨i + 1, A2, c2, by omega, by omega, fr.sub ⟨rfl, rfl, rfl, rfl, rfl, rfl, trivial⟩, ?_⟩
  have S := S.mask [true, false]
  exact ((S.frontAt 3 rfl).frontAt 3 rfl).frontAt 2 rfl
 have fr := fr.bool (d := 19) rfl (decide_eq_false (show ¬ (i : Int) < (n : Int) by omega))
 obtain rfl : i = n := by omega
 rw [hn, List.take_length, ← hall] at S fr
 rw [← hn] at fr
 have hal : all.length = i * 64 := by rw [hall, hfl, hn]
 refine q_ rfl ?_
 refine cw_f fr rfl ?_
 refine wp_exit ?_
 skip; (repeat (first | (with_reducible refine then_e ?_) | (with_reducible refine ng_e ?_) | (with_reducible refine blk_e (by decide) ?_))); (with_reducible refine blk_y ?_); (repeat (with_reducible refine then_n ?_))
 have S : Sat w0 w (stA 73 b2 [.pointer none] :: ownA .u8 5 A c all :: stA 124 b3 [.slice none 0 0] :: diskA d D :: R) := S.frontAt 2 rfl
 refine r_ rfl ?_
 refine wl_run oL_ 1 rfl fr fun a fr => ?_
 refine wl_build (cs := [.pointer (some ⟨d, 0, none⟩), .int .i64 0]) (L2 := [(0, .pointer (some ⟨d, 0, none⟩))]) fr rfl rfl rfl rfl (by simpa using (fr.ev (o := .tmp 31) rfl).1) (by kernel_rfl) rfl fun a fr => ?_
 refine wl_build (cs := [.pointer (some ⟨d, 0, none⟩), .int .i64 0]) (L2 := [(0, .agg #[.pointer (some ⟨d, 0, none⟩), .int .i64 0])]) fr rfl rfl rfl rfl (by simpa using (fr.ev (o := .tmp 32) rfl).1) (by kernel_rfl) rfl fun a fr => ?_
 refine wl_boxs fr rfl rfl rfl rfl rfl rfl S ?_
 intro w1 g S a fr
 have S : Sat w0 w1 (stA 73 b2 [.pointer none] :: logA g d 0 :: ownA .u8 5 A c all :: stA 124 b3 [.slice none 0 0] :: diskA d D :: R) := S.frontAt 1 rfl
 refine wl_stv oL_ fr rfl rfl rfl rfl rfl rfl rfl rfl S ?_
 intro w2 S
 refine er_ rfl rfl ?_
 refine wl_run oL_ 1 rfl fr fun a fr => ?_
 refine wl_call fr rfl rfl rfl rfl enFound (found_call (fr.vok (d := 35) rfl) S) ?_
 rintro _ w3 ⟨bx, rfl, S⟩
 refine ⟨_, rfl, rfl, fun a fr => ?_⟩
 refine eq_ rfl rfl ?_
 refine wp_block ?_
 have S := S.noRecs .u8 92 5
 have S : Sat w0 w3 (zA b3 b2 g d [] :: stA 92 bx [.slice A all.length c] :: ownA .u8 5 A c all :: diskA d D :: R) := by
  have S1 : Sat w0 w3 (stA 124 b3 [.slice none 0 0] :: recsA .u8 92 5 none 0 [] :: stA 73 b2 [.pointer (some ⟨g, 0, none⟩)] :: logA g d 0 :: stA 92 bx [.slice A all.length c] :: ownA .u8 5 A c all :: diskA d D :: R) :=
   (((S.frontAt 3 rfl).frontAt 3 rfl).frontAt 2 rfl).frontAt 5 rfl
  exact Sat.shutZ (l := []) S1
 refine cw_rangeF fr rfl enFound1 S ?_
 intro fn lp dd w4 S
 have S : Sat w0 w4 (zA b3 b2 g d [] :: objA (.loop _) lp :: stA 92 bx [.slice A all.length c] :: ownA .u8 5 A c all :: diskA d D :: objA (.deferred (some [])) dd :: R) := (((((S.frontAt 1 rfl).frontAt 5 rfl).frontAt 5 rfl).frontAt 5 rfl).frontAt 4 rfl).frontAt 5 rfl
 refine (found_iter (zA b3 b2 g d) (by omega) rfl S ?_).mono ?_
 ·intro w5 l r m A5 c5 M hv hlb hsb S
  have hvm : vok (.int .i64 (m : Int)) = true := by
   have h1 : (Lit.int .i64 (m : Int)).wf = true := by
    rw [wf_int]
    have h2 : IntKind.i64.min = -9223372036854775808 := by decide
    have h3 : IntKind.i64.max = 9223372036854775807 := by decide
    omega
   exact h1
  have fr7 := (fr.put (d := 37) (v := .slice A5 r.length c5) (by decide) hv).put (d := 38) (v := .int .i64 m) (by decide) hvm
  have hact : (a.put (some 37) (.slice A5 r.length c5)).put (some 38) (.int .i64 m) = { tmps := (#[37, 38].zip #[Value.slice A5 r.length c5, Value.int .i64 m]).foldl (fun tmps (t, a) => tmps.setIfInBounds t a) a.tmps, defers := [] } := by
   have := fr.defers
   cases a
   simp only at this
   subst this
   simp [Act.put]
  rw [hact] at fr7
  refine roundIn_of_wpIn trivial ?_
  refine wpIn_seq ?_
  refine regIn (fun _ _ h => h) (by simp) ?_
  refine wl_run oL_ 1 rfl fr7 fun a' fr => ?_
  refine wpList_nil ?_
  refine regIn (fun _ _ h => h) (by simp) ?_
  refine wl_run oL_ 1 rfl fr fun a' fr => ?_
  refine wpList_nil ?_
  have hlp := Sat.objAt S 2 rfl
  refine ⟨_, run_beginRound hlp rfl, ?_⟩
  have S : Sat w0 _ (objA (.loop _) lp :: ownA .u8 5 A5 c5 r :: zA b3 b2 g d l :: M) := S.frontAt 2 rfl
  have S := S.putLoop fun r => { r with state := .busy }
  have S : Sat w0 _ (zA b3 b2 g d l :: objA (.loop _) lp :: ownA .u8 5 A5 c5 r :: M) := S.frontAt 2 rfl
  obtain ⟨A6, c6, S⟩ := S.openZ
  refine wpIn_block ?_
  refine wpIn_seq ?_
  refine regIn (fun _ _ h => h) (by simp) ?_
  refine wl_ldf oL_ (Sat.varAt S 0 rfl) fr rfl rfl rfl rfl rfl rfl rfl fun a' fr => ?_
  refine wl_run oL_ 1 rfl fr fun a fr => ?_
  have S : Sat w0 _ (ownA .u8 5 A5 c5 r :: recsA .u8 92 5 A6 c6 (l.map (·.1)) :: stA 124 b3 [.slice A6 (l.map (·.1)).length c6] :: stA 73 b2 [.pointer (some ⟨g, 0, none⟩)] :: logA g d (secs l) :: objA (.loop _) lp :: M) := (S.frontAt 1 rfl).frontAt 5 rfl
  refine wl_recapp (t := 124) Tryz.underlying124 litRi litRj (by decide) fr rfl rfl rfl rfl rfl rfl rfl rfl rfl rfl (fun _ => rfl) rfl (by rw [List.length_map]; omega) rfl S ?_
  intro w6 A7 c7 S a6 fr
  have hmm : l.map (·.1) ++ [r] = (l ++ [(r, m)]).map (·.1) := by simp
  rw [hmm] at S fr
  have S : Sat w0 _ (stA 124 b3 [.slice A6 (l.map (·.1)).length c6] :: recsA .u8 92 5 A7 c7 ((l ++ [(r, m)]).map (·.1)) :: stA 73 b2 [.pointer (some ⟨g, 0, none⟩)] :: logA g d (secs l) :: objA (.loop _) lp :: M) := S.frontAt 1 rfl
  refine wl_stv oL_ fr rfl rfl rfl rfl rfl rfl rfl rfl S ?_
  intro w7 S
  refine wpList_nil ?_
  refine regIn (fun _ _ h => h) (by simp) ?_
  refine wl_ldf oL_ (Sat.varAt S 2 rfl) fr rfl rfl rfl rfl rfl rfl rfl fun a' fr => ?_
  refine wl_run oL_ 3 rfl fr fun a fr => ?_
  refine wl_ldf oL_ (Sat.stAt S 3 rfl (j := 1) rfl) fr rfl rfl rfl rfl rfl rfl rfl fun a fr => ?_
  refine wl_run oL_ 5 rfl fr fun a fr => ?_
  have hse : secs (l ++ [(r, m)]) = secs l + m := secs_snoc l (r, m)
  have fr := fr.spell (d := 49) rfl (congrArg (Value.int .i64) (show IntKind.wrap .i64 ((secs l : Int) + (m : Int)) = ((secs (l ++ [(r, m)]) : Nat) : Int) by rw [show IntKind.wrap .i64 ((secs l : Int) + (m : Int)) = (secs l : Int) + (m : Int) from IntWalk.i64_in _ ⟨by omega, by omega⟩, hse]; omega))
  have S : Sat w0 _ (logA g d (secs l) :: stA 124 b3 [.slice A7 ((l ++ [(r, m)]).map (·.1)).length c7] :: recsA .u8 92 5 A7 c7 ((l ++ [(r, m)]).map (·.1)) :: stA 73 b2 [.pointer (some ⟨g, 0, none⟩)] :: objA (.loop _) lp :: M) := S.frontAt 3 rfl
  refine wl_stf oL_ fr rfl rfl rfl (j := 1) rfl rfl rfl rfl rfl S rfl ?_
  intro w8 S
  refine wpList_nil ?_
  have S : Sat w0 _ (stA 124 b3 [.slice A7 ((l ++ [(r, m)]).map (·.1)).length c7] :: recsA .u8 92 5 A7 c7 ((l ++ [(r, m)]).map (·.1)) :: stA 73 b2 [.pointer (some ⟨g, 0, none⟩)] :: logA g d (secs (l ++ [(r, m)])) :: objA (.loop _) lp :: M) := ((S.frontAt 3 rfl).frontAt 3 rfl).frontAt 3 rfl
  have S := S.shutZ
  have S : Sat w0 _ (objA (.loop _) lp :: zA b3 b2 g d (l ++ [(r, m)]) :: M) := S.frontAt 1 rfl
  refine ⟨_, _, run_endRound none (Sat.objAt S 0 rfl), rfl, ?_⟩
  exact (S.putObj _).frontAt 1 rfl
 ·rintro e w5 ⟨rfl, v, S⟩
  refine ⟨⟨_, rfl⟩, Sat.objAt S 1 rfl, ?_⟩
  have S : Sat w0 _ (objA (.loop _) lp :: zA b3 b2 g d (parse (all.length + 1) all) :: stA 92 bx [v] :: ownA .u8 5 A c all :: diskA d D :: objA (.deferred (some [])) dd :: R) := S.frontAt 1 rfl
  have S := S.putLoop fun r => { r with state := .exhausted }
  refine blk_n ?_
  repeat with_reducible refine then_n ?_
  have fr : FrD [{ target := .collected dd, args := #[] }] 83 { tmps := a.tmps, defers := { target := .collected dd, args := #[] } :: a.defers } _ := ⟨fr.size, by rw [fr.defers], fr.get⟩
  rw [← hfd] at S
  have S : Sat w0 _ (zA b3 b2 g d (found D) :: diskA d D :: ownA .u8 5 A c all :: objA (.deferred (some [])) dd :: R) := (((S.frontAt 5 rfl).frontAt 4 rfl).frontAt 5 rfl).frontAt 4 rfl |> fun h => (h.mask [true, true, true, true, false, false])
  obtain ⟨A6, c6, S⟩ := S.openZ
  refine r_ rfl ?_
  refine wl_make litB fr rfl rfl rfl rfl rfl rfl ⟨by decide, by decide⟩ S ?_
  intro w6 A7 c7 S a1 fr
  have h64 : List.replicate (Int.toNat 64) (0 : Int) = List.replicate 64 0 := rfl
  rw [h64] at S fr
  refine wl_run oL_ 1 rfl fr fun a fr => ?_
  refine er_ rfl rfl ?_
  refine wl_ldf oL_ (Sat.varAt S 3 rfl) fr rfl rfl rfl rfl rfl rfl rfl fun a fr => ?_
  refine wl_run oL_ 3 rfl fr fun a fr => ?_
  refine wl_ldf oL_ (Sat.stAt S 4 rfl (j := 1) rfl) fr rfl rfl rfl rfl rfl rfl rfl fun a fr => ?_
  refine wl_run oL_ 1 rfl fr fun a fr => ?_
  first | refine e_ ?_ | refine wpList_nil ?_
  have S : Sat w0 _ (diskA d D :: ownA .u8 5 A7 c7 (List.replicate 64 0) :: ownA .u8 5 A c all :: stA 124 b3 [.slice A6 (recsD D).length c6] :: recsA .u8 92 5 A6 c6 (recsD D) :: stA 73 b2 [.pointer (some ⟨g, 0, none⟩)] :: logA g d (atD D) :: objA (.deferred (some [])) dd :: R) := ((S.frontAt 6 rfl).frontAt 1 rfl).frontAt 6 rfl
  refine q_ rfl ?_
  refine wp_block ?_
  refine cw_loop (fun q a w => ∃ (j : Nat) (D1 : Dk), j + q = i + 1 ∧ j ≤ i ∧ clr all (i - j) j D1 = clr all (i - atD D) (atD D) D ∧ D1.seen.length = i ∧ D1.waits.length ≤ 100000000 + j ∧
   FrD [{ target := .collected dd, args := #[] }] 83 a [(0, .pointer (some ⟨d, 0, none⟩)), (2, .pointer (some ⟨b2, 0, none⟩)), (3, .pointer (some ⟨b3, 0, none⟩)), (5, .slice A all.length c), (11, .slice A7 (List.replicate 64 (0 : Int)).length c7), (12, .int .i64 (j : Int))] ∧
   Sat w0 w (diskA d D1 :: ownA .u8 5 A7 c7 (List.replicate 64 0) :: ownA .u8 5 A c all :: stA 124 b3 [.slice A6 (recsD D).length c6] :: recsA .u8 92 5 A6 c6 (recsD D) :: stA 73 b2 [.pointer (some ⟨g, 0, none⟩)] :: logA g d (atD D) :: objA (.deferred (some [])) dd :: R)) (i + 1 - atD D)
   ⟨atD D, D, by omega, hatn, rfl, hn.symm, by omega, fr.sub ⟨rfl, rfl, rfl, rfl, rfl, rfl, trivial⟩, S⟩ ?_ ?_
  ·rintro a w ⟨j, D1, h, h', -⟩
   omega
  clear fr S
  rintro q a w ⟨j, D1, hj, hji, hgo, hl1, hw1, fr, S⟩
  have hmc := (S.frontAt 2 rfl).own.2
  have hnc := (S.frontAt 1 rfl).own.2
  refine r_ rfl ?_
  refine wl_run oL_ 2 rfl fr fun a fr => ?_
  refine wl_call fr rfl rfl rfl rfl enSize (disk_size S) ?_
  rintro _ w ⟨rfl, hw⟩
  subst hw
  refine ⟨_, rfl, vok_small (by omega), fun a fr => ?_⟩
  rw [hl1] at fr
  refine wl_run oL_ 1 rfl fr fun a fr => ?_
  first | refine e_ ?_ | refine wpList_nil ?_
  by_cases hlt : j < i
  ·have fr := fr.bool (d := 62) rfl (decide_eq_true (show (j : Int) < (i : Int) by omega))
   refine q_ rfl ?_
   refine cw_t fr rfl ?_
   refine wp_skip ?_
   refine q_ rfl ?_
   refine wp_block ?_
   have hcl : clr all (i - j) j D1 = clr all (i - (j + 1)) (j + 1) (if (all.drop (j * 64)).take 64 = List.replicate 64 0 then D1 else D1.writeR j (List.replicate 64 0)) := by
    rw [show i - j = (i - (j + 1)) + 1 by omega, clr]
   refine r_ rfl ?_
   refine wl_run oL_ 6 rfl fr fun a fr => ?_
   have fr := fr.spell (d := 67) rfl (congrArg (Value.int .i64) (show IntKind.wrap .i64 ((j : Int) * 64) = ((j * 64 : Nat) : Int) by rw [show IntKind.wrap .i64 ((j : Int) * 64) = (j : Int) * 64 from IntWalk.i64_in _ ⟨by omega, by omega⟩]; omega))
   have fr := fr.spell (d := 70) rfl (congrArg (Value.int .i64) (show IntKind.wrap .i64 (IntKind.wrap .i64 ((j : Int) + 1) * 64) = (((j + 1) * 64 : Nat) : Int) by rw [show IntKind.wrap .i64 ((j : Int) + 1) = (j : Int) + 1 from IntWalk.i64_in _ ⟨by omega, by omega⟩, show IntKind.wrap .i64 (((j : Int) + 1) * 64) = ((j : Int) + 1) * 64 from IntWalk.i64_in _ ⟨by omega, by omega⟩]; omega))
   have hdl : ((all.drop (j * 64)).take 64).length = 64 := by rw [List.length_take, List.length_drop]; omega
   refine wl_val fr rfl rfl rfl (slice_run oL_ fr (vlo := some (.int .i64 ((j * 64 : Nat) : Int))) (vhi := some (.int .i64 (((j + 1) * 64 : Nat) : Int))) (vmx := none) rfl rfl (by exact congrArg some (fr.ev (o := .tmp 67) rfl).1) (by exact congrArg some (fr.ev (o := .tmp 70) rfl).1) rfl rfl (sl_mid _ 5 .i64 .i64 Tryz.underlying92 infoB A all.length c (j * 64) ((j + 1) * 64) _ _ rfl rfl (by omega) (by omega)) w) (vok_sl ⟨by omega, by omega⟩) fun a fr => ?_
   have fr := fr.spell (d := 71) rfl (show Value.slice (dropA A c (j * 64)) ((j + 1) * 64 - j * 64) (c - j * 64) = .slice (dropA A c (j * 64)) ((all.drop (j * 64)).take 64).length (c - j * 64) by rw [hdl]; congr 1; omega)
   refine wl_run oL_ 1 rfl fr fun a fr => ?_
   refine wl_call fr rfl rfl rfl rfl enEqual (equal_call (((Sat.ownAt S 2 rfl).drop hmc.1).take 64) (Sat.ownAt S 1 rfl) ⟨by omega, by omega⟩ hnc) ?_
   rintro _ w ⟨rfl, hw⟩
   subst hw
   refine ⟨_, rfl, rfl, fun a fr => ?_⟩
   refine wl_run oL_ 1 rfl fr fun a fr => ?_
   first | refine e_ ?_ | refine wpList_nil ?_
   by_cases heq : (all.drop (j * 64)).take 64 = List.replicate 64 0
   ·have fr := fr.bool (d := 74) rfl (show (!decide ((all.drop (j * 64)).take 64 = List.replicate 64 0)) = false by rw [decide_eq_true heq]; rfl)
    rw [if_pos heq] at hcl
    refine q_ rfl ?_
    refine cw_f fr rfl ?_
    refine wp_skip ?_
    (repeat (first | (with_reducible refine then_n ?_) | (with_reducible refine blk_n ?_) | (with_reducible refine ng_n ?_)))
    refine r_ rfl ?_
    refine wl_run oL_ 3 rfl fr fun a fr => ?_
    first | refine e_ ?_ | refine wpList_nil ?_
    have fr := fr.spell (d := 12) rfl (congrArg (Value.int .i64) (show IntKind.wrap .i64 ((j : Int) + 1) = ((j + 1 : Nat) : Int) by rw [show IntKind.wrap .i64 ((j : Int) + 1) = (j : Int) + 1 from IntWalk.i64_in _ ⟨by omega, by omega⟩]; omega))
    exact ⟨j + 1, D1, by omega, by omega, by rw [← hcl]; exact hgo, hl1, by omega, fr.sub ⟨rfl, rfl, rfl, rfl, rfl, rfl, trivial⟩, S⟩
   ·have fr := fr.bool (d := 74) rfl (show (!decide ((all.drop (j * 64)).take 64 = List.replicate 64 0)) = true by rw [decide_eq_false heq]; rfl)
    rw [if_neg heq] at hcl
    have hww := writeR_waits D1 j (List.replicate 64 0)
    have hwl := writeR_len D1 j (List.replicate 64 0)
    refine q_ rfl ?_
    refine cw_t fr rfl ?_
    refine r_ rfl ?_
    refine wl_run oL_ 3 rfl fr fun a fr => ?_
    refine wl_call fr rfl rfl rfl rfl enWrite (disk_write S _ (Sat.ownAt S 1 rfl) ⟨by omega, by rw [List.length_replicate]; decide⟩) ?_
    rintro _ w ⟨rfl, hv, S⟩
    refine ⟨_, rfl, hv, fun a fr => ?_⟩
    first | refine e_ ?_ | refine wpList_nil ?_
    (repeat (first | (with_reducible refine then_n ?_) | (with_reducible refine blk_n ?_) | (with_reducible refine ng_n ?_)))
    refine r_ rfl ?_
    refine wl_run oL_ 3 rfl fr fun a fr => ?_
    first | refine e_ ?_ | refine wpList_nil ?_
    have fr := fr.spell (d := 12) rfl (congrArg (Value.int .i64) (show IntKind.wrap .i64 ((j : Int) + 1) = ((j + 1 : Nat) : Int) by rw [show IntKind.wrap .i64 ((j : Int) + 1) = (j : Int) + 1 from IntWalk.i64_in _ ⟨by omega, by omega⟩]; omega))
    exact ⟨j + 1, D1.writeR j (List.replicate 64 0), by omega, by omega, by rw [← hcl]; exact hgo, by rw [hwl]; exact hl1, by omega, fr.sub ⟨rfl, rfl, rfl, rfl, rfl, rfl, trivial⟩, S⟩
  have fr := fr.bool (d := 62) rfl (decide_eq_false (show ¬ (j : Int) < (i : Int) by omega))
  obtain rfl : j = i := by omega
  have hfin : D1 = clr all (j - atD D) (atD D) D := by rw [← hgo, Nat.sub_self]; rfl
  refine q_ rfl ?_
  refine cw_f fr rfl ?_
  refine wp_exit ?_
  skip; (repeat (first | (with_reducible refine then_e ?_) | (with_reducible refine ng_e ?_) | (with_reducible refine blk_e (by decide) ?_))); (with_reducible refine blk_y ?_); (repeat (with_reducible refine then_n ?_))
  have S : Sat w0 w (stA 73 b2 [.pointer (some ⟨g, 0, none⟩)] :: stA 124 b3 [.slice A6 (recsD D).length c6] :: diskA d D1 :: logA g d (atD D) :: recsA .u8 92 5 A6 c6 (recsD D) :: objA (.deferred (some [])) dd :: R) := by
   have S := S.mask [true, false, false]
   exact (((((S.frontAt 5 rfl).frontAt 3 rfl).frontAt 5 rfl).frontAt 3 rfl).frontAt 4 rfl).frontAt 5 rfl
  have hvr := (Sat.varAt S 1 rfl).2
  refine q_ rfl ?_
  refine wp_region_sl [u_ 0 79, u_ 1 80, u_ 2 81, .one (3, false, some 82), .one (4, false, none), .one (5, false, none), u_ 6 4]
        [l_ 79 73 2,
        l_ 80 124 3,
        m_ 81 0 23,
        .one ⟨false, some 82, (.call { callee := (.value (.func 71)), args := #[(.tmp 81)], argTypes := #[23] }), 28, none⟩,
        .one ⟨false, none, (.store 73 (.tmp 2) (.tmp 79)), 0, none⟩,
        .one ⟨false, none, (.store 124 (.tmp 3) (.tmp 80)), 0, none⟩,
        .one ⟨true, some 4, (.assign (.tmp 82)), 28, none⟩]
        (fun w' => Sat w0 w' [stA 73 b2 [.pointer (some ⟨g, 0, none⟩)], stA 124 b3 [.slice A6 (recsD D).length c6]]) rfl (by kernel_rfl) (by kernel_rfl) ?_ ?_
  ·exact S.drew.firsts [_, _]
  have S := S.drew
  refine sl_ldf oL_ (fun w' S => Sat.varAt S 0 rfl) fr rfl rfl rfl rfl rfl rfl rfl rfl (S.firsts [_, _]) fun a fr => ?_
  refine sl_ldf oL_ (fun w' S => Sat.varAt S 1 rfl) fr rfl rfl rfl rfl rfl rfl rfl rfl (S.firsts [_, _]) fun a fr => ?_
  refine sl_run oL_ 1 rfl fr fun a fr => ?_
  refine sl_call fr rfl rfl rfl rfl rfl enSync (disk_sync (S.frontAt 2 rfl)) ?_
  rintro _ w ⟨rfl, S⟩
  have S : Sat w0 w (stA 73 b2 [.pointer (some ⟨g, 0, none⟩)] :: stA 124 b3 [.slice A6 (recsD D).length c6] :: diskA d D1.sync :: logA g d (atD D) :: recsA .u8 92 5 A6 c6 (recsD D) :: objA (.deferred (some [])) dd :: R) := (S.frontAt 2 rfl).frontAt 2 rfl
  refine ⟨_, rfl, rfl, S.firsts [_, _], fun a fr => ?_⟩
  refine sl_stv oL_ fr rfl rfl rfl rfl rfl rfl rfl rfl rfl S ?_
  intro w6 S
  refine ⟨S.firsts [_, _], ?_⟩
  have S : Sat w0 w6 (stA 124 b3 [.slice A6 (recsD D).length c6] :: stA 73 b2 [.pointer (some ⟨g, 0, none⟩)] :: diskA d D1.sync :: logA g d (atD D) :: recsA .u8 92 5 A6 c6 (recsD D) :: objA (.deferred (some [])) dd :: R) := S.frontAt 1 rfl
  refine sl_stv oL_ fr rfl rfl rfl rfl rfl rfl rfl rfl rfl S ?_
  intro w7 S
  have S : Sat w0 w7 (stA 73 b2 [.pointer (some ⟨g, 0, none⟩)] :: stA 124 b3 [.slice A6 (recsD D).length c6] :: diskA d D1.sync :: logA g d (atD D) :: recsA .u8 92 5 A6 c6 (recsD D) :: objA (.deferred (some [])) dd :: R) := S.frontAt 1 rfl
  refine ⟨S.firsts [_, _], ?_⟩
  refine sl_run oL_ 1 rfl fr fun a fr => ?_
  refine sl_end ?_
  have hod : D1.sync = openD D := by rw [hfin, hall, hn]; rfl
  rw [hod] at S
  refine wp_ret ?_
  show LeavesInM Fence.wide 1 _ _ a.tmps _ a.defers .returning w7
  rw [fr.defers]
  refine ⟨by simp, .inl ⟨_, _, rfl, run_takeDeferred (Sat.objAt S 5 rfl), ?_⟩⟩
  have S : Sat w0 _ (objA (.deferred (some [])) dd :: stA 73 b2 [.pointer (some ⟨g, 0, none⟩)] :: stA 124 b3 [.slice A6 (recsD D).length c6] :: diskA d (openD D) :: logA g d (atD D) :: recsA .u8 92 5 A6 c6 (recsD D) :: R) := S.frontAt 5 rfl
  have S := S.putObj (.deferred none)
  refine ⟨_, results_cct oL_ rfl fr rfl rfl rfl rfl rfl rfl rfl (Sat.varAt S 1 rfl).1 (Sat.varAt S 2 rfl).1, g, A6, c6, rfl, ?_, ?_⟩
  ·have h5 : vokC (.slice A6 (recsD D).length c6) = true := hvr
   show [_, _, _].all vokC = true
   rw [List.all_cons, List.all_cons, h5]; rfl
  ·have S := S.mask [false, false, false]
   exact (S.frontAt 2 rfl).frontAt 2 rfl
end
def addEI (D : Dk) (x : Int) (l : List Int) : Int := addE D x.toNat l
def addXI (D : Dk) (x : Int) (l : List Int) : Int := (addX D x.toNat l : Nat)
def addDI (D : Dk) (x : Int) (l : List Int) : Dk := addD D x.toNat l
section
variable {w w0 : World} {g d : Nat} {x : Int} {D : Dk} {R : List Asn}
theorem addE_range (D : Dk) (x : Nat) (l : List Int) : 0 ≤ addE D x l ∧ addE D x l ≤ 5 := by unfold addE; split; decide; split <;> decide
theorem add_callI (S : Sat w0 w (logA g d x :: diskA d D :: R)) {A : Option Addr} {c : Nat} {l : List Int} (rk : Rk .u8 w A l) (hm : l.length ≤ c ∧ c ≤ maxLen) (hb : (0 ≤ x ∧ x ≤ 4096) ∧ D.waits.length ≤ 100000000 ∧ l.length ≤ 1000000000) :
  Calls Tryz.prog 33 #[.pointer (some ⟨g, 0, none⟩), .slice A l.length c] w fun e w' => e = .returned (.int .i64 (addEI D x l)) ∧ vok (.int .i64 (addEI D x l)) = true ∧ Sat w0 w' (logA g d (addXI D x l) :: diskA d (addDI D x l) :: R) := by
 obtain ⟨n, rfl⟩ : ∃ n : Nat, x = n := ⟨x.toNat, by omega⟩
 have hr := addE_range D n l
 refine (add_call S rk hm hb.2.2 (by omega) hb.2.1).mono fun e w' ⟨h1, h2⟩ => ⟨h1, ?_, h2⟩
 show (Lit.int .i64 (addE D n l)).wf = true
 rw [wf_int]
 have h1 : IntKind.i64.min = -9223372036854775808 := by decide
 have h2 : IntKind.i64.max = 9223372036854775807 := by decide
 omega
end
end Go.Proofs.YticnjkdaccacaaaGreat.Sx
end
