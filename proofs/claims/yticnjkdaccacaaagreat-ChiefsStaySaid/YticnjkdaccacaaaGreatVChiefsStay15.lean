/- Texts of this work, one behind the other. -/
import Derived.Test.YticnjkdaccacaaaGreatVChiefsStay14
set_option maxRecDepth 100000
set_option maxHeartbeats 16000000
section
namespace Go.Proofs.YticnjkdaccacaaaGreat.Sx
open Go Go.RowKit Base Oq OwnV Disk
theorem plan_go : ∀ {l : List PartT} {last : Int}, planGo last l = true → (∀ p ∈ l, last < p.1 ∧ p.1 ≤ 3 ∧ 1 ≤ p.2.1.length ∧ p.2.1.length ≤ 16) ∧ l.Pairwise (fun p q => p.1 < q.1) := by
 intro l
 induction l with
 | nil => intro last _; exact ⟨fun p hp => by simp at hp, List.Pairwise.nil⟩
 | cons p r ih =>
  intro last h
  have h : (!badPart last p && planGo p.1 r) = true := h
  rw [Bool.and_eq_true] at h
  obtain ⟨h1, h2⟩ := h
  obtain ⟨h3, h4⟩ := ih h2
  have hb : badPart last p = false := by simpa using h1
  unfold badPart at hb
  simp only [Bool.or_eq_false_iff, decide_eq_false_iff_not] at hb
  have hp : last < p.1 ∧ p.1 ≤ 3 ∧ 1 ≤ p.2.1.length ∧ p.2.1.length ≤ 16 := by omega
  refine ⟨fun q hq => ?_, List.Pairwise.cons (fun q hq => (h3 q hq).1) h4⟩
  rcases List.mem_cons.1 hq with rfl | hq
  ·exact hp
  ·have := h3 q hq; exact ⟨by omega, this.2⟩
theorem plan_ok {l : List PartT} (h : planOk l = true) : (∀ p ∈ l, 1 ≤ p.1 ∧ p.1 ≤ 3 ∧ 1 ≤ p.2.1.length ∧ p.2.1.length ≤ 16) ∧ l.Pairwise (fun p q => p.1 < q.1) ∧ 0 < l.length := by
 unfold planOk at h
 rw [Bool.and_eq_true] at h
 obtain ⟨h1, h2⟩ := plan_go h.1
 refine ⟨fun p hp => ?_, h2, by have := of_decide_eq_true h.2; omega⟩
 have := h1 p hp
 exact ⟨by omega, this.2⟩
theorem rise_len : ∀ {l : List Int} {a b : Int}, l.Pairwise (fun x y => x < y) → (∀ x ∈ l, a ≤ x ∧ x ≤ b) → a ≤ b + 1 → (l.length : Int) ≤ b + 1 - a := by
 intro l
 induction l with
 | nil => intro a b _ _ h; simpa using h
 | cons x r ih =>
  intro a b h1 h2 h3
  have hx := h2 x List.mem_cons_self
  have := ih (a := x + 1) (b := b) (List.Pairwise.of_cons h1) (fun y hy => ⟨by have := List.rel_of_pairwise_cons h1 hy; omega, (h2 y (List.mem_cons_of_mem _ hy)).2⟩) (by omega)
  rw [List.length_cons]
  omega
theorem plan_few {l : List PartT} (h : planOk l = true) : l.length ≤ 3 := by
 obtain ⟨h1, h2, -⟩ := plan_ok h
 have := rise_len (l := l.map (·.1)) (a := 1) (b := 3) (List.Pairwise.map _ (fun _ _ h => h) h2) (fun x hx => by
  obtain ⟨p, hp, rfl⟩ := List.mem_map.1 hx
  exact ⟨(h1 p hp).1, (h1 p hp).2.1⟩) (by omega)
 rw [List.length_map] at this
 omega
section
variable {α : Type}
def openN (gs : List (Gl α)) : Nat := (gs.filter fun G => G.ph != 4).length
def vPart (v : Vt α) : Vt α := { v with part := true }
def beginV (sites : List Int) (v : List (Vt α)) : List (Vt α) := sites.foldl (fun v n => updV vPart n.toNat v) v
def newG (z : Vt α) (n : Int) (sites : List Int) : Gl α := ⟨n, 1, false, true, true, beginV sites [z, z, z, z]⟩
def beginR (n : Int) : List Int := 98 :: fourL n
end
abbrev BM := Int × Option Addr × Nat × List OpT
def bmV (n : Int) (q : BM) : List Value := [.int .u8 1, .int .u8 0, .int .u8 q.1, .int .u32 n, .slice q.2.1 q.2.2.2.length q.2.2.2.length, .slice none 0 0]
def bmRow (q : BM) : Asn := rvA 104 4 q.2.1 q.2.2.1 q.2.2.2.length (q.2.2.2.flatMap opV)
def bmA (n : Int) (A : Option Addr) (c : Nat) (pl : List (Int × List OpT)) : Asn := exA fun p : { qs : List BM // qs.map (fun q => (q.1, q.2.2.2)) = pl } => allA (rvA 42 6 A c p.1.length (p.1.flatMap (bmV n)) :: p.1.map bmRow)
theorem upM_new {α : Type} {n : Int} {v : α} : ∀ {l : List (Int × α)}, (∀ p ∈ l, p.1 ≠ n) → upM l n v = l ++ [(n, v)] := by
 intro l
 induction l with
 | nil => intro _; rfl
 | cons p r ih =>
  intro h
  unfold upM
  rw [if_neg (h p List.mem_cons_self), ih fun q hq => h q (List.mem_cons_of_mem _ hq)]
  rfl
theorem enBegin : Enters Tryz.prog 10 := fun _ _ => by kernel_rfl
section
variable {w w0 : World} {R : List Asn} {b bl bm bk bw bd : Nat} {last now x : Int} {m : List (Int × Int)} {gs : Gs} {D : Dk}
theorem open_split {l1 l2 : Gs} {p : Nat × Gl RawV} : openN ((l1 ++ p :: l2).map (·.2)) = openN ((l1 ++ l2).map (·.2)) + if (p.2.ph != 4) = true then 1 else 0 := by
 unfold openN
 simp only [List.map_append, List.map_cons, List.filter_append, List.filter_cons, List.length_append]
 split
 ·simp only [List.length_cons]; omega
 ·rfl
theorem open_le (gs : Gs) : openN (gs.map (·.2)) ≤ gs.length := by
 unfold openN
 refine Nat.le_trans (List.length_filter_le _ _) ?_
 rw [List.length_map]
 exact Nat.le_refl _
theorem keys_split {l1 l2 : List (Int × Option Nat)} {p : Int × Option Nat} {t : Gs} (h : keysG t = l1 ++ p :: l2) : ∃ t1 q t2, t = t1 ++ q :: t2 ∧ keysG t1 = l1 ∧ keysG t2 = l2 ∧ p = (q.2.g, some q.1) := by
 unfold keysG at h
 obtain ⟨t1, t', rfl, h1, h2⟩ := List.map_eq_append_iff.1 h
 obtain ⟨q, t2, rfl, h3, h4⟩ := List.map_eq_cons_iff.1 h2
 exact ⟨t1, q, t2, rfl, h1, h4, h3.symm⟩
theorem Sat.toBm {n : Int} {A : Option Addr} {c : Nat} {qs : List BM} (S : Sat w0 w (rvA 42 6 A c qs.length (qs.flatMap (bmV n)) :: (qs.map bmRow ++ R))) : Sat w0 w (bmA n A c (qs.map fun q => (q.1, q.2.2.2)) :: R) :=
 Sat.toEx (f := fun p : { qs' : List BM // qs'.map (fun q => (q.1, q.2.2.2)) = qs.map (fun q => (q.1, q.2.2.2)) } => allA (rvA 42 6 A c p.1.length (p.1.flatMap (bmV n)) :: p.1.map bmRow)) ⟨qs, rfl⟩ (Sat.toAllT (L := rvA 42 6 A c qs.length (qs.flatMap (bmV n)) :: qs.map bmRow) S)
theorem Sat.noGlR {p : Nat × Gl RawV} (h : ∀ v ∈ p.2.v, v.l = (none, 0, [])) (S : Sat w0 w R) : Sat w0 w (glR p ++ R) := by
 unfold glR
 generalize p.2.v = vs at h
 induction vs with
 | nil => exact S
 | cons v r ih =>
  have h1 := h v List.mem_cons_self
  show Sat w0 w (resA v.l.1 v.l.2.1 v.l.2.2 :: (r.map _ ++ R))
  rw [h1]
  exact Sat.noRes (ih fun u hu => h u (List.mem_cons_of_mem _ hu))
theorem beginV_l {v : Vt RawV} {z : Vt RawV} : ∀ {sites : List Int} {l : List (Vt RawV)}, (∀ u ∈ l, u.l = z.l) → v ∈ beginV sites l → v.l = z.l := by
 intro sites
 induction sites with
 | nil => intro l h hv; exact h v hv
 | cons k r ih =>
  intro l h hv
  refine ih (l := updV vPart k.toNat l) (fun u hu => ?_) hv
  rcases updV_mem hu with hu | ⟨u', hu', rfl⟩
  ·exact h u hu
  ·exact h u' hu'
theorem newG_l {n : Int} {sites : List Int} : ∀ v ∈ (newG zV n sites).v, v.l = ((none, 0, []) : RawV) := fun v hv => beginV_l (z := zV) (sites := sites) (l := [zV, zV, zV, zV]) (fun u hu => by
 have : u = zV := by simpa using hu
 rw [this]) hv
theorem gs_new_perm {bn : Nat} {G : Gl RawV} {X rows : List Asn} {A0 : Asn} : (glR (bn, G) ++ (A0 :: glA (bn, G) :: (rows ++ (X ++ (gsT gs ++ R))))).Perm (A0 :: (rows ++ (X ++ (gsT (gs ++ [(bn, G)]) ++ R)))) := by
 have e1 : gsT (gs ++ [(bn, G)]) = gsT gs ++ (glA (bn, G) :: glR (bn, G)) := by
  unfold gsT
  rw [List.flatMap_append, List.flatMap_cons, List.flatMap_nil, List.append_nil]
 rw [e1]
 refine (List.perm_append_comm_assoc (glR (bn, G)) [A0, glA (bn, G)] (rows ++ (X ++ (gsT gs ++ R)))).trans ?_
 refine List.Perm.cons _ ?_
 have h1 := List.perm_append_comm_assoc (glA (bn, G) :: glR (bn, G)) rows (X ++ (gsT gs ++ R))
 refine h1.trans (List.Perm.append_left rows ?_)
 refine (List.perm_append_comm_assoc (glA (bn, G) :: glR (bn, G)) X (gsT gs ++ R)).trans (List.Perm.append_left X ?_)
 have h2 := List.perm_append_comm_assoc (glA (bn, G) :: glR (bn, G)) (gsT gs) R
 rw [← List.append_assoc (gsT gs)] at h2
 exact h2
theorem begin_call {Ap : Option Addr} {cp : Nat} {ps : List RawP} (hR : ∀ w', Sat w0 w' R → RdParts w' Ap ps) (hW : PartsW ps) (hmp : ps.length ≤ cp ∧ cp ≤ maxLen) (hI : ∀ p ∈ gs, GlI p.2) (hgs : gs.length ≤ 1000) (hnew : ∀ p ∈ gs, p.2.g ≠ IntKind.wrap .u32 (last + 1)) (hb : (0 ≤ x ∧ x ≤ 4096) ∧ D.waits.length ≤ 100000000) (S : Sat w0 w (chW b bl bm last bk bw now bd gs m x D R)) :
  Calls Tryz.prog 10 #[.pointer (some ⟨b, 0, none⟩), .slice Ap ps.length cp] w fun e w' =>
   (planOk (ps.map partOf) = false ∧ e = .returned (.tuple #[.int .u32 0, .slice none 0 0, .int .i64 1]) ∧ Sat w0 w' (chW b bl bm last bk bw now bd gs m x D R)) ∨
   (planOk (ps.map partOf) = true ∧ 64 ≤ openN (gs.map (·.2)) ∧ e = .returned (.tuple #[.int .u32 0, .slice none 0 0, .int .i64 3]) ∧ Sat w0 w' (chW b bl bm last bk bw now bd gs m x D R)) ∨
   (planOk (ps.map partOf) = true ∧ openN (gs.map (·.2)) < 64 ∧ (addEI D x (beginR (IntKind.wrap .u32 (last + 1))) != 0) = true ∧ e = .returned (.tuple #[.int .u32 0, .slice none 0 0, .int .i64 5]) ∧ Sat w0 w' (chW b bl bm last bk bw now bd gs m (addXI D x (beginR (IntKind.wrap .u32 (last + 1)))) (addDI D x (beginR (IntKind.wrap .u32 (last + 1)))) R)) ∨
   (planOk (ps.map partOf) = true ∧ openN (gs.map (·.2)) < 64 ∧ (addEI D x (beginR (IntKind.wrap .u32 (last + 1))) != 0) = false ∧ ∃ (A : Option Addr) (c bn : Nat), e = .returned (.tuple #[.int .u32 (IntKind.wrap .u32 (last + 1)), .slice A ps.length ps.length, .int .i64 0]) ∧ vok (.tuple #[.int .u32 (IntKind.wrap .u32 (last + 1)), .slice A ps.length ps.length, .int .i64 0]) = true ∧
    GlI (newG zV (IntKind.wrap .u32 (last + 1)) (ps.map (·.1))) ∧
    Sat w0 w' (bmA (IntKind.wrap .u32 (last + 1)) A c (ps.map fun p => (p.1, p.2.2.2)) :: chW b bl bm (IntKind.wrap .u32 (last + 1)) bk bw now bd (gs ++ [(bn, newG zV (IntKind.wrap .u32 (last + 1)) (ps.map (·.1)))]) (upM m (IntKind.wrap .u32 (last + 1)) (IntKind.wrap .i64 (now + 8))) (addXI D x (beginR (IntKind.wrap .u32 (last + 1)))) (addDI D x (beginR (IntKind.wrap .u32 (last + 1)))).sync R)) := by
 refine calls_start (N := 108) [.pointer (some ⟨b, 0, none⟩), .slice Ap ps.length cp] Tryz.func10 rfl rfl rfl (vok_c rfl (vok_c (vok_sl hmp) rfl)) fun a fr => ?_
 have S : Sat w0 w (chS b bl bm last bk :: logA bl bd x :: diskA bd D :: ckS bk bw now :: ckM bw m :: glM bm gs :: (gsT gs ++ R)) := S
 refine r_ rfl ?_
 repeat refine w_ oCh_ rfl fr fun a fr => ?_
 refine eq_ rfl rfl ?_
 refine wp_block ?_
 refine r_ rfl ?_
 repeat refine w_ oCh_ rfl fr fun a fr => ?_
 refine wl_call fr rfl rfl rfl rfl enChThere (chthere_call S) ?_
 rintro _ w1 ⟨rfl, rfl⟩
 refine ⟨_, rfl, rfl, fun a fr => ?_⟩
 repeat refine w_ oCh_ rfl fr fun a fr => ?_
 refine eq_ rfl rfl ?_
 refine cw_f fr rfl ?_
 refine r_ rfl ?_
 repeat refine w_ oCh_ rfl fr fun a fr => ?_
 have hR2 : ∀ w', Sat w0 w' (chS b bl bm last bk :: logA bl bd x :: diskA bd D :: ckS bk bw now :: ckM bw m :: glM bm gs :: (gsT gs ++ R)) → RdParts w' Ap ps := fun w' S' => hR w' (Sat.lastsT (chS b bl bm last bk :: logA bl bd x :: diskA bd D :: ckS bk bw now :: ckM bw m :: glM bm gs :: gsT gs) S')
 refine wl_call fr rfl rfl rfl rfl enPlanCheck (plancheck_call hR2 hW hmp S) ?_
 rintro _ w2 ⟨rfl, S⟩
 refine ⟨_, rfl, rfl, fun a fr => ?_⟩
 repeat refine w_ oCh_ rfl fr fun a fr => ?_
 first | refine e_ ?_ | refine wpList_nil ?_
 refine bs 19 fr rfl (fun q1 fr => ?_) (fun q1 fr => ?_)
 ·have q1 : (!planOk (ps.map partOf)) = true := q1
  refine q_ rfl ?_
  refine cw_t fr rfl ?_
  refine r_ rfl ?_
  repeat refine w_ oCh_ rfl fr fun a fr => ?_
  first | refine e_ ?_ | refine wpList_nil ?_
  refine wp_ret ?_
  try simp only [Exit.then, Exit.inBlock]
  exact ret3 fr rfl rfl rfl rfl (.inl ⟨by simpa using q1, rfl, S⟩)
 have hok : planOk (ps.map partOf) = true := by have q1 : (!planOk (ps.map partOf)) = false := q1; simpa using q1
 refine q_ rfl ?_
 refine cw_f fr rfl ?_
 refine wp_skip ?_
 refine r_ rfl ?_
 repeat refine w_ oCh_ rfl fr fun a fr => ?_
 refine er_ rfl rfl ?_
 (repeat (first | refine wl_run oCh_ 1 rfl fr fun a fr => ?_ | refine wl_ldf oCh_ (Sat.stAt S 0 rfl rfl) fr rfl rfl rfl rfl rfl rfl rfl fun a fr => ?_))
 have S := S.frontAt 5 rfl
 refine wl_range oCh_ fr rfl rfl rfl rfl rfl rfl S ?_
 intro w3 r S a fr
 first | refine e_ ?_ | refine wpList_nil ?_
 have S : Sat w0 w3 (iterA .u32 ptO bm r (keysG gs) (keysG gs) none :: chS b bl bm last bk :: logA bl bd x :: diskA bd D :: ckS bk bw now :: ckM bw m :: (gsT gs ++ R)) := S
 refine q_ rfl ?_
 refine wp_block ?_
 refine cw_loop (fun q a w2 => ∃ (t : Gs) (cnt : Nat) (cur : Option (Int × Option Nat)), t.length + 1 = q ∧ (∀ p ∈ t, p ∈ gs) ∧ cnt + openN (t.map (·.2)) = openN (gs.map (·.2)) ∧ Fr 108 a [(0, .pointer (some ⟨b, 0, none⟩)), (1, .slice Ap ps.length cp), (7, .int .i64 (cnt : Int)), (27, .pointer (some ⟨r, 0, none⟩))] ∧ Sat w0 w2 (iterA .u32 ptO bm r (keysG gs) (keysG t) cur :: chS b bl bm last bk :: logA bl bd x :: diskA bd D :: ckS bk bw now :: ckM bw m :: (gsT gs ++ R))) (gs.length + 1)
  ⟨gs, 0, none, rfl, fun _ h => h, by omega, fr.sub ⟨rfl, rfl, rfl, rfl, trivial⟩, S⟩ ?_ ?_
 ·rintro a w2 ⟨t, _, _, h, -⟩
  omega
 clear fr S
 rintro q a w4 ⟨t, cnt, cur, hq, ht, hcnt, fr, S⟩
 have hcn : cnt ≤ 1000 := by have := open_le gs; omega
 refine r_ rfl ?_
 refine wl_next (fun z => ptO_vok z) fr rfl rfl rfl rfl rfl S ?_ ?_
 ·intro hl a fr
  obtain rfl : t = [] := by unfold keysG at hl; simpa using hl
  repeat refine w_ oCh_ rfl fr fun a fr => ?_
  refine eq_ rfl rfl ?_
  refine cw_f fr rfl ?_
  refine wp_exit ?_
  skip; (repeat (first | (with_reducible refine then_e ?_) | (with_reducible refine ng_e ?_) | (with_reducible refine blk_e (by decide) ?_))); (with_reducible refine blk_y ?_); (repeat (with_reducible refine then_n ?_))
  have S := S.iterEnd
  have S : Sat w0 w4 (chS b bl bm last bk :: logA bl bd x :: diskA bd D :: ckS bk bw now :: ckM bw m :: glM bm gs :: (gsT gs ++ R)) := (((((S.frontAt 5 rfl).frontAt 5 rfl).frontAt 5 rfl).frontAt 5 rfl).frontAt 5 rfl)
  have hcnt : cnt = openN (gs.map (·.2)) := hcnt
  refine r_ rfl ?_
  repeat refine w_ oCh_ rfl fr fun a fr => ?_
  first | refine e_ ?_ | refine wpList_nil ?_
  refine bs 40 fr rfl (fun q2 fr => ?_) (fun q2 fr => ?_)
  ·have h64 := of_decide_eq_true q2
   refine q_ rfl ?_
   refine cw_t fr rfl ?_
   refine r_ rfl ?_
   repeat refine w_ oCh_ rfl fr fun a fr => ?_
   first | refine e_ ?_ | refine wpList_nil ?_
   refine wp_ret ?_
   try simp only [Exit.then, Exit.inBlock]
   exact ret3 fr rfl rfl rfl rfl (.inr (.inl ⟨hok, by omega, rfl, S⟩))
  have h64 := of_decide_eq_false q2
  have h64 : openN (gs.map (·.2)) < 64 := by omega
  refine q_ rfl ?_
  refine cw_f fr rfl ?_
  refine wp_skip ?_
  repeat first | with_reducible refine then_n ?_ | with_reducible refine blk_n ?_
  obtain ⟨n, hn⟩ : ∃ n, n = IntKind.wrap .u32 (last + 1) := ⟨_, rfl⟩
  have hnw : (Lit.int .u32 n).wf = true := by rw [hn]; exact wf_wrap _ _
  rw [← hn] at hnew ⊢
  refine r_ rfl ?_
  (repeat (first | refine wl_run oCh_ 1 rfl fr fun a fr => ?_ | refine wl_ldf oCh_ (Sat.stAt S 0 rfl rfl) fr rfl rfl rfl rfl rfl rfl rfl fun a fr => ?_))
  first | refine e_ ?_ | refine wpList_nil ?_
  have fr := fr.spell (d := 10) rfl (show Value.int .u32 (IntKind.wrap .u32 (last + 1)) = .int .u32 n by rw [hn])
  obtain ⟨RR, hRR⟩ : ∃ RR, RR = ckS bk bw now :: ckM bw m :: glM bm gs :: (gsT gs ++ R) := ⟨_, rfl⟩
  have S : Sat w0 w4 (chS b bl bm last bk :: logA bl bd x :: diskA bd D :: RR) := by rw [hRR]; exact S
  have fr := fr.sub (L' := [(0, .pointer (some ⟨b, 0, none⟩)), (1, .slice Ap ps.length cp), (10, .int .u32 n)]) ⟨rfl, rfl, rfl, trivial⟩
  refine q_ rfl ?_
  refine wp_region_pool (fun n' => match n' with
   | 0 => fun a w => Fr 108 a [(0, .pointer (some ⟨b, 0, none⟩)), (1, .slice Ap ps.length cp), (10, .int .u32 n), (49, .pointer (some ⟨bl, 0, none⟩)), (51, .int .u32 n)] ∧ Sat w0 w (chS b bl bm last bk :: logA bl bd x :: diskA bd D :: RR)
   | 1 => fun a w => ∃ A c, Fr 108 a [(0, .pointer (some ⟨b, 0, none⟩)), (1, .slice Ap ps.length cp), (10, .int .u32 n), (49, .pointer (some ⟨bl, 0, none⟩)), (51, .int .u32 n), (50, .slice A ([98] : List Int).length c)] ∧ Sat w0 w (ownA .u8 5 A c [98] :: chS b bl bm last bk :: logA bl bd x :: diskA bd D :: RR)
   | 2 => fun a w => ∃ A c, Fr 108 a [(0, .pointer (some ⟨b, 0, none⟩)), (1, .slice Ap ps.length cp), (10, .int .u32 n), (49, .pointer (some ⟨bl, 0, none⟩)), (51, .int .u32 n), (52, .slice A 4 c)] ∧ Sat w0 w (ownA .u8 5 A c (fourL n) :: chS b bl bm last bk :: logA bl bd x :: diskA bd D :: RR)
   | 3 => fun a w => ∃ A c A' c', Fr 108 a [(0, .pointer (some ⟨b, 0, none⟩)), (1, .slice Ap ps.length cp), (10, .int .u32 n), (49, .pointer (some ⟨bl, 0, none⟩)), (50, .slice A ([98] : List Int).length c), (52, .slice A' 4 c')] ∧ Sat w0 w (ownA .u8 5 A c [98] :: ownA .u8 5 A' c' (fourL n) :: chS b bl bm last bk :: logA bl bd x :: diskA bd D :: RR)
   | _ => fun _ _ => False) [u_ 0 46, u_ 1 47, u_ 2 48, u_ 3 49, u_ 5 51]
        [m_ 46 0 24,
        c_ 47 46,
        f_ 48 77 47 0,
        l_ 49 73 48,
        m_ 51 10 31]
        [⟨0, #[true, true, true, true, false, true, false, false, false, false], [(4, some 50, 1), (6, some 52, 2)]⟩, ⟨1, #[true, true, true, true, true, true, false, false, false, false], [(6, some 52, 3)]⟩, ⟨2, #[true, true, true, true, false, true, true, false, false, false], [(4, some 50, 3)]⟩] ⟨0, #[true, true, true, true, false, true, false, false, false, false], [(4, some 50, 1), (6, some 52, 2)]⟩
        [(0, [(⟨false, some 50, (Go.Op.buildSlice 92 1 #[(0, (Go.Operand.const (Go.Value.int Go.IntKind.u8 98)))]), 92, none⟩, 1), (⟨false, some 52, (Go.Op.call { callee := (Go.Callee.value (Go.Operand.func 34)), args := #[(Go.Operand.tmp 51)], argTypes := #[31] }), 92, none⟩, 2)]), (1, [(⟨false, some 52, (Go.Op.call { callee := (Go.Callee.value (Go.Operand.func 34)), args := #[(Go.Operand.tmp 51)], argTypes := #[31] }), 92, none⟩, 3)]), (2, [(⟨false, some 50, (Go.Op.buildSlice 92 1 #[(0, (Go.Operand.const (Go.Value.int Go.IntKind.u8 98)))]), 92, none⟩, 3)])] #[true, true, true, true, true, true, true, false, false, false] 3
        [.one (7, false, some 53), .one (8, false, some 54), u_ 9 55]
        [.one ⟨false, some 53, (.call { callee := (.builtin Go.Builtin.append), args := #[(.tmp 50), (.tmp 52)], argTypes := #[92, 92] }), 92, none⟩,
        .one ⟨false, some 54, (.call { callee := (.value (.func 33)), args := #[(.tmp 49), (.tmp 53)], argTypes := #[73, 92] }), 28, none⟩,
        .one ⟨true, some 55, (.binOp .neq 28 (.tmp 54) (.const (.int .i64 0)) 28), 4, none⟩]
   (fun v => Sat w0 v [chS b bl bm last bk]) rfl (by kernel_rfl) (List.mem_cons_self) (by kernel_rfl) (by kernel_rfl) (by kernel_rfl) (by kernel_rfl) (S.drew.firsts [_]) ?_ ⟨⟨?_, ?_, trivial⟩, ⟨?_, trivial⟩, ⟨?_, trivial⟩, trivial⟩ ?_
  ·have S := S.drew
   have hS : Sat w0 _ [chS b bl bm last bk] := S.firsts [_]
   (repeat (first | refine sl_run oCh_ 1 rfl fr fun a fr => ?_ | refine sl_ldf oCh_ (fun _ S => Sat.stAt S 0 rfl rfl) fr rfl rfl rfl rfl rfl rfl rfl rfl (by assumption) fun a fr => ?_))
   refine sl_end ?_
   exact ⟨rfl, fr.sub ⟨rfl, rfl, rfl, rfl, rfl, trivial⟩, S⟩
  ·rintro a w hS ⟨fr, S⟩
   refine sl_lit (xs := [98]) oCh_ litB fr rfl rfl rfl rfl rfl ⟨rfl, rfl, trivial⟩ rfl rfl S ?_
   intro w3 A c S
   refine ⟨(S.frontAt 1 rfl).firsts [_], fun a fr => ?_⟩
   refine sl_end ?_
   exact ⟨rfl, A, c, fr.sub ⟨rfl, rfl, rfl, rfl, rfl, rfl, trivial⟩, S⟩
  ·rintro a w hS ⟨fr, S⟩
   refine sl_call fr rfl rfl rfl rfl rfl enFour (four_call hnw S) ?_
   rintro _ w3 ⟨A, c, rfl, hv, S⟩
   refine ⟨_, rfl, hv, (S.frontAt 1 rfl).firsts [_], fun a fr => ?_⟩
   refine sl_end ?_
   exact ⟨rfl, A, c, fr.sub ⟨rfl, rfl, rfl, rfl, rfl, rfl, trivial⟩, S⟩
  ·rintro a w hS ⟨A, c, fr, S⟩
   refine sl_call fr rfl rfl rfl rfl rfl enFour (four_call hnw S) ?_
   rintro _ w3 ⟨A', c', rfl, hv, S⟩
   refine ⟨_, rfl, hv, (S.frontAt 2 rfl).firsts [_], fun a fr => ?_⟩
   refine sl_end ?_
   exact ⟨rfl, A, c, A', c', fr.sub ⟨rfl, rfl, rfl, rfl, rfl, rfl, trivial⟩, S.frontAt 1 rfl⟩
  ·rintro a w hS ⟨A, c, fr, S⟩
   refine sl_lit (xs := [98]) oCh_ litB fr rfl rfl rfl rfl rfl ⟨rfl, rfl, trivial⟩ rfl rfl S ?_
   intro w3 A' c' S
   refine ⟨(S.frontAt 2 rfl).firsts [_], fun a fr => ?_⟩
   refine sl_end ?_
   exact ⟨rfl, A', c', A, c, fr.sub ⟨rfl, rfl, rfl, rfl, rfl, rfl, trivial⟩, S⟩
  rintro a w5 hS ⟨A, c, A', c', fr, S⟩
  have hy := Sat.ownAt S 1 rfl
  refine sl_app litB fr rfl rfl rfl rfl rfl rfl rfl rfl rfl hy (by simp [fourL]) S ?_
  intro w6 A3 c3 S
  have S : Sat w0 w6 (ownA .u8 5 A3 c3 (beginR n) :: ownA .u8 5 A' c' (fourL n) :: chS b bl bm last bk :: logA bl bd x :: diskA bd D :: RR) := S
  refine ⟨(S.frontAt 2 rfl).firsts [_], fun a fr => ?_⟩
  have hm3 := S.own.2
  have hrk := S.own.1
  have S := (((((S.frontAt 2 rfl).frontAt 2 rfl).frontAt 2 rfl).frontAt 4 rfl).frontAt 4 rfl)
  refine sl_call fr rfl rfl rfl rfl rfl enAdd (add_callI (A := A3) (c := c3) (l := beginR n) S hrk hm3 ⟨hb.1, hb.2, by simp [beginR, fourL]⟩) ?_
  rintro _ w7 ⟨rfl, hv4, S⟩
  have S : Sat w0 w7 (chS b bl bm last bk :: logA bl bd (addXI D x (beginR n)) :: diskA bd (addDI D x (beginR n)) :: RR) := (((S.frontAt 2 rfl).tl.frontAt 2 rfl).tl.frontAt 2 rfl)
  refine ⟨_, rfl, hv4, S.firsts [_], fun a fr => ?_⟩
  repeat refine sl_run oCh_ 1 rfl fr fun a fr => ?_
  refine sl_end ?_
  repeat with_reducible refine then_n ?_
  have fr := fr.sub (L' := [(0, .pointer (some ⟨b, 0, none⟩)), (1, .slice Ap ps.length cp), (10, .int .u32 n), (55, .bool (addEI D x (beginR n) != 0))]) ⟨rfl, rfl, rfl, rfl, trivial⟩
  refine bs 55 fr rfl (fun q3 fr => ?_) (fun q3 fr => ?_)
  ·refine q_ rfl ?_
   refine cw_t fr rfl ?_
   refine r_ rfl ?_
   repeat refine w_ oCh_ rfl fr fun a fr => ?_
   first | refine e_ ?_ | refine wpList_nil ?_
   refine wp_ret ?_
   try simp only [Exit.then, Exit.inBlock]
   rw [hRR] at S
   exact ret3 fr rfl rfl rfl rfl (.inr (.inr (.inl ⟨hok, h64, q3, rfl, S⟩)))
  refine q_ rfl ?_
  refine cw_f fr rfl ?_
  refine wp_skip ?_
  refine r_ rfl ?_
  (repeat (first | refine wl_run oCh_ 1 rfl fr fun a fr => ?_ | refine wl_ldf oCh_ (Sat.stAt S 0 rfl rfl) fr rfl rfl rfl rfl rfl rfl rfl fun a fr => ?_))
  have S := ((S.frontAt 2 rfl).frontAt 2 rfl)
  refine wl_call fr rfl rfl rfl rfl enForce (force_call S) ?_
  rintro _ w8 ⟨rfl, S⟩
  refine ⟨_, rfl, rfl, fun a fr => ?_⟩
  first | refine e_ ?_ | refine wpList_nil ?_
  obtain ⟨x', hx'⟩ : ∃ z, z = addXI D x (beginR n) := ⟨_, rfl⟩
  obtain ⟨D', hD'⟩ : ∃ z, z = (addDI D x (beginR n)).sync := ⟨_, rfl⟩
  rw [← hx', ← hD'] at S
  have S := S.frontAt 2 rfl
  refine r_ rfl ?_
  repeat refine w_ oCh_ rfl fr fun a fr => ?_
  refine wl_stfA oCh_ 2 fr rfl rfl rfl rfl rfl rfl rfl rfl rfl S (by show 2 < 4; decide) ?_
  intro w9 S
  have S : Sat w0 w9 (chS b bl bm n bk :: logA bl bd x' :: diskA bd D' :: RR) := S
  refine er_ rfl rfl ?_
  repeat refine w_ oCh_ rfl fr fun a fr => ?_
  refine wl_build (cs := .int .u32 n :: .int .u8 1 :: .bool false :: .bool true :: .bool true :: [zV, zV, zV, zV].flatMap vtV) (L2 := [(0, .int .u32 n), (1, .int .u8 1), (3, .bool true), (4, .bool true)]) fr rfl rfl rfl rfl (by simp; exact ⟨(fr.ev (o := .tmp 65) rfl).1, rfl, rfl⟩) (by kernel_rfl) ?_ fun a fr => ?_
  ·refine (show (Value.int .u32 n :: .int .u8 1 :: .bool false :: .bool true :: .bool true :: [zV, zV, zV, zV].flatMap vtV).all vok1 = true from ?_)
   show ((Lit.int .u32 n).wf && _) = true
   rw [hnw]
   rfl
  refine wl_boxs fr rfl rfl rfl rfl rfl ?_ S ?_
  ·refine (show (Value.int .u32 n :: .int .u8 1 :: .bool false :: .bool true :: .bool true :: [zV, zV, zV, zV].flatMap vtV).all vok = true from ?_)
   show ((Lit.int .u32 n).wf && _) = true
   rw [hnw]
   rfl
  intro w10 bn S a fr
  have S : Sat w0 w10 (glA (bn, newG zV n []) :: chS b bl bm n bk :: logA bl bd x' :: diskA bd D' :: RR) := S
  repeat refine w_ oCh_ rfl fr fun a fr => ?_
  first | refine e_ ?_ | refine wpList_nil ?_
  rw [hRR] at S
  have S := (((((((S.frontAt 5 rfl).frontAt 5 rfl).frontAt 5 rfl).frontAt 5 rfl).frontAt 5 rfl).frontAt 5 rfl).frontAt 6 rfl)
  refine r_ rfl ?_
  (repeat (first | refine wl_run oCh_ 1 rfl fr fun a fr => ?_ | refine wl_ldf oCh_ (Sat.stAt S 0 rfl rfl) fr rfl rfl rfl rfl rfl rfl rfl fun a fr => ?_ | refine wl_ldf oCh_ (Sat.stAt S 1 rfl rfl) fr rfl rfl rfl rfl rfl rfl rfl fun a fr => ?_ | refine wl_ldf oCh_ (Sat.stAt S 2 rfl rfl) fr rfl rfl rfl rfl rfl rfl rfl fun a fr => ?_))
  refine wl_up (f := ptO) oCh_ (some bn) fr rfl rfl (.inl rfl) rfl rfl rfl rfl rfl S ?_
  intro w11 S
  have hup : upM (keysG gs) n (some bn) = keysG (gs ++ [(bn, newG zV n [])]) := by
   rw [upM_new (fun p hp => by
    obtain ⟨q, hq, rfl⟩ := List.mem_map.1 hp
    exact hnew q hq)]
   unfold keysG
   rw [List.map_append]
   rfl
  rw [hup] at S
  first | refine e_ ?_ | refine wpList_nil ?_
  have S := ((((((S.frontAt 4 rfl).frontAt 4 rfl).frontAt 3 rfl).frontAt 4 rfl).frontAt 6 rfl).frontAt 6 rfl)
  refine r_ rfl ?_
  (repeat (first | refine wl_run oCh_ 1 rfl fr fun a fr => ?_ | refine wl_ldf oCh_ (Sat.stAt S 0 rfl rfl) fr rfl rfl rfl rfl rfl rfl rfl fun a fr => ?_ | refine wl_ldf oCh_ (Sat.stAt S 1 rfl rfl) fr rfl rfl rfl rfl rfl rfl rfl fun a fr => ?_ | refine wl_ldf oCh_ (Sat.stAt S 2 rfl rfl) fr rfl rfl rfl rfl rfl rfl rfl fun a fr => ?_))
  refine wl_call fr rfl rfl rfl rfl enCkSet (ckset_call hnw rfl rfl rfl S) ?_
  rintro _ w12 ⟨rfl, S⟩
  refine ⟨_, rfl, rfl, fun a fr => ?_⟩
  refine er_ rfl rfl ?_
  repeat refine w_ oCh_ rfl fr fun a fr => ?_
  refine er_ rfl rfl ?_
  repeat refine w_ oCh_ rfl fr fun a fr => ?_
  first | refine e_ ?_ | refine wpList_nil ?_
  obtain ⟨m', hm'⟩ : ∃ z, z = upM m n (IntKind.wrap .i64 (now + 8)) := ⟨_, rfl⟩
  rw [← hm'] at S
  have S : Sat w0 w12 (glA (bn, newG zV n ((ps.take 0).map (·.1))) :: chS b bl bm n bk :: logA bl bd x' :: diskA bd D' :: ckS bk bw now :: ckM bw m' :: glM bm (gs ++ [(bn, newG zV n [])]) :: (gsT gs ++ R)) := (((((((S.frontAt 6 rfl).frontAt 2 rfl).frontAt 2 rfl).frontAt 6 rfl).frontAt 6 rfl).frontAt 5 rfl).frontAt 6 rfl)
  obtain ⟨hpl1, hpl2, hpl3⟩ := plan_ok hok
  have hpl4 := plan_few hok
  rw [List.length_map] at hpl4
  obtain ⟨RB, hRB⟩ : ∃ RB, RB = chS b bl bm n bk :: logA bl bd x' :: diskA bd D' :: ckS bk bw now :: ckM bw m' :: glM bm (gs ++ [(bn, newG zV n [])]) :: (gsT gs ++ R) := ⟨_, rfl⟩
  have hRB2 : ∀ w', Sat w0 w' RB → RdParts w' Ap ps := fun w' S' => hR w' (Sat.lastsT (chS b bl bm n bk :: logA bl bd x' :: diskA bd D' :: ckS bk bw now :: ckM bw m' :: glM bm (gs ++ [(bn, newG zV n [])]) :: gsT gs) (by rw [hRB] at S'; exact S'))
  have S : Sat w0 w12 (rvA 42 6 none 0 ([] : List BM).length (([] : List BM).flatMap (bmV n)) :: glA (bn, newG zV n ((ps.take 0).map (·.1))) :: (([] : List BM).map bmRow ++ RB)) := by
   rw [hRB]
   exact rv_nil 42 6 S
  refine q_ rfl ?_
  refine wp_block ?_
  refine cw_loop (fun q a w2 => ∃ (i : Nat) (A1 : Option Addr) (c1 : Nat) (qs : List BM), i + q = ps.length + 1 ∧ i ≤ ps.length ∧ qs.map (fun q => (q.1, q.2.2.2)) = (ps.take i).map (fun p => (p.1, p.2.2.2)) ∧ GlI (newG zV n ((ps.take i).map (·.1))) ∧ Fr 108 a [(0, .pointer (some ⟨b, 0, none⟩)), (10, .int .u32 n), (11, .pointer (some ⟨bn, 0, none⟩)), (12, .slice A1 qs.length c1), (80, .slice Ap ps.length cp), (81, .int .i64 (ps.length : Int)), (82, .int .i64 (i : Int))] ∧ Sat w0 w2 (rvA 42 6 A1 c1 qs.length (qs.flatMap (bmV n)) :: glA (bn, newG zV n ((ps.take i).map (·.1))) :: (qs.map bmRow ++ RB))) (ps.length + 1)
   ⟨0, none, 0, [], by omega, by omega, rfl, ⟨rfl, fun v hv => by
    have : v = zV := by simpa [newG, beginV] using hv
    rw [this]
    exact ⟨by decide, fun r hr => by cases hr⟩⟩, fr.sub ⟨rfl, rfl, rfl, rfl, rfl, rfl, rfl, trivial⟩, S⟩ ?_ ?_
  ·rintro a w2 ⟨i, _, _, _, h, h', -⟩
   omega
  clear fr S
  rintro q a w13 ⟨i, A1, c1, qs, hi, hi', hqs, hGI, fr, S⟩
  have hql : qs.length = i := by have := congrArg List.length hqs; simpa [Nat.min_eq_left hi'] using this
  refine r_ rfl ?_
  repeat refine w_ oCh_ rfl fr fun a fr => ?_
  first | refine e_ ?_ | refine wpList_nil ?_
  by_cases hlt : i < ps.length
  rotate_left
  ·have fr := fr.bool (d := 83) rfl (decide_eq_false (show ¬ (i : Int) < (ps.length : Int) by omega))
   obtain rfl : i = ps.length := by omega
   rw [List.take_length] at hqs hGI S
   refine q_ rfl ?_
   refine cw_f fr rfl ?_
   refine wp_exit ?_
   refine xr_ rfl rfl ?_
   repeat refine w_ oCh_ rfl fr fun a fr => ?_
   have hm2 := (Sat.rvAt S 0 rfl).2.1
   refine wl_call fr rfl rfl rfl rfl enClipMsg (clipMsg_call hm2) ?_
   rintro _ w14 ⟨rfl, rfl⟩
   refine ⟨_, rfl, vok_clip hm2, fun a fr => ?_⟩
   repeat refine w_ oCh_ rfl fr fun a fr => ?_
   first | refine e_ ?_ | refine wpList_nil ?_
   refine wp_ret ?_
   have hv3 : vok (.tuple #[.int .u32 n, .slice A1 ps.length ps.length, .int .i64 0]) = true := by
    have h1 : vokC (.slice A1 ps.length ps.length) = true := by rw [← hql]; exact vok_clip (A := A1) hm2
    show [Value.int .u32 n, .slice A1 ps.length ps.length, .int .i64 0].all vokC = true
    simp only [List.all_cons, List.all_nil, Bool.and_true, Bool.and_eq_true]
    exact ⟨hnw, h1, rfl⟩
   rw [hql] at fr
   refine ret3 fr rfl rfl rfl rfl (.inr (.inr (.inr ⟨hok, h64, q3, A1, c1, bn, rfl, hv3, hGI, ?_⟩)))
   have S := Sat.noGlR (p := (bn, newG zV n (ps.map (·.1)))) newG_l S
   rw [hRB] at S
   have eM : glM bm (gs ++ [(bn, newG zV n [])]) = glM bm (gs ++ [(bn, newG zV n (ps.map (·.1)))]) := by
    unfold glM keysG
    rw [List.map_append, List.map_append]
    rfl
   rw [eM] at S
   have S := S.perm (gs_new_perm (X := [chS b bl bm n bk, logA bl bd x', diskA bd D', ckS bk bw now, ckM bw m', glM bm (gs ++ [(bn, newG zV n (ps.map (·.1)))])]))
   have S := Sat.toBm S
   rw [hqs] at S
   rw [← hx', ← hD', ← hm']
   exact S
  have fr := fr.bool (d := 83) rfl (decide_eq_true (show (i : Int) < (ps.length : Int) by omega))
  refine q_ rfl ?_
  refine cw_t fr rfl ?_
  refine wp_skip ?_
  with_reducible refine then_n ?_
  obtain ⟨ad, hA⟩ : ∃ ad, Ap = some ad := (hRB2 _ (Sat.lastsT (rvA 42 6 A1 c1 qs.length (qs.flatMap (bmV n)) :: glA (bn, newG zV n ((ps.take i).map (·.1))) :: qs.map bmRow) S)).some hlt
  have hcell := (hRB2 _ (Sat.lastsT (rvA 42 6 A1 c1 qs.length (qs.flatMap (bmV n)) :: glA (bn, newG zV n ((ps.take i).map (·.1))) :: qs.map bmRow) S)).cell i hlt ad hA
  have hmem : ps[i] ∈ ps := List.getElem_mem hlt
  have hm' := hW.m _ hmem
  have hro : ∀ w', Sat w0 w' RB → RdOps w' ps[i].2.1 ps[i].2.2.2 := fun w' S' => (hRB2 w' S').ops _ hmem
  have hwo := hW.o _ hmem
  have hk := hW.k _ hmem
  have hbd := hpl1 (partOf ps[i]) (List.mem_map.2 ⟨_, hmem, rfl⟩)
  have htk : (ps.take (i + 1)) = ps.take i ++ [ps[i]] := List.take_succ_eq_append_getElem hlt
  have hxv : (pcV ps[i]).all vok1 = true := by
   simp only [pcV, List.all_cons, List.all_nil, Bool.and_true, Bool.and_eq_true]
   exact ⟨hk, vok_sl (A := ps[i].2.1) hm'⟩
  generalize ps[i] = pp at hcell hm' hro hwo hk hbd htk hxv
  obtain ⟨k1, A', c', lo⟩ := pp
  have hbd : 1 ≤ k1 ∧ k1 ≤ 3 ∧ 1 ≤ lo.length ∧ lo.length ≤ 16 := hbd
  obtain ⟨k, rfl⟩ : ∃ k : Nat, k1 = k := ⟨k1.toNat, by omega⟩
  have hm' : lo.length ≤ c' ∧ c' ≤ maxLen := hm'
  have hro : ∀ w', Sat w0 w' RB → RdOps w' A' lo := hro
  have hwo : ∀ y ∈ lo, OpW y := hwo
  have hk : (Lit.int .u8 (k : Int)).wf = true := hk
  have hcell : ∀ j u, ([Value.int .u8 (k : Int), .slice A' lo.length c'])[j]? = some u → w13.cell? (ad.add (i * 2 + j)) = some u := hcell
  have hxv : [Value.int .u8 (k : Int), .slice A' lo.length c'].all vok1 = true := hxv
  refine q_ rfl ?_
  refine wp_block ?_
  refine r_ rfl ?_
  refine wl_ldrs (cs := [.int .u8 (k : Int), .slice A' lo.length c']) oCh_ (i := (i : Int)) (z := 2) ⟨ad, hA, fun j u hu => hcell j u hu⟩ hxv fr rfl rfl rfl rfl rfl rfl rfl rfl rfl rfl rfl rfl rfl rfl rfl rfl ⟨by omega, by omega⟩ fun a fr => ?_
  refine wl_allocg (zs := [.int .u8 0, .slice none 0 0]) fr rfl rfl rfl rfl (fun _ => by kernel_rfl) rfl S ?_
  intro w14 g S a fr
  refine wl_stg (cs := [.int .u8 0, .slice none 0 0]) (vs := [.int .u8 (k : Int), .slice A' lo.length c']) oCh_ fr rfl rfl rfl rfl rfl rfl rfl (by
   simp only [List.all_cons, List.all_nil, Bool.and_true, Bool.and_eq_true]
   exact ⟨⟨rfl, hk⟩, rfl, vok_sl (A := A') hm'⟩) S ?_
  intro w15 S
  first | refine e_ ?_ | refine wpList_nil ?_
  obtain ⟨G, hG⟩ : ∃ G, G = newG zV n ((ps.take i).map (·.1)) := ⟨_, rfl⟩
  rw [← hG] at S hGI
  refine q_ rfl ?_
  refine wp_region_sl [u_ 0 86, u_ 1 87, u_ 2 88, u_ 3 89, u_ 4 90, u_ 5 91, u_ 6 92, .one (7, false, none)]
        [m_ 86 11 83,
        f_ 87 39 14 0,
        l_ 88 5 87,
        c_ 89 86,
        f_ 90 88 89 5,
        i_ 91 86 90 88,
        f_ 92 85 91 0,
        .one ⟨false, none, (.store 4 (.tmp 92) (.const (.bool true))), 0, none⟩]
        (fun v => Sat w0 v [stA 39 g [.int .u8 (k : Int), .slice A' lo.length c']]) rfl (by kernel_rfl) (by kernel_rfl) ?_ ?_
  ·exact S.drew.firsts [_]
  have S := S.drew
  have hS : Sat w0 _ [stA 39 g [.int .u8 (k : Int), .slice A' lo.length c']] := S.firsts [_]
  (repeat (first | refine sl_run oCh_ 1 rfl fr fun a fr => ?_ | refine sl_ldf oCh_ (fun _ S => Sat.stAt S 0 rfl rfl) fr rfl rfl rfl rfl rfl rfl rfl rfl (by assumption) fun a fr => ?_))
  refine sl_ixa oCh_ fr rfl rfl rfl rfl rfl rfl rfl rfl rfl ⟨by omega, by omega⟩ fun a fr => ?_
  repeat refine sl_run oCh_ 1 rfl fr fun a fr => ?_
  have hkv : k < G.v.length := by rw [hGI.len]; omega
  refine sl_stfA oCh_ (5 + (k * 4 + 0)) fr rfl rfl rfl rfl rfl (vt_addr k 0) rfl rfl rfl rfl (S.frontAt 2 rfl) (by
   show 5 + (k * 4 + 0) < (G.v.flatMap vtV).length + 1 + 1 + 1 + 1 + 1
   rw [el_len vtV_len]; omega) ?_
  intro w16 S
  rw [gl_set (f := vPart) (by decide) (fun _ => rfl)] at S
  have eG : ({ G with v := updV vPart k G.v } : Gl RawV) = newG zV n ((ps.take (i + 1)).map (·.1)) := by
   rw [htk, hG]
   unfold newG beginV
   rw [List.map_append, List.foldl_append]
   rfl
  rw [eG] at S
  have S : Sat w0 w16 (glA (bn, newG zV n ((ps.take (i + 1)).map (·.1))) :: stA 39 g [.int .u8 (k : Int), .slice A' lo.length c'] :: rvA 42 6 A1 c1 qs.length (qs.flatMap (bmV n)) :: (qs.map bmRow ++ RB)) := S
  have S := S.frontAt 1 rfl
  refine ⟨S.firsts [_], sl_end ?_⟩
  repeat with_reducible refine then_n ?_
  have hGI2 : GlI (newG zV n ((ps.take (i + 1)).map (·.1))) := by
   rw [← eG]
   refine ⟨by show (updV vPart k G.v).length = 4; rw [updV_len]; exact hGI.len, fun v hv => ?_⟩
   rcases updV_mem (show v ∈ updV vPart k G.v from hv) with hv | ⟨u, hu, rfl⟩
   ·exact hGI.few v hv
   ·exact hGI.few u hu
  obtain ⟨G2, eG2⟩ : ∃ G2, newG zV n ((ps.take (i + 1)).map (·.1)) = G2 := ⟨_, rfl⟩
  rw [eG2] at S hGI2
  refine q_ rfl ?_
  refine wp_region_sl [u_ 0 93, u_ 1 94, u_ 2 95, u_ 3 96, u_ 4 97, u_ 5 98, .one (6, false, some 99), .one (7, false, some 100), u_ 8 101, .one (9, false, some 102), .one (10, false, some 103), u_ 11 12]
        [m_ 93 12 27,
        f_ 94 39 14 0,
        l_ 95 5 94,
        m_ 96 10 31,
        f_ 97 39 14 1,
        l_ 98 37 97,
        .one ⟨false, some 99, (.call { callee := (.value (.func 38)), args := #[(.tmp 98)], argTypes := #[37] }), 37, none⟩,
        .one ⟨false, some 100, (.call { callee := (.value (.func 37)), args := #[(.tmp 99)], argTypes := #[37] }), 37, none⟩,
        .one ⟨true, some 101, (.build 42 #[(0, (.const (.int .u8 1))), (2, (.tmp 95)), (3, (.tmp 96)), (4, (.tmp 100))]), 42, none⟩,
        .one ⟨false, some 102, (.buildSlice 27 1 #[(0, (.tmp 101))]), 27, none⟩,
        .one ⟨false, some 103, (.call { callee := (.builtin Go.Builtin.append), args := #[(.tmp 93), (.tmp 102)], argTypes := #[27, 27] }), 27, none⟩,
        .one ⟨true, some 12, (.assign (.tmp 103)), 27, none⟩]
        (fun v => Sat w0 v [stA 39 g [.int .u8 (k : Int), .slice A' lo.length c']]) rfl (by kernel_rfl) (by kernel_rfl) ?_ ?_
  ·exact S.drew.firsts [_]
  have S := S.drew
  have hS : Sat w0 _ [stA 39 g [.int .u8 (k : Int), .slice A' lo.length c']] := S.firsts [_]
  (repeat (first | refine sl_run oCh_ 1 rfl fr fun a fr => ?_ | refine sl_ldf oCh_ (fun _ S => Sat.stAt S 0 rfl rfl) fr rfl rfl rfl rfl rfl rfl rfl rfl (by assumption) fun a fr => ?_))
  have hro3 : ∀ w', Sat w0 w' (stA 39 g [.int .u8 (k : Int), .slice A' lo.length c'] :: glA (bn, G2) :: rvA 42 6 A1 c1 qs.length (qs.flatMap (bmV n)) :: (qs.map bmRow ++ RB)) → RdOps w' A' lo := fun w' S' => hro w' (Sat.lastsT (stA 39 g [.int .u8 (k : Int), .slice A' lo.length c'] :: glA (bn, G2) :: rvA 42 6 A1 c1 qs.length (qs.flatMap (bmV n)) :: qs.map bmRow) S')
  refine sl_call fr rfl rfl rfl rfl rfl enCloneOp (cloneOp_call (l := lo) hm' (by omega) (hro3 _ S).none (fun w' S' => (hro3 w' S').cell) hwo S) ?_
  rintro _ w17 ⟨A7, c7, rfl, hv7, S⟩
  refine ⟨_, rfl, hv7, (S.frontAt 1 rfl).firsts [_], fun a fr => ?_⟩
  have hm7 := (Sat.rvAt S 0 rfl).2.1
  have hS := (S.frontAt 1 rfl).firsts [_]
  refine sl_call fr rfl rfl rfl rfl rfl enClipOp (clipOp_call hm7) ?_
  rintro _ w18 ⟨rfl, rfl⟩
  refine ⟨_, rfl, vok_clip hm7, hS, fun a fr => ?_⟩
  have hpv : (bmV n ((k : Int), A7, c7, lo)).all vok1 = true := by
   simp only [bmV, List.all_cons, List.all_nil, Bool.and_true, Bool.and_eq_true]
   exact ⟨rfl, rfl, hk, hnw, vok_clip (A := A7) hm7, rfl⟩
  refine sl_build (cs := bmV n ((k : Int), A7, c7, lo)) (L2 := [(0, .int .u8 1), (2, .int .u8 (k : Int)), (3, .int .u32 n), (4, .slice A7 lo.length lo.length)]) fr rfl rfl rfl rfl rfl (by simp; exact ⟨rfl, (fr.ev (o := .tmp 95) rfl).1, (fr.ev (o := .tmp 96) rfl).1, (fr.ev (o := .tmp 100) rfl).1⟩) (by kernel_rfl) hpv fun a fr => ?_
  refine sl_lit1 (cs := bmV n ((k : Int), A7, c7, lo)) (z := 6) Tryz.underlying27 (by kernel_rfl) rfl fr rfl rfl rfl rfl rfl rfl rfl hpv S ?_
  intro w19 A9 c9 S
  refine ⟨(S.frontAt 2 rfl).firsts [_], fun a fr => ?_⟩
  have S := S.frontAt 4 rfl
  refine sl_rvapp (z := 6) (bytes := 56) Tryz.underlying27 (by kernel_rfl) rfl rfl fr rfl rfl rfl rfl rfl rfl rfl rfl (by rw [hql]; omega) (S.frontAt 1 rfl) ?_
  intro w20 A8 c8 S
  have S : Sat w0 w20 (rvA 42 6 A8 c8 (qs.length + 1) (qs.flatMap (bmV n) ++ bmV n ((k : Int), A7, c7, lo)) :: bmRow ((k : Int), A7, c7, lo) :: stA 39 g [.int .u8 (k : Int), .slice A' lo.length c'] :: glA (bn, G2) :: (qs.map bmRow ++ RB)) := S
  refine ⟨(S.frontAt 2 rfl).firsts [_], fun a fr => ?_⟩
  repeat refine sl_run oCh_ 1 rfl fr fun a fr => ?_
  refine sl_end ?_
  refine r_ rfl ?_
  repeat refine w_ oCh_ rfl fr fun a fr => ?_
  first | refine e_ ?_ | refine wpList_nil ?_
  have fr := fr.spell (d := 82) rfl (congrArg (Value.int .i64) (i64_next hlt (by omega)))
  have eln : qs.length + 1 = (qs ++ [(((k : Int), A7, c7, lo) : BM)]).length := by rw [List.length_append]; rfl
  have S := (S.frontAt 2 rfl).tl
  have S : Sat w0 w20 (rvA 42 6 A8 c8 (qs.length + 1) (qs.flatMap (bmV n) ++ bmV n ((k : Int), A7, c7, lo)) :: bmRow ((k : Int), A7, c7, lo) :: glA (bn, G2) :: (qs.map bmRow ++ RB)) := S
  have hp2 : (bmRow ((k : Int), A7, c7, lo) :: glA (bn, G2) :: (qs.map bmRow ++ RB)).Perm (glA (bn, G2) :: ((qs ++ [(((k : Int), A7, c7, lo) : BM)]).map bmRow ++ RB)) := by
   refine (List.Perm.swap _ _ _).trans (List.Perm.cons _ ?_)
   exact map_snoc bmRow
  have S := S.perm (List.Perm.cons _ hp2)
  rw [← el_snoc, eln] at S
  rw [eln] at fr
  refine ⟨i + 1, A8, c8, qs ++ [((k : Int), A7, c7, lo)], by omega, by omega, ?_, ?_, fr.sub ⟨rfl, rfl, rfl, rfl, rfl, rfl, rfl, trivial⟩, ?_⟩
  ·rw [htk, List.map_append, List.map_append, hqs]
   rfl
  ·rw [eG2]; exact hGI2
  ·rw [eG2]; exact S
 ·intro w5 p l1 l2 hl S a fr
  obtain ⟨t1, q0, t2, rfl, rfl, rfl, rfl⟩ := keys_split hl
  repeat refine w_ oCh_ rfl fr fun a fr => ?_
  refine eq_ rfl rfl ?_
  refine cw_t fr rfl ?_
  refine wp_skip ?_
  refine q_ rfl ?_
  refine wp_block ?_
  refine r_ rfl ?_
  refine wl_entry (fun z => ptO_vok z) fr rfl rfl rfl rfl rfl S ?_
  intro a fr
  have hq0 : q0 ∈ gs := ht _ (by simp)
  obtain ⟨j, hj, hgj⟩ := List.mem_iff_getElem.1 hq0
  have fr := fr.spell (d := 30) rfl (show Value.tuple #[.int .u32 q0.2.g, ptO (some q0.1)] = .tuple #[.int .u32 q0.2.g, .pointer (some ⟨q0.1, 0, none⟩)] from rfl)
  repeat refine w_ oCh_ rfl fr fun a fr => ?_
  first | refine e_ ?_ | refine wpList_nil ?_
  have S' : Sat w0 w5 ([iterA .u32 ptO bm r (keysG gs) (keysG (t1 ++ t2)) (some (q0.2.g, some q0.1)), chS b bl bm last bk, logA bl bd x, diskA bd D, ckS bk bw now, ckM bw m] ++ (gsT gs ++ R)) := by
   have : keysG (t1 ++ t2) = keysG t1 ++ keysG t2 := List.map_append
   rw [this]
   exact S
  have S6 := S'.perm (List.Perm.append_left _ (List.Perm.append_right R (gs_take hj)))
  rw [hgj] at S6
  have S6 : Sat w0 w5 (iterA .u32 ptO bm r (keysG gs) (keysG (t1 ++ t2)) (some (q0.2.g, some q0.1)) :: chS b bl bm last bk :: logA bl bd x :: diskA bd D :: ckS bk bw now :: ckM bw m :: glA q0 :: ((glR q0 ++ gsT (gs.eraseIdx j)) ++ R)) := S6
  refine r_ rfl ?_
  repeat refine w_ oCh_ rfl fr fun a fr => ?_
  refine wl_ldf oCh_ (v := .int .u8 q0.2.ph) (Sat.stAt S6 6 rfl (j := 1) rfl) fr rfl rfl rfl rfl rfl rfl rfl fun a fr => ?_
  repeat refine w_ oCh_ rfl fr fun a fr => ?_
  first | refine e_ ?_ | refine wpList_nil ?_
  have hsp := open_split (l1 := t1) (l2 := t2) (p := q0)
  rw [hsp] at hcnt
  have hlen : (t1 ++ q0 :: t2).length = (t1 ++ t2).length + 1 := by simp only [List.length_append, List.length_cons]; omega
  rw [hlen] at hq
  have htt : ∀ p ∈ t1 ++ t2, p ∈ gs := fun p hp => ht p (by
   rcases List.mem_append.1 hp with h | h
   ·exact List.mem_append_left _ h
   ·exact List.mem_append_right _ (List.mem_cons_of_mem _ h))
  refine bs 36 fr rfl (fun q2 fr => ?_) (fun q2 fr => ?_)
  ·rw [if_pos q2] at hcnt
   refine q_ rfl ?_
   refine cw_t fr rfl ?_
   refine r_ rfl ?_
   repeat refine w_ oCh_ rfl fr fun a fr => ?_
   first | refine e_ ?_ | refine wpList_nil ?_
   repeat first | with_reducible refine then_n ?_ | with_reducible refine blk_n ?_
   have fr := fr.spell (d := 7) rfl (congrArg (Value.int .i64) (i64_next (show cnt < 1001 by omega) (by omega)))
   exact ⟨t1 ++ t2, cnt + 1, some (q0.2.g, some q0.1), by omega, htt, by omega, fr.sub ⟨rfl, rfl, rfl, rfl, trivial⟩, S'⟩
  ·rw [if_neg (by rw [show (q0.2.ph != 4) = false from q2]; decide)] at hcnt
   refine q_ rfl ?_
   refine cw_f fr rfl ?_
   refine wp_skip ?_
   repeat first | with_reducible refine then_n ?_ | with_reducible refine blk_n ?_
   exact ⟨t1 ++ t2, cnt, some (q0.2.g, some q0.1), by omega, htt, by omega, fr.sub ⟨rfl, rfl, rfl, rfl, trivial⟩, S'⟩
end
end Go.Proofs.YticnjkdaccacaaaGreat.Sx
end
section
namespace Go.Proofs.YticnjkdaccacaaaGreat.Sx
open Go Go.RowKit Base Oq Disk Bytes
def chunks : Nat → List Int → List (List Int)
 | 0, _ => []
 | k + 1, b => b.take 64 :: chunks k (b.drop 64)
def fsec (r : List Int) : List (List Int) := chunks (Frames.nsec r.length) (Frames.put r)
def fsecs (ls : List (List Int)) : List (List Int) := ls.flatMap fsec
def lenS (ls : List (List Int)) : Nat := (ls.map fun r => Frames.nsec r.length).sum
def zs (k : Nat) : List (List Int) := List.replicate k (List.replicate 64 0)
def wl : Nat → List (List Int) → List (Int × List Int)
 | _, [] => []
 | x, p :: r => ((x : Int), p) :: wl (x + 1) r
theorem chunks_len : ∀ (k : Nat) (b : List Int), (chunks k b).length = k := by
 intro k
 induction k with
 | zero => intro b; rfl
 | succ k ih => intro b; rw [chunks, List.length_cons, ih]
theorem chunks_flat : ∀ (k : Nat) (b : List Int), b.length = k * 64 → (chunks k b).flatten = b := by
 intro k
 induction k with
 | zero =>
  intro b h
  have hb : b = [] := List.eq_nil_of_length_eq_zero (by omega)
  rw [hb]; rfl
 | succ k ih => intro b h; rw [chunks, List.flatten_cons, ih _ (by rw [List.length_drop]; omega), List.take_append_drop]
theorem chunks_64 : ∀ (k : Nat) (b : List Int), b.length = k * 64 → ∀ p ∈ chunks k b, p.length = 64 := by
 intro k
 induction k with
 | zero => intro b _ p hp; cases hp
 | succ k ih =>
  intro b h p hp
  rcases List.mem_cons.1 hp with rfl | hp
  ·rw [List.length_take]; omega
  ·exact ih _ (by rw [List.length_drop]; omega) p hp
theorem fsec_len (r : List Int) : (fsec r).length = Frames.nsec r.length := chunks_len _ _
theorem fsec_flat (r : List Int) : (fsec r).flatten = Frames.put r := chunks_flat _ _ (Frames.put_length r)
theorem fsecs_len (ls : List (List Int)) : (fsecs ls).length = lenS ls := by
 unfold fsecs lenS
 rw [List.length_flatMap]
 congr 1
 exact List.map_congr_left fun r _ => fsec_len r
theorem fsecs_snoc (ls : List (List Int)) (r : List Int) : fsecs (ls ++ [r]) = fsecs ls ++ fsec r := by simp [fsecs]
theorem lenS_snoc (ls : List (List Int)) (r : List Int) : lenS (ls ++ [r]) = lenS ls + Frames.nsec r.length := by simp [lenS]
theorem nsec_pos (n : Nat) : 1 ≤ Frames.nsec n := by unfold Frames.nsec; omega
theorem lenS_ge (ls : List (List Int)) : ls.length ≤ lenS ls := by
 induction ls with
 | nil => exact Nat.le_refl _
 | cons r ls ih =>
  have := nsec_pos r.length
  simp only [lenS, List.map_cons, List.sum_cons, List.length_cons] at *
  omega
theorem zs_flat (k : Nat) : (zs k).flatten = List.replicate (k * 64) 0 := by
 unfold zs
 rw [List.flatten_replicate_replicate]
theorem zs_add (j k : Nat) : zs j ++ zs k = zs (j + k) := by unfold zs; rw [List.replicate_append_replicate]
theorem put_nil : Frames.put [] ≠ List.replicate 64 0 := by
 intro h
 have : (Frames.put []).getD 4 0 = 0 := by rw [h]; rfl
 revert this
 decide
theorem val_zeros : ∀ (k m : Nat), Frames.val (List.replicate m 0) k = 0 := by
 intro k
 induction k with
 | zero => intro m; rfl
 | succ k ih =>
  intro m
  rw [Frames.val, ih, List.getD_eq_getElem?_getD, List.getElem?_replicate]
  split <;> rfl
theorem get_zeros (m : Nat) : Frames.get (List.replicate m 0) = none := by
 unfold Frames.get
 rw [List.length_replicate, val_zeros]
 split
 ·rfl
 ·rw [if_neg (by decide)]
  have h0 : Frames.nsec (Int.toNat 0) * 64 = 64 := rfl
  rw [h0]
  split
  ·rfl
  ·rename_i h
   have e : Int.toNat 0 = 0 := rfl
   rw [if_neg]
   rw [e, List.take_zero, List.take_replicate, Nat.min_eq_left (by omega)]
   exact put_nil
theorem parse_recs : ∀ (ls : List (List Int)) (rest : List Int) (k : Nat), (∀ r ∈ ls, r.length ≤ 16384) → Frames.get rest = none → ls.length < k → parse k ((fsecs ls).flatten ++ rest) = ls.map fun r => (r, Frames.nsec r.length) := by
 intro ls
 induction ls with
 | nil =>
  intro rest k _ hg hk
  obtain ⟨k, rfl⟩ : ∃ q, k = q + 1 := ⟨k - 1, by simp only [List.length_nil] at hk; omega⟩
  show parse (k + 1) ([] ++ rest) = []
  rw [List.nil_append, parse, hg]
 | cons r ls ih =>
  intro rest k hl hg hk
  rw [List.length_cons] at hk
  obtain ⟨k, rfl⟩ : ∃ q, k = q + 1 := ⟨k - 1, by omega⟩
  have e : (fsecs (r :: ls)).flatten ++ rest = Frames.put r ++ ((fsecs ls).flatten ++ rest) := by
   rw [show fsecs (r :: ls) = fsec r ++ fsecs ls by simp [fsecs], List.flatten_append, fsec_flat, List.append_assoc]
  rw [e, parse, Frames.get_put r _ (hl r List.mem_cons_self)]
  simp only
  rw [← Frames.put_length, List.drop_left, ih rest k (fun q hq => hl q (List.mem_cons_of_mem _ hq)) hg (by omega)]
  rfl
theorem pad_64 {b : List Int} (h : b.length = 64) : pad b = b := by unfold pad; rw [h]; simp
theorem writeR_in {D : Dk} {x : Nat} {b : List Int} (hx : x < D.seen.length) (hb : b.length = 64) : D.writeR x b = { D with seen := D.seen.set x b, waits := D.waits ++ [((x : Int), b)] } := by
 have hm : mayOk D.seen.length x = 0 := by unfold mayOk; rw [if_pos (by omega)]
 have hc : writeCode D.seen.length x b = 0 := by unfold writeCode; rw [hm, if_neg (by omega)]
 unfold Dk.writeR
 rw [if_pos hc, pad_64 hb]; rfl
theorem set_take {α : Type} {l : List α} {x : Nat} (hx : x < l.length) (v : α) : (l.set x v).take (x + 1) = l.take x ++ [v] := by
 rw [List.take_succ_eq_append_getElem (by rw [List.length_set]; exact hx), List.getElem_set_self, List.take_set_of_le (Nat.le_refl _)]
theorem wrs_is : ∀ (k : Nat) (D : Dk) (x : Nat) (b : List Int), b.length = k * 64 → x + k ≤ D.seen.length →
  wrs D x k b = { D with seen := D.seen.take x ++ (chunks k b ++ D.seen.drop (x + k)), waits := D.waits ++ wl x (chunks k b) } := by
 intro k
 induction k with
 | zero =>
  intro D x b _ _
  rw [wrs, chunks, wl, List.nil_append, Nat.add_zero, List.take_append_drop, List.append_nil]
 | succ k ih =>
  intro D x b hb hx
  have h64 : (b.take 64).length = 64 := by rw [List.length_take]; omega
  rw [wrs, writeR_in (by omega) h64, ih _ _ _ (by rw [List.length_drop]; omega) (by simp only [List.length_set]; omega)]
  simp only
  rw [set_take (by omega), List.drop_set_of_lt (by omega), chunks, wl, List.append_assoc, List.append_assoc, show x + 1 + k = x + (k + 1) by omega]
  rfl
structure Lg (D : Dk) (n : Nat) (ls : List (List Int)) : Prop where
 seen : D.seen = fsecs ls ++ zs (n - lenS ls)
 len : lenS ls ≤ n
 recs : ∀ r ∈ ls, r.length ≤ 16384
theorem Lg.size {D : Dk} {n : Nat} {ls : List (List Int)} (h : Lg D n ls) : D.seen.length = n := by
 have := h.len
 rw [h.seen, List.length_append, fsecs_len, zs, List.length_replicate]; omega
theorem Lg.found {D : Dk} {n : Nat} {ls : List (List Int)} (h : Lg D n ls) : found D = ls.map fun r => (r, Frames.nsec r.length) := by
 unfold Sx.found
 have h1 := lenS_ge ls
 have e : D.seen.flatten = (fsecs ls).flatten ++ List.replicate ((n - lenS ls) * 64) 0 := by rw [h.seen, List.flatten_append, zs_flat]
 have hl : ls.length ≤ D.seen.flatten.length := by
  have h2 : (fsecs ls).flatten.length = lenS ls * 64 := by
   have : ∀ (l : List (List Int)), (fsecs l).flatten.length = lenS l * 64 := by
    intro l
    induction l with
    | nil => rfl
    | cons r l ih =>
     rw [show fsecs (r :: l) = fsec r ++ fsecs l by simp [fsecs], List.flatten_append, List.length_append, ih, fsec_flat, Frames.put_length]
     simp only [lenS, List.map_cons, List.sum_cons]
     omega
   exact this ls
  rw [e, List.length_append]
  omega
 rw [show parse (D.seen.flatten.length + 1) D.seen.flatten = parse (D.seen.flatten.length + 1) ((fsecs ls).flatten ++ List.replicate ((n - lenS ls) * 64) 0) by rw [← e]]
 exact parse_recs ls _ _ h.recs (get_zeros _) (by omega)
theorem Lg.told {D : Dk} {n : Nat} {ls : List (List Int)} (h : Lg D n ls) : recsD D = ls := by
 unfold recsD
 rw [h.found, List.map_map]
 show ls.map (fun r => r) = ls
 exact List.map_id' ls
theorem Lg.at {D : Dk} {n : Nat} {ls : List (List Int)} (h : Lg D n ls) : atD D = lenS ls := by
 unfold atD secs
 rw [h.found, List.map_map]
 rfl
theorem Lg.add {D : Dk} {n : Nat} {ls : List (List Int)} (h : Lg D n ls) {l : List Int} (hl : l.length ≤ 16384) (hf : lenS ls + Frames.nsec l.length ≤ n) :
  addE D (lenS ls) l = 0 ∧ addX D (lenS ls) l = lenS (ls ++ [l]) ∧ Lg (addD D (lenS ls) l) n (ls ++ [l]) ∧ (addD D (lenS ls) l).sure = D.sure ∧ (addD D (lenS ls) l).waits = D.waits ++ wl (lenS ls) (fsec l) := by
 have hs := h.size
 have e : addE D (lenS ls) l = 0 := by unfold addE; rw [if_neg (by omega), if_neg (by omega)]
 have hd : addD D (lenS ls) l = wrs D (lenS ls) (Frames.nsec l.length) (Frames.put l) := by unfold addD; rw [if_pos e]
 rw [hd, wrs_is _ _ _ _ (Frames.put_length l) (by omega)]
 refine ⟨e, by unfold addX; rw [if_pos e, lenS_snoc], ⟨?_, by rw [lenS_snoc]; exact hf, fun r hr => ?_⟩, rfl, rfl⟩
 ·show D.seen.take (lenS ls) ++ (fsec l ++ D.seen.drop (lenS ls + Frames.nsec l.length)) = _
  have hz : (zs (n - (fsecs ls).length)).drop ((fsecs ls).length + Frames.nsec l.length - (fsecs ls).length) = zs (n - lenS (ls ++ [l])) := by
   rw [zs, zs, List.drop_replicate, lenS_snoc, fsecs_len]
   congr 1
   omega
  rw [h.seen, ← fsecs_len, List.take_left, List.drop_append, List.drop_eq_nil_of_le (by omega), List.nil_append, hz, fsecs_snoc, List.append_assoc]
 ·rcases List.mem_append.1 hr with hr | hr
  ·exact h.recs r hr
  ·rw [List.mem_singleton] at hr; rw [hr]; exact hl
theorem Lg.ofSeen {D D' : Dk} {n : Nat} {ls : List (List Int)} (h : Lg D n ls) (e : D'.seen = D.seen) : Lg D' n ls := ⟨by rw [e]; exact h.seen, h.len, h.recs⟩
theorem Lg.sync {D : Dk} {n : Nat} {ls : List (List Int)} (h : Lg D n ls) : Lg D.sync n ls := h.ofSeen rfl
theorem Lg.start (n : Nat) : Lg (Disk.blank n) n [] := ⟨by show zs n = [] ++ zs (n - 0); rfl, Nat.zero_le _, fun r hr => by cases hr⟩
theorem flat_sec : ∀ (l : List (List Int)) (i : Nat), (∀ p ∈ l, p.length = 64) → i < l.length → (l.flatten.drop (i * 64)).take 64 = l.getD i [] := by
 intro l
 induction l with
 | nil => intro i _ h; simp at h
 | cons p l ih =>
  intro i hp hi
  have h64 := hp p List.mem_cons_self
  cases i with
  | zero => simp [List.take_append, h64]
  | succ i =>
   rw [List.flatten_cons, show (i + 1) * 64 = p.length + i * 64 by omega, List.drop_append, show p.length + i * 64 - p.length = i * 64 by omega, List.drop_eq_nil_of_le (by omega), List.nil_append, ih i (fun q hq => hp q (List.mem_cons_of_mem _ hq)) (by simpa using hi)]
   rfl
theorem clr_seen {s : List (List Int)} (hs : ∀ p ∈ s, p.length = 64) : ∀ (k i : Nat) (D : Dk), i + k = s.length → D.seen.length = s.length → (∀ j, i ≤ j → D.seen.getD j [] = s.getD j []) → (clr s.flatten k i D).seen = D.seen.take i ++ zs k := by
 intro k
 induction k with
 | zero => intro i D h1 h2 _; rw [clr, List.take_of_length_le (by omega)]; simp [zs]
 | succ k ih =>
  intro i D h1 h2 h3
  have hi : i < D.seen.length := by omega
  have hz : ∀ k : Nat, [List.replicate 64 (0 : Int)] ++ zs k = zs (k + 1) := fun k => rfl
  rw [clr, flat_sec s i hs (by omega)]
  by_cases he : s.getD i [] = List.replicate 64 0
  ·rw [if_pos he, ih (i + 1) D (by omega) h2 (fun j hj => h3 j (by omega)), List.take_succ_eq_append_getElem hi, List.append_assoc]
   have : D.seen[i] = List.replicate 64 0 := by
    have := h3 i (Nat.le_refl _)
    rw [he, List.getD_eq_getElem?_getD, List.getElem?_eq_getElem hi] at this
    exact this
   rw [this, hz]
  ·rw [if_neg he, writeR_in hi (List.length_replicate), ih (i + 1) _ (by omega) (by simp only [List.length_set]; exact h2) (fun j hj => ?_)]
   ·simp only
    rw [set_take hi, List.append_assoc, hz]
   ·simp only
    rw [← h3 j (by omega), List.getD_eq_getElem?_getD, List.getD_eq_getElem?_getD, List.getElem?_set_ne (by omega)]
theorem openD_is {D : Dk} (hs : ∀ p ∈ D.seen, p.length = 64) (ha : atD D ≤ D.seen.length) : openD D = ⟨D.seen.take (atD D) ++ zs (D.seen.length - atD D), D.seen.take (atD D) ++ zs (D.seen.length - atD D), []⟩ := by
 unfold openD Dk.sync
 rw [clr_seen hs _ _ D (by omega) rfl (fun _ _ => rfl)]
theorem fsecs_64 (ls : List (List Int)) : ∀ p ∈ fsecs ls, p.length = 64 := by
 intro p hp
 obtain ⟨r, _, hr⟩ := List.mem_flatMap.1 hp
 exact chunks_64 _ _ (Frames.put_length r) p hr
theorem Lg.sec64 {D : Dk} {n : Nat} {ls : List (List Int)} (h : Lg D n ls) : ∀ p ∈ D.seen, p.length = 64 := by
 intro p hp
 rw [h.seen] at hp
 rcases List.mem_append.1 hp with hp | hp
 ·exact fsecs_64 ls p hp
 ·rw [List.eq_of_mem_replicate hp]; exact List.length_replicate
theorem Lg.opened {D : Dk} {n : Nat} {ls : List (List Int)} (h : Lg D n ls) : openD D = ⟨D.seen, D.seen, []⟩ := by
 have hs := h.size
 have hl := h.len
 rw [openD_is h.sec64 (by rw [h.at]; omega), h.at, hs]
 have e : D.seen.take (lenS ls) ++ zs (n - lenS ls) = D.seen := by rw [h.seen, ← fsecs_len, List.take_left]
 rw [e]
theorem Lg.open_ {D : Dk} {n : Nat} {ls : List (List Int)} (h : Lg D n ls) : Lg (openD D) n ls ∧ (openD D).waits = [] ∧ (openD D).sure = (openD D).seen := by
 rw [h.opened]
 exact ⟨h.ofSeen rfl, rfl, rfl⟩
theorem Lg.addI {D : Dk} {n : Nat} {ls : List (List Int)} (h : Lg D n ls) {l : List Int} (hl : l.length ≤ 16384) (hf : lenS ls + Frames.nsec l.length ≤ n) :
  addEI D (lenS ls : Nat) l = 0 ∧ addXI D (lenS ls : Nat) l = (lenS (ls ++ [l]) : Nat) ∧ Lg (addDI D (lenS ls : Nat) l) n (ls ++ [l]) ∧ (addDI D (lenS ls : Nat) l).sure = D.sure ∧ (addDI D (lenS ls : Nat) l).waits = D.waits ++ wl (lenS ls) (fsec l) := by
 obtain ⟨h1, h2, h3⟩ := h.add hl hf
 exact ⟨h1, congrArg (fun k : Nat => (k : Int)) h2, h3⟩
theorem wl_len : ∀ (x : Nat) (cs : List (List Int)), (wl x cs).length = cs.length := by
 intro x cs
 induction cs generalizing x with
 | nil => rfl
 | cons p r ih => rw [wl, List.length_cons, List.length_cons, ih]
theorem wlq_app : ∀ (x : Nat) (a b : List (List Int)), wl x (a ++ b) = wl x a ++ wl (x + a.length) b := by
 intro x a
 induction a generalizing x with
 | nil => intro b; rfl
 | cons p r ih => intro b; rw [List.cons_append, wl, ih, wl, List.cons_append, List.length_cons, show x + 1 + r.length = x + (r.length + 1) by omega]
theorem wl_at : ∀ (cs : List (List Int)) (x i : Nat), (wl x cs)[i]? = (cs[i]?).map fun p => (((x + i : Nat) : Int), p) := by
 intro cs
 induction cs with
 | nil => intro x i; rfl
 | cons p r ih =>
  intro x i
  cases i with
  | zero => rfl
  | succ i =>
   rw [wl, List.getElem?_cons_succ, List.getElem?_cons_succ, ih, show x + 1 + i = x + (i + 1) by omega]
theorem parse_frames : ∀ (k : Nat) (b : List Int), b.length < k → (∀ p ∈ parse k b, p.2 = Frames.nsec p.1.length ∧ p.1.length ≤ 16384) ∧ (fsecs ((parse k b).map (·.1))).flatten = b.take (secs (parse k b) * 64) ∧ lenS ((parse k b).map (·.1)) = secs (parse k b) := by
 intro k
 induction k with
 | zero => intro b h; omega
 | succ k ih =>
  intro b hk
  unfold parse
  cases h : Frames.get b with
  | none => exact ⟨fun p hp => (by cases hp), (by simp [secs, fsecs]), rfl⟩
  | some p =>
   obtain ⟨r, m⟩ := p
   obtain ⟨g1, g2, g3, g4⟩ := get_len h
   obtain ⟨_, _, g5, _, _⟩ := Frames.get_some h
   obtain ⟨i1, i2, i3⟩ := ih (b.drop (m * 64)) (by rw [List.length_drop]; omega)
   have es : secs ((r, m) :: parse k (b.drop (m * 64))) = m + secs (parse k (b.drop (m * 64))) := by unfold secs; simp
   simp only
   refine ⟨fun p hp => ?_, ?_, ?_⟩
   ·rcases List.mem_cons.1 hp with rfl | hp
    ·exact ⟨g1, g4⟩
    ·exact i1 p hp
   ·rw [es, List.map_cons, show fsecs (r :: (parse k (b.drop (m * 64))).map (·.1)) = fsec r ++ fsecs ((parse k (b.drop (m * 64))).map (·.1)) by simp [fsecs], List.flatten_append, fsec_flat, i2, g5, Nat.add_mul, List.take_add]
   ·rw [es, ← i3, List.map_cons]
    simp only [lenS, List.map_cons, List.sum_cons]
    rw [g1]
theorem flat64_inj : ∀ (a b : List (List Int)), (∀ p ∈ a, p.length = 64) → (∀ p ∈ b, p.length = 64) → a.flatten = b.flatten → a = b := by
 intro a
 induction a with
 | nil =>
  intro b _ hb h
  cases b with
  | nil => rfl
  | cons q b =>
   have := congrArg List.length h
   rw [List.flatten_cons, List.length_append, hb q List.mem_cons_self] at this
   have h0 : ([] : List (List Int)).flatten.length = 0 := rfl
   omega
 | cons p a ih =>
  intro b ha hb h
  cases b with
  | nil =>
   have := congrArg List.length h
   rw [List.flatten_cons, List.length_append, ha p List.mem_cons_self] at this
   simp at this
  | cons q b =>
   have h1 := ha p List.mem_cons_self
   have h2 := hb q List.mem_cons_self
   rw [List.flatten_cons, List.flatten_cons] at h
   obtain ⟨e1, e2⟩ := List.append_inj h (by omega)
   rw [e1, ih b (fun x hx => ha x (List.mem_cons_of_mem _ hx)) (fun x hx => hb x (List.mem_cons_of_mem _ hx)) e2]
theorem flat_take : ∀ (l : List (List Int)) (i : Nat), (∀ p ∈ l, p.length = 64) → (l.take i).flatten = l.flatten.take (i * 64) := by
 intro l
 induction l with
 | nil => intro i _; simp
 | cons p l ih =>
  intro i hp
  have h64 := hp p List.mem_cons_self
  cases i with
  | zero => simp
  | succ i =>
   rw [List.take_succ_cons, List.flatten_cons, List.flatten_cons, ih i (fun q hq => hp q (List.mem_cons_of_mem _ hq)), List.take_append, show (i + 1) * 64 - p.length = i * 64 by omega, List.take_of_length_le (l := p) (by omega)]
theorem opened_lg {D : Dk} (hs : ∀ p ∈ D.seen, p.length = 64) : lenS (recsD D) = atD D ∧ atD D ≤ D.seen.length ∧ Lg (openD D) D.seen.length (recsD D) ∧ (openD D).waits = [] ∧ (openD D).sure = (openD D).seen ∧ (openD D).seen = D.seen.take (atD D) ++ zs (D.seen.length - atD D) := by
 obtain ⟨h1, h2, h3⟩ := parse_frames (D.seen.flatten.length + 1) D.seen.flatten (by omega)
 have hfl : D.seen.flatten.length = D.seen.length * 64 := by
  have : ∀ l : List (List Int), (∀ p ∈ l, p.length = 64) → l.flatten.length = l.length * 64 := by
   intro l
   induction l with
   | nil => intro _; rfl
   | cons p l ih => intro hp; rw [List.flatten_cons, List.length_append, ih (fun q hq => hp q (List.mem_cons_of_mem _ hq)), hp p List.mem_cons_self, List.length_cons]; omega
  exact this _ hs
 have hp := (parse_facts (D.seen.flatten.length + 1) D.seen.flatten).1
 have hat : atD D ≤ D.seen.length := by
  show secs (parse (D.seen.flatten.length + 1) D.seen.flatten) ≤ _
  omega
 have e1 : lenS (recsD D) = atD D := h3
 have e2 : D.seen.take (atD D) = fsecs (recsD D) := by
  refine flat64_inj _ _ (fun p hp => hs p (List.mem_of_mem_take hp)) (fsecs_64 _) ?_
  rw [flat_take _ _ hs]
  exact h2.symm
 rw [openD_is hs hat]
 refine ⟨e1, hat, ⟨by rw [e2, e1], by rw [e1]; exact hat, fun r hr => ?_⟩, rfl, rfl, rfl⟩
 obtain ⟨p, hp, rfl⟩ := List.mem_map.1 hr
 exact (h1 p hp).2
def mixS (keep torn : Int) (i : Nat) (c o : List Int) : List Int := if Disk.kept keep i = true then c.take (Disk.part torn i) ++ o.drop (Disk.part torn i) else o
def mixes (keep torn : Int) : Nat → List (List Int) → List (List Int) → List (List Int)
 | _, [], old => old
 | _, _ :: _, [] => []
 | i, c :: cs, o :: old => mixS keep torn i c o :: mixes keep torn (i + 1) cs old
section
variable {keep torn : Int}
theorem mixes_len : ∀ (cs old : List (List Int)) (i : Nat), cs.length ≤ old.length → (mixes keep torn i cs old).length = old.length := by
 intro cs
 induction cs with
 | nil => intro old i _; rfl
 | cons c cs ih =>
  intro old i h
  cases old with
  | nil => simp at h
  | cons o old =>
   rw [mixes, List.length_cons, List.length_cons, ih old (i + 1) (by simpa using h)]
theorem mixes_snoc : ∀ (cs old : List (List Int)) (i : Nat) (c : List Int), cs.length < old.length → mixes keep torn i (cs ++ [c]) old = (mixes keep torn i cs old).set cs.length (mixS keep torn (i + cs.length) c (old.getD cs.length [])) ∧ (mixes keep torn i cs old).getD cs.length [] = old.getD cs.length [] := by
 intro cs
 induction cs with
 | nil =>
  intro old i c h
  cases old with
  | nil => simp at h
  | cons o old => exact ⟨rfl, rfl⟩
 | cons d cs ih =>
  intro old i c h
  cases old with
  | nil => simp at h
  | cons o old =>
   obtain ⟨h1, h2⟩ := ih old (i + 1) c (by simpa using h)
   rw [List.cons_append, mixes, mixes, h1, List.length_cons, List.set_cons_succ, show i + 1 + cs.length = i + (cs.length + 1) by omega, List.getD_cons_succ, List.getD_cons_succ]
   exact ⟨rfl, h2⟩
theorem mixes_app : ∀ (a o1 : List (List Int)) (i : Nat) (b o2 : List (List Int)), a.length = o1.length → mixes keep torn i (a ++ b) (o1 ++ o2) = mixes keep torn i a o1 ++ mixes keep torn (i + a.length) b o2 := by
 intro a
 induction a with
 | nil =>
  intro o1 i b o2 h
  have : o1 = [] := List.eq_nil_of_length_eq_zero (by simpa using h.symm)
  subst this
  rfl
 | cons c a ih =>
  intro o1 i b o2 h
  cases o1 with
  | nil => simp at h
  | cons o o1 =>
   rw [List.cons_append, List.cons_append, mixes, mixes, ih o1 (i + 1) b o2 (by simpa using h), List.cons_append, List.length_cons, show i + 1 + a.length = i + (a.length + 1) by omega]
theorem failK_mix (s cs : List (List Int)) (x : Nat) (hx : x + cs.length ≤ s.length) : ∀ m, m ≤ cs.length → failK keep torn s (wl x cs) m = s.take x ++ mixes keep torn 0 (cs.take m) (s.drop x) := by
 intro m
 induction m with
 | zero => intro _; rw [failK, List.take_zero, mixes, List.take_append_drop]
 | succ m ih =>
  intro hm
  have hlt : m < cs.length := by omega
  have l1 : (s.take x).length = x := by rw [List.length_take]; omega
  have l2 : (cs.take m).length = m := by rw [List.length_take]; omega
  have ld : (s.drop x).length = s.length - x := List.length_drop
  obtain ⟨q1, q2⟩ := mixes_snoc (keep := keep) (torn := torn) (cs.take m) (s.drop x) 0 cs[m] (by omega)
  have hml := mixes_len (keep := keep) (torn := torn) (cs.take m) (s.drop x) 0 (by omega)
  rw [l2, Nat.zero_add] at q1
  rw [l2] at q2
  rw [failK, wl_at, List.getElem?_eq_getElem hlt]
  simp only [Option.map_some]
  rw [ih (by omega), List.take_succ_eq_append_getElem hlt, q1]
  have hget : (s.take x ++ mixes keep torn 0 (cs.take m) (s.drop x)).getD (x + m) [] = (s.drop x).getD m [] := by
   rw [← q2, List.getD_eq_getElem?_getD, List.getD_eq_getElem?_getD, List.getElem?_append_right (by omega), l1, show x + m - x = m by omega]
  unfold Disk.step mixS
  rw [Int.toNat_natCast, hget]
  split
  ·rw [List.set_append_right _ _ (by omega), l1, show x + m - x = m by omega]
  ·congr 1
   have hi : m < (mixes keep torn 0 (cs.take m) (s.drop x)).length := by omega
   have : (mixes keep torn 0 (cs.take m) (s.drop x))[m] = (s.drop x).getD m [] := by
    rw [← q2, List.getD_eq_getElem?_getD, List.getElem?_eq_getElem hi]; rfl
   rw [← this, List.set_getElem_self]
theorem mixes_64 : ∀ (cs old : List (List Int)) (i : Nat), (∀ p ∈ cs, p.length = 64) → (∀ p ∈ old, p.length = 64) → ∀ p ∈ mixes keep torn i cs old, p.length = 64 := by
 intro cs
 induction cs with
 | nil => intro old i _ ho; exact ho
 | cons c cs ih =>
  intro old i hc ho
  cases old with
  | nil => intro p hp; cases hp
  | cons o old =>
   intro p hp
   rw [mixes] at hp
   rcases List.mem_cons.1 hp with rfl | hp
   ·have h1 := hc c List.mem_cons_self
    have h2 := ho o List.mem_cons_self
    unfold mixS
    split
    ·rw [List.length_append, List.length_take, List.length_drop]
     have : Disk.part torn i ≤ 64 := by unfold Disk.part; split <;> decide
     omega
    ·exact h2
   ·exact ih old (i + 1) (fun q hq => hc q (List.mem_cons_of_mem _ hq)) (fun q hq => ho q (List.mem_cons_of_mem _ hq)) p hp
end
theorem flat_len64' : ∀ l : List (List Int), (∀ p ∈ l, p.length = 64) → l.flatten.length = l.length * 64 := by
 intro l
 induction l with
 | nil => intro _; rfl
 | cons p l ih => intro hp; rw [List.flatten_cons, List.length_append, ih (fun q hq => hp q (List.mem_cons_of_mem _ hq)), hp p List.mem_cons_self, List.length_cons]; omega
theorem get_zero64' {b : List Int} (hb : b.take 64 = List.replicate 64 0) : Frames.get b = none := by
 have hv : ∀ k, k ≤ 64 → Frames.val b k = 0 := by
  intro k
  induction k with
  | zero => intro _; rfl
  | succ k ih =>
   intro hk
   rw [Frames.val, ih (by omega)]
   have : b.getD k 0 = (b.take 64).getD k 0 := by
    rw [List.getD_eq_getElem?_getD, List.getD_eq_getElem?_getD, List.getElem?_take, if_pos (by omega)]
   rw [this, hb, List.getD_eq_getElem?_getD, List.getElem?_replicate, if_pos (by omega)]
   rfl
 unfold Frames.get
 rw [hv 4 (by decide)]
 split
 ·rfl
 ·rw [if_neg (by decide)]
  have h0 : Frames.nsec (Int.toNat 0) * 64 = 64 := rfl
  rw [h0]
  split
  ·rfl
  ·have e : Int.toNat 0 = 0 := rfl
   rw [if_neg]
   rw [e, List.take_zero, hb]
   exact put_nil
theorem val_take {a b : List Int} (h : a.take 8 = b.take 8) : ∀ k, k ≤ 8 → Frames.val a k = Frames.val b k := by
 intro k
 induction k with
 | zero => intro _; rfl
 | succ k ih =>
  intro hk
  have g : ∀ l : List Int, l.getD k 0 = (l.take 8).getD k 0 := fun l => by
   rw [List.getD_eq_getElem?_getD, List.getD_eq_getElem?_getD, List.getElem?_take, if_pos (by omega)]
  rw [Frames.val, Frames.val, ih (by omega), g a, g b, h]
theorem get_head {b r : List Int} (hr : r.length ≤ 16384) (h : b.take 8 = (Frames.put r).take 8) {q : List Int} {m : Nat} (hg : Frames.get b = some (q, m)) : m = Frames.nsec r.length := by
 have hv : Frames.val b 4 = r.length := by
  rw [val_take h 4 (by decide)]
  have := Frames.put_val r [] hr
  rwa [List.append_nil] at this
 unfold Frames.get at hg
 rw [hv, Int.toNat_natCast] at hg
 split at hg
 ·cases hg
 split at hg
 ·cases hg
 split at hg
 ·cases hg
 split at hg
 ·injection hg with hg; injection hg with _ hg; exact hg.symm
 ·cases hg
theorem parse_mixed {keep torn : Int} : ∀ (B : List (List Int)) (i q k : Nat), (∀ r ∈ B, r.length ≤ 16384) → lenS B ≤ q → (parse k (mixes keep torn i (fsecs B) (zs q)).flatten).length ≤ B.length ∧ secs (parse k (mixes keep torn i (fsecs B) (zs q)).flatten) ≤ lenS B := by
 intro B
 induction B with
 | nil =>
  intro i q k _ _
  have : parse k (mixes keep torn i (fsecs []) (zs q)).flatten = [] := by
   show parse k (zs q).flatten = []
   cases k with
   | zero => rfl
   | succ k => rw [zs_flat, parse, get_zeros]
  rw [this]
  exact ⟨Nat.le_refl _, Nat.le_refl _⟩
 | cons r B ih =>
  intro i q k hr hq
  have e2 : lenS (r :: B) = Frames.nsec r.length + lenS B := by simp [lenS]
  have hnp := nsec_pos r.length
  cases k with
  | zero => exact ⟨Nat.zero_le _, Nat.zero_le _⟩
  | succ k =>
   have hz : zs q = zs (Frames.nsec r.length) ++ zs (q - Frames.nsec r.length) := by rw [zs_add]; congr 1; omega
   have hzl : (zs (Frames.nsec r.length)).length = Frames.nsec r.length := List.length_replicate
   have hm : mixes keep torn i (fsecs (r :: B)) (zs q) = mixes keep torn i (fsec r) (zs (Frames.nsec r.length)) ++ mixes keep torn (i + (fsec r).length) (fsecs B) (zs (q - Frames.nsec r.length)) := by
    rw [hz, show fsecs (r :: B) = fsec r ++ fsecs B by simp [fsecs], mixes_app _ _ _ _ _ (by rw [fsec_len, hzl])]
   obtain ⟨F, hF⟩ : ∃ F, F = mixes keep torn i (fsec r) (zs (Frames.nsec r.length)) := ⟨_, rfl⟩
   have hFl : F.length = Frames.nsec r.length := by rw [hF, mixes_len _ _ _ (by rw [fsec_len, hzl]; exact Nat.le_refl _), hzl]
   have hF64 : ∀ p ∈ F, p.length = 64 := by
    rw [hF]
    exact mixes_64 _ _ _ (chunks_64 _ _ (Frames.put_length r)) (fun p hp => by rw [List.eq_of_mem_replicate hp]; exact List.length_replicate)
   have hFf := flat_len64' F hF64
   obtain ⟨G, hG⟩ : ∃ G, G = mixes keep torn (i + (fsec r).length) (fsecs B) (zs (q - Frames.nsec r.length)) := ⟨_, rfl⟩
   rw [hm, ← hF, ← hG, List.flatten_append]
   have hfirst : ∃ t, F = mixS keep torn i ((Frames.put r).take 64) (List.replicate 64 0) :: t := by
    obtain ⟨n, hn⟩ : ∃ n, Frames.nsec r.length = n + 1 := ⟨Frames.nsec r.length - 1, by omega⟩
    rw [hF]
    unfold fsec zs
    rw [hn, chunks, List.replicate_succ, mixes]
    exact ⟨_, rfl⟩
   obtain ⟨t, ht⟩ := hfirst
   rw [parse]
   cases hg : Frames.get (F.flatten ++ G.flatten) with
   | none => exact ⟨Nat.zero_le _, Nat.zero_le _⟩
   | some p =>
    obtain ⟨w, m⟩ := p
    have hpl : 64 ≤ (Frames.put r).length := by rw [Frames.put_length]; omega
    by_cases hk : Disk.kept keep i = true
    ·have hhead : (F.flatten ++ G.flatten).take 8 = (Frames.put r).take 8 := by
      rw [ht, List.flatten_cons, List.append_assoc]
      unfold mixS
      rw [if_pos hk]
      have hp8 : 8 ≤ Disk.part torn i ∧ Disk.part torn i ≤ 64 := by unfold Disk.part; split <;> exact ⟨by decide, by decide⟩
      rw [List.append_assoc, List.take_append_of_le_length (by rw [List.length_take, List.length_take]; omega), List.take_take, List.take_take]
      congr 1
      omega
     have hmm := get_head (hr r List.mem_cons_self) hhead hg
     subst hmm
     have hd : (F.flatten ++ G.flatten).drop (Frames.nsec r.length * 64) = G.flatten := by rw [← hFl, ← hFf, List.drop_left]
     obtain ⟨i1, i2⟩ := ih (i + (fsec r).length) (q - Frames.nsec r.length) k (fun x hx => hr x (List.mem_cons_of_mem _ hx)) (by omega)
     rw [← hG] at i1 i2
     simp only
     rw [hd, e2]
     have es : secs ((w, Frames.nsec r.length) :: parse k G.flatten) = Frames.nsec r.length + secs (parse k G.flatten) := by unfold secs; simp
     rw [es, List.length_cons, List.length_cons]
     exact ⟨by omega, by omega⟩
    ·have hz64 : (F.flatten ++ G.flatten).take 64 = List.replicate 64 0 := by
      rw [ht, List.flatten_cons, List.append_assoc]
      unfold mixS
      rw [if_neg hk, List.take_append_of_le_length (by rw [List.length_replicate]; exact Nat.le_refl _), List.take_of_length_le (by rw [List.length_replicate]; exact Nat.le_refl _)]
     rw [get_zero64' hz64] at hg
     cases hg
theorem parse_pre : ∀ (A : List (List Int)) (rest : List Int) (k : Nat), (∀ r ∈ A, r.length ≤ 16384) → parse (A.length + k) ((fsecs A).flatten ++ rest) = (A.map fun r => (r, Frames.nsec r.length)) ++ parse k rest := by
 intro A
 induction A with
 | nil => intro rest k _; show parse (0 + k) ([] ++ rest) = _; rw [Nat.zero_add]; rfl
 | cons r A ih =>
  intro rest k hl
  have e : (fsecs (r :: A)).flatten ++ rest = Frames.put r ++ ((fsecs A).flatten ++ rest) := by
   rw [show fsecs (r :: A) = fsec r ++ fsecs A by simp [fsecs], List.flatten_append, fsec_flat, List.append_assoc]
  rw [e, List.length_cons, show A.length + 1 + k = (A.length + k) + 1 by omega, parse, Frames.get_put r _ (hl r List.mem_cons_self)]
  simp only
  rw [← Frames.put_length, List.drop_left, ih rest k (fun q hq => hl q (List.mem_cons_of_mem _ hq))]
  rfl
theorem crash {D : Dk} {n : Nat} {A B : List (List Int)} (keep torn : Int) (hA : ∀ r ∈ A, r.length ≤ 16384) (hB : ∀ r ∈ B, r.length ≤ 16384) (hn : lenS A + lenS B ≤ n) (hs : D.sure = fsecs A ++ zs (n - lenS A)) (hw : D.waits = wl (lenS A) (fsecs B)) :
  (∀ p ∈ (Dk.fail D keep torn).seen, p.length = 64) ∧ (Dk.fail D keep torn).seen.length = n ∧ (∃ P, recsD (Dk.fail D keep torn) = A ++ P ∧ P.length ≤ B.length) ∧ atD (Dk.fail D keep torn) ≤ lenS A + lenS B := by
 have hsl : D.sure.length = n := by rw [hs, List.length_append, fsecs_len, zs, List.length_replicate]; omega
 have hseen : (Dk.fail D keep torn).seen = fsecs A ++ mixes keep torn 0 (fsecs B) (zs (n - lenS A)) := by
  show failK keep torn D.sure D.waits D.waits.length = _
  rw [hw, wl_len, failK_mix D.sure (fsecs B) (lenS A) (by rw [hsl, fsecs_len]; exact hn) _ (Nat.le_refl _), List.take_length, hs, ← fsecs_len, List.take_left, List.drop_left]
 have hzl : (zs (n - lenS A)).length = n - lenS A := List.length_replicate
 have h64 : ∀ p ∈ (Dk.fail D keep torn).seen, p.length = 64 := by
  intro p hp
  rw [hseen] at hp
  rcases List.mem_append.1 hp with hp | hp
  ·exact fsecs_64 A p hp
  ·exact mixes_64 _ _ _ (fsecs_64 B) (fun p hp => by rw [List.eq_of_mem_replicate hp]; exact List.length_replicate) p hp
 have hlen : (Dk.fail D keep torn).seen.length = n := by
  rw [hseen, List.length_append, mixes_len _ _ _ (by rw [fsecs_len, hzl]; omega), fsecs_len, hzl]; omega
 have hfl := flat_len64' _ h64
 have hge := lenS_ge A
 obtain ⟨k, hk⟩ : ∃ k, (Dk.fail D keep torn).seen.flatten.length + 1 = A.length + k := ⟨(Dk.fail D keep torn).seen.flatten.length + 1 - A.length, by omega⟩
 have hf : found (Dk.fail D keep torn) = (A.map fun r => (r, Frames.nsec r.length)) ++ parse k (mixes keep torn 0 (fsecs B) (zs (n - lenS A))).flatten := by
  unfold Sx.found
  rw [hk, hseen, List.flatten_append]
  exact parse_pre A _ k hA
 obtain ⟨p1, p2⟩ := parse_mixed (keep := keep) (torn := torn) B 0 (n - lenS A) k hB (by omega)
 refine ⟨h64, hlen, ⟨(parse k (mixes keep torn 0 (fsecs B) (zs (n - lenS A))).flatten).map (·.1), ?_, ?_⟩, ?_⟩
 ·unfold recsD
  rw [hf, List.map_append, List.map_map]
  congr 1
  show A.map (fun r => r) = A
  exact List.map_id' A
 ·rw [List.length_map]; exact p1
 ·unfold atD
  rw [hf]
  have : secs ((A.map fun r => (r, Frames.nsec r.length)) ++ parse k (mixes keep torn 0 (fsecs B) (zs (n - lenS A))).flatten) = lenS A + secs (parse k (mixes keep torn 0 (fsecs B) (zs (n - lenS A))).flatten) := by
   unfold secs lenS
   rw [List.map_append, List.sum_append, List.map_map]; rfl
  rw [this]; omega
end Go.Proofs.YticnjkdaccacaaaGreat.Sx
end
section
namespace Go.Proofs.YticnjkdaccacaaaGreat.Sx
open Go Go.RowKit Base Oq OwnV Disk
theorem enOpen : Enters Tryz.prog 50 := fun _ _ => by kernel_rfl
theorem enChNew : Enters Tryz.prog 18 := fun _ _ => by kernel_rfl
theorem enDiskNew : Enters Tryz.prog 21 := fun _ _ => by kernel_rfl
theorem enOpened : Enters Tryz.prog 8 := fun _ _ => by kernel_rfl
def orcHn : Orc := ⟨[(3, .int .i64), (4, .bool), (5, .int .u8), (31, .int .u32), (28, .int .i64), (92, .slice 5), (124, .slice 92), (77, .struct #[Go.Field.mk "log" 73 0 false "" "concordat/chiefs" 0, Go.Field.mk "l" 74 1 false "" "concordat/chiefs" 8, Go.Field.mk "last" 31 2 false "" "concordat/chiefs" 16, Go.Field.mk "clock" 75 3 false "" "concordat/chiefs" 24]), (24, .pointer 77), (74, .map 31 83), (73, .pointer 150), (75, .pointer 131), (23, .pointer 121)],
 [(3, 1), (4, 1), (5, 1), (31, 1), (28, 1), (92, 1), (124, 1), (77, 4), (24, 1), (74, 1), (73, 1), (75, 1), (23, 1)]⟩
theorem oHn_ : orcHn.Ok Tryz.prog := ⟨⟨Tryz.underlying3, Tryz.underlying4, Tryz.underlying5, Tryz.underlying31, Tryz.underlying28, Tryz.underlying92, Tryz.underlying124, Tryz.underlying77, Tryz.underlying24, Tryz.underlying74, Tryz.underlying73, Tryz.underlying75, Tryz.underlying23, trivial⟩, ⟨by kernel_rfl, by kernel_rfl, by kernel_rfl, by kernel_rfl, by kernel_rfl, by kernel_rfl, by kernel_rfl, by kernel_rfl, by kernel_rfl, by kernel_rfl, by kernel_rfl, by kernel_rfl, by kernel_rfl, trivial⟩⟩
section
variable {w w0 : World} {R : List Asn} {d : Nat} {D : Dk}
theorem chnew_call0 (hr : recsD D = []) (hwt : D.waits.length ≤ 100000000) (S : Sat w0 w (diskA d D :: R)) :
  Calls Tryz.prog 18 #[.pointer (some ⟨d, 0, none⟩)] w fun e w' => ∃ b bl bm bk bw, e = .returned (.tuple #[.pointer (some ⟨b, 0, none⟩), .int .i64 0]) ∧ Sat w0 w' (chW b bl bm 0 bk bw 0 d [] [] (atD D) (openD D) R) := by
 refine calls_start (N := 36) [.pointer (some ⟨d, 0, none⟩)] Tryz.func18 rfl rfl rfl rfl fun a fr => ?_
 refine r_ rfl ?_
 repeat refine w_ oHn_ rfl fr fun a fr => ?_
 refine er_ rfl rfl ?_
 repeat refine w_ oHn_ rfl fr fun a fr => ?_
 refine wl_call fr rfl rfl rfl rfl enOpen (open_call S hwt) ?_
 rintro _ w1 ⟨bl, A, c, rfl, hv, S⟩
 rw [hr] at hv S
 refine ⟨_, rfl, by rw [hr]; exact hv, fun a fr => ?_⟩
 rw [hr] at fr
 repeat refine w_ oHn_ rfl fr fun a fr => ?_
 refine er_ rfl rfl ?_
 repeat refine w_ oHn_ rfl fr fun a fr => ?_
 refine eq_ rfl rfl ?_
 refine cw_f fr rfl ?_
 refine wp_skip ?_
 refine r_ rfl ?_
 repeat refine w_ oHn_ rfl fr fun a fr => ?_
 refine wl_mkmap .u32 ptO fr rfl rfl rfl rfl S ?_
 intro w2 bm S a fr
 refine wl_call fr rfl rfl rfl rfl enCkNew (clk_new S) ?_
 rintro _ w3 ⟨bk, bw, rfl, S⟩
 refine ⟨_, rfl, rfl, fun a fr => ?_⟩
 refine wl_build (cs := [.pointer (some ⟨bl, 0, none⟩), .map (some bm), .int .u32 0, .pointer (some ⟨bk, 0, none⟩)]) (L2 := [(0, .pointer (some ⟨bl, 0, none⟩)), (1, .map (some bm)), (3, .pointer (some ⟨bk, 0, none⟩))]) fr rfl rfl rfl rfl (by simp; exact ⟨(fr.ev (o := .tmp 19) rfl).1, (fr.ev (o := .tmp 20) rfl).1, (fr.ev (o := .tmp 21) rfl).1⟩) (by kernel_rfl) rfl fun a fr => ?_
 refine wl_boxs fr rfl rfl rfl rfl rfl rfl S ?_
 intro w4 b S a fr
 repeat refine w_ oHn_ rfl fr fun a fr => ?_
 refine er_ rfl rfl ?_
 repeat refine w_ oHn_ rfl fr fun a fr => ?_
 refine eq_ rfl rfl ?_
 refine wp_block ?_
 refine cw_loop (fun q a w2 => q = 1 ∧ Fr 36 a [(7, .pointer (some ⟨b, 0, none⟩)), (25, .int .i64 0), (26, .int .i64 0)] ∧ w2 = w4) 1 ⟨rfl, fr.sub ⟨rfl, rfl, rfl, trivial⟩, rfl⟩ ?_ ?_
 ·rintro a w2 ⟨h, -⟩
  omega
 clear fr
 rintro q a w5 ⟨hq, fr, rfl⟩
 refine r_ rfl ?_
 repeat refine w_ oHn_ rfl fr fun a fr => ?_
 refine eq_ rfl rfl ?_
 refine cw_f fr rfl ?_
 refine wp_exit ?_
 refine xr_ rfl rfl ?_
 repeat refine w_ oHn_ rfl fr fun a fr => ?_
 first | refine e_ ?_ | refine wpList_nil ?_
 refine wp_ret ?_
 refine ret2 fr rfl rfl rfl ⟨b, bl, bm, bk, bw, rfl, ?_⟩
 have S := (((((((S.frontAt 5 rfl).frontAt 4 rfl).frontAt 4 rfl).frontAt 4 rfl).frontAt 6 rfl).frontAt 6 rfl).frontAt 6 rfl)
 exact S.mask [true, true, true, true, true, true, false]
def D0 : Dk := openD (Disk.blank 4096)
theorem opened_call (S : Sat w0 w R) :
  Calls Tryz.prog 8 #[] w fun e w' => ∃ d b bl bm bk bw, e = .returned (.tuple #[.pointer (some ⟨d, 0, none⟩), .pointer (some ⟨b, 0, none⟩)]) ∧ Sat w0 w' (chW b bl bm 0 bk bw 0 d [] [] 0 D0 R) := by
 have hst := Lg.start 4096
 have hat : ((atD (Disk.blank 4096) : Nat) : Int) = 0 := congrArg (fun k : Nat => (k : Int)) hst.at
 refine calls_start (N := 23) [] Tryz.func8 rfl rfl rfl rfl fun a fr => ?_
 refine r_ rfl ?_
 repeat refine w_ oHn_ rfl fr fun a fr => ?_
 refine er_ rfl rfl ?_
 repeat refine w_ oHn_ rfl fr fun a fr => ?_
 refine wl_call fr rfl rfl rfl rfl enDiskNew (disk_new S (x := 4096) ⟨by decide, by decide⟩) ?_
 rintro _ w1 ⟨d, rfl, S⟩
 refine ⟨_, rfl, rfl, fun a fr => ?_⟩
 repeat refine w_ oHn_ rfl fr fun a fr => ?_
 refine er_ rfl rfl ?_
 repeat refine w_ oHn_ rfl fr fun a fr => ?_
 refine wl_call fr rfl rfl rfl rfl enChNew (chnew_call0 hst.told (by show 0 ≤ _; omega) S) ?_
 rintro _ w2 ⟨b, bl, bm, bk, bw, rfl, S⟩
 refine ⟨_, rfl, rfl, fun a fr => ?_⟩
 repeat refine w_ oHn_ rfl fr fun a fr => ?_
 refine er_ rfl rfl ?_
 repeat refine w_ oHn_ rfl fr fun a fr => ?_
 refine eq_ rfl rfl ?_
 refine cw_f fr rfl ?_
 refine wp_skip ?_
 refine r_ rfl ?_
 repeat refine w_ oHn_ rfl fr fun a fr => ?_
 first | refine e_ ?_ | refine wpList_nil ?_
 refine wp_ret ?_
 rw [hat] at S
 exact ret2 fr rfl rfl rfl ⟨d, b, bl, bm, bk, bw, rfl, S⟩
end
def LogI (D : Dk) (x : Int) (k : Nat) : Prop := ∃ L, Lg D 4096 L ∧ x = (lenS L : Nat) ∧ lenS L ≤ k ∧ D.waits.length ≤ k
theorem LogI.add {D : Dk} {x : Int} {k : Nat} (h : LogI D x k) {r : List Int} (hr : r.length ≤ 40) (hk : k < 4096) : addEI D x r = 0 ∧ LogI (addDI D x r) (addXI D x r) (k + 1) := by
 obtain ⟨L, h1, rfl, h3, h4⟩ := h
 have hn : Frames.nsec r.length = 1 := by unfold Frames.nsec; omega
 obtain ⟨a1, a2, a3, a4, a5⟩ := h1.addI (l := r) (by omega) (by rw [hn]; omega)
 refine ⟨a1, L ++ [r], a3, a2, by rw [lenS_snoc, hn]; omega, ?_⟩
 rw [a5, List.length_append, wl_len, fsec_len, hn]
 omega
theorem LogI.sync {D : Dk} {x : Int} {k : Nat} (h : LogI D x k) : LogI D.sync x k := by
 obtain ⟨L, h1, h2, h3, h4⟩ := h
 exact ⟨L, h1.sync, h2, h3, Nat.zero_le _⟩
theorem LogI.b {D : Dk} {x : Int} {k : Nat} (h : LogI D x k) (hk : k ≤ 4096) : (0 ≤ x ∧ x ≤ 4096) ∧ D.waits.length ≤ 100000000 := by
 obtain ⟨L, h1, rfl, h3, h4⟩ := h
 omega
theorem LogI.start : LogI D0 0 0 := by
 obtain ⟨h1, h2, -⟩ := (Lg.start 4096).open_
 exact ⟨[], h1, rfl, Nat.le_refl _, by unfold D0; rw [h2]; exact Nat.le_refl _⟩
section
variable {α : Type}
theorem fourL_len (g : Int) : (fourL g).length = 4 := rfl
end
section
variable {P : Program} {T : Orc} {ops : Array Oper} {Q : Exit → Act → World → Prop} {Df : List Deferred} {N : Nat} {a : Act} {w w0 : World} {L : Env} {R : List Asn}
theorem wl_lit2 {t e : Nat} (hu : P.underlying t = some (.slice e)) (hi : (P.info? e).map (fun i => (i.zero.isSome, i.size)) = some (true, 2)) {o : Oper} {rest : List Oper} {d : Nat} {x y : Operand} {u1 u2 v1 v2 : Value} (fr : FrD Df N a L) (hw : wantL ops L o = some true) (hd : o.dst = some d) (hlt : Nat.blt d N = true)
  (ho : o.op = .buildSlice t 2 #[(0, x), (1, y)]) (hx : ev L x = some (.agg #[u1, u2])) (hy : ev L y = some (.agg #[v1, v2])) (hv : [u1, u2, v1, v2].all vok1 = true) (S : Sat w0 w R) (h : ∀ w' A, Sat w0 w' (rvA e 2 A 2 2 [u1, u2, v1, v2] :: R) → ∀ a', FrD Df N a' ((d, .slice A 2 2) :: L) → wpList P ops Q rest a' w') : wpList P ops Q (o :: rest) a w := by
 obtain ⟨ie, hie, hzz⟩ := Option.map_eq_some_iff.1 hi
 simp only [Prod.mk.injEq] at hzz
 obtain ⟨z0, hz0⟩ := Option.isSome_iff_exists.1 hzz.1
 refine wl_val (v := .slice (some ⟨w.heap.size, 0, none⟩) 2 2) (w' := w.alloc (.cells #[u1, u2, v1, v2] e)) fr hw hd hlt ?_ (vok_sl ⟨Nat.le_refl _, by unfold maxLen; omega⟩) (h _ _ ?_)
 ·unfold execOp
  simp only [ho]
  have e1 : (#[(0, x), (1, y)] : Array (Nat × Operand)).map (fun (i, x) => (i, a.eval x)) = #[(0, .agg #[u1, u2]), (1, .agg #[v1, v2])] := by simp [(fr.ev hx).1, (fr.ev hy).1]
  rw [e1]
  have h := Go.run_buildSlice (P := P) w t e 2 #[(0, .agg #[u1, u2]), (1, .agg #[v1, v2])] #[u1, u2, v1, v2] ie z0 hu hie hz0 (by rw [hzz.2]; omega) (by rw [hzz.2]; omega) (by
   rw [hzz.2]
   simp [Instr.fill, Value.cells]
   apply Array.ext
   ·simp
   ·intro i q1 q2
    have hi3 : i < 4 := by simpa using q2
    have : i = 0 ∨ i = 1 ∨ i = 2 ∨ i = 3 := by omega
    rcases this with rfl | rfl | rfl | rfl <;> simp [Array.getElem_setIfInBounds])
  rw [Sem.run_bind, h]; rfl
 ·have hm := RowV.made w e 2 2 #[u1, u2, v1, v2] S.below.size rfl (by unfold maxLen; omega)
  rw [List.all_eq_true] at hv
  exact S.add (F := fun g => (Value.slice (some ⟨w.heap.size, 0, none⟩) 2 2).ownBlock = some g) ((Below.refl _ _).alloc (Nat.le_refl _) _) ⟨hm, hv, fun g => Iff.rfl⟩ fun g hg => by
   have : w.heap.size = g := by simpa [Value.ownBlock] using hg
   omega
theorem wl_ixe (hT : T.Ok P) {o : Oper} {rest : List Oper} {t : TypeId} {x ix : Operand} {d n c e z : Nat} {A : Option Addr} {ad : Addr} {ki : IntKind} {i : Int} (hA : A = some ad) (fr : FrD Df N a L) (hw : wantL ops L o = some true) (ho : o.op = .indexAddr t x ix) (hd : o.dst = some d) (hlt : Nat.blt d N = true) (hx : ev L x = some (.slice A n c)) (hi : ev L ix = some (.int ki i))
  (ht : T.ty.lookup t = some (.slice e)) (hs : T.sz.lookup e = some z) (hb : 0 ≤ i ∧ i < (n : Int)) (h : ∀ a', FrD Df N a' ((d, .pointer (some (ad.add (i.toNat * z)))) :: L) → wpList P ops Q rest a' w) : wpList P ops Q (o :: rest) a w := by
 subst hA
 exact wl_val fr hw hd hlt (indexAddr_run hT fr ho hx hi ht hs hb.1 hb.2 w) rfl h
end
section
variable {w w0 : World} {R M : List Asn} {b bl bm bk bw bd : Nat} {last now x : Int} {m : List (Int × Int)} {gs : Gs} {D : Dk}
theorem Sat.behind {X : Asn} (S : Sat w0 w (X :: chW b bl bm last bk bw now bd gs m x D R)) : Sat w0 w (chW b bl bm last bk bw now bd gs m x D (X :: R)) := by
 have h := (List.perm_middle (l₁ := chS b bl bm last bk :: logA bl bd x :: diskA bd D :: ckS bk bw now :: ckM bw m :: glM bm gs :: gsT gs) (a := X) (l₂ := R)).symm
 exact S.perm h
theorem Sat.past (S : Sat w0 w (chW b bl bm last bk bw now bd gs m x D R)) : Sat w0 w R :=
 Sat.lastsT (chS b bl bm last bk :: logA bl bd x :: diskA bd D :: ckS bk bw now :: ckM bw m :: glM bm gs :: gsT gs) S
theorem pm_cell {A : Option Addr} {c i : Nat} {l : List PM} (S : Sat w0 w M) (k : Nat) (hk : M[k]? = some (pmA A c l)) (hi : i < l.length) : ∃ ad, A = some ad ∧ ∀ j u, (pmV l[i])[j]? = some u → w.cell? (ad.add (i * 6 + j)) = some u := by
 obtain ⟨q1, q2, q3, q4, q5⟩ := Sat.rvAt S k hk
 cases A with
 | none => have := q3 rfl; omega
 | some ad =>
  obtain ⟨g, rfl, hrg⟩ := q5 ad rfl
  refine ⟨_, rfl, fun j u hu => ?_⟩
  have := hrg _ u (el_get (f := pmV) (z := 6) (fun _ => rfl) l i j u hi hu)
  rw [Nat.zero_add] at this
  rw [addr0]; exact this
theorem rd_ops {A : Option Addr} {c : Nat} {l : List OpT} (S : Sat w0 w M) (k : Nat) (hk : M[k]? = some (rvA 104 4 A c l.length (l.flatMap opV))) : RdOps w A l := by
 obtain ⟨q1, q2, q3, q4, q5⟩ := Sat.rvAt S k hk
 refine ⟨fun h => List.eq_nil_of_length_eq_zero (q3 h), fun ad hA j u hu => ?_⟩
 obtain ⟨g, rfl, hrg⟩ := q5 ad hA
 have := hrg j u hu
 rw [Nat.zero_add] at this
 rw [addr0]; exact this
theorem bm_cell {A : Option Addr} {c i : Nat} {n : Int} {pl : List (Int × List OpT)} (S : Sat w0 w (bmA n A c pl :: R)) (hi : i < pl.length) : ∃ ad A' c', A = some ad ∧ (∀ j u, (bmV n (pl[i].1, A', c', pl[i].2))[j]? = some u → w.cell? (ad.add (i * 6 + j)) = some u) ∧ RdOps w A' pl[i].2 ∧ (bmV n (pl[i].1, A', c', pl[i].2)).all vok1 = true := by
 obtain ⟨⟨qs, hqs⟩, S⟩ := S.ofEx
 have S := Sat.ofAllT S
 subst hqs
 have S : Sat w0 w (rvA 42 6 A c qs.length (qs.flatMap (bmV n)) :: (qs.map bmRow ++ R)) := S
 obtain ⟨q1, q2, q3, q4, q5⟩ := Sat.rvAt S 0 rfl
 have hi2 : i < qs.length := by simpa using hi
 have e1 : (qs.map fun q => (q.1, q.2.2.2))[i] = (qs[i].1, qs[i].2.2.2) := by rw [List.getElem_map]
 rw [e1]
 cases A with
 | none => have := q3 rfl; omega
 | some ad =>
  obtain ⟨g, rfl, hrg⟩ := q5 ad rfl
  have S2 := S.perm (List.Perm.cons _ (List.Perm.append_right R ((perm_takeT qs hi2).map bmRow)))
  have hro := rd_ops S2 1 (show (_ :: bmRow qs[i] :: _)[1]? = _ from rfl)
  refine ⟨_, qs[i].2.1, qs[i].2.2.1, rfl, fun j u hu => ?_, hro, ?_⟩
  ·have := hrg _ u (el_get (f := bmV n) (z := 6) (fun _ => rfl) qs i j u hi2 hu)
   rw [Nat.zero_add] at this
   rw [addr0]; exact this
  ·rw [List.all_eq_true]
   intro v hv
   exact q4 v (List.mem_flatMap.2 ⟨qs[i], List.getElem_mem hi2, hv⟩)
end
theorem enLives : Enters Tryz.prog 11 := fun _ _ => by kernel_rfl
def xaT : OpT := (2, ⟨#[97]⟩, ByteArray.empty, 5, ())
def hz0 : Vt RsT := ⟨false, false, false, []⟩
def H1 : Gl RsT := ⟨1, 1, false, true, true, [hz0, ⟨true, false, false, []⟩, ⟨true, false, false, []⟩, hz0]⟩
def H2 : Gl RsT := ⟨1, 1, false, true, true, [hz0, ⟨true, true, false, []⟩, ⟨true, false, false, []⟩, hz0]⟩
def H3 : Gl RsT := ⟨1, 3, true, true, true, [hz0, ⟨true, true, false, []⟩, ⟨true, true, false, []⟩, hz0]⟩
def H4 : Gl RsT := ⟨1, 3, true, true, true, [hz0, ⟨true, true, true, []⟩, ⟨true, true, false, []⟩, hz0]⟩
def H5 : Gl RsT := ⟨1, 4, true, true, true, [hz0, ⟨true, true, true, []⟩, ⟨true, true, true, []⟩, hz0]⟩
theorem liv1 (m : List (Int × Int)) (x : Int) (D : Dk) : cameS ⟨[H1], m, x, D⟩ 2 1 0 1 [] = ⟨[H2], m, x, D⟩ ∧ cameO ⟨[H1], m, x, D⟩ 2 1 0 1 [] = ([], 0) := ⟨rfl, rfl⟩
theorem liv2 (m : List (Int × Int)) (x : Int) (D : Dk) (h : addEI D x [99, 0, 0, 0, 1, 1, 2] = 0) : cameS ⟨[H2], m, x, D⟩ 2 2 0 1 [] = ⟨[H3], delM m 1, addXI D x [99, 0, 0, 0, 1, 1, 2], (addDI D x [99, 0, 0, 0, 1, 1, 2]).sync⟩ ∧ cameO ⟨[H2], m, x, D⟩ 2 2 0 1 [] = ([(4, 1, 1), (4, 2, 1)], 0) := by
 have hok : commitOk (voteG H2 2 []) D x = true := by
  show (addEI D x [99, 0, 0, 0, 1, 1, 2] == 0) = true
  rw [h]; rfl
 constructor
 ·show Ss.mk [commitM (voteG H2 2 []) D x] (delM m 1) (addXI D x [99, 0, 0, 0, 1, 1, 2]) (commitD (voteG H2 2 []) D x) = _
  unfold commitM commitD
  rw [hok]
  rfl
 ·show (toM (commitS (voteG H2 2 []) D x) 1 [1, 2], (0 : Int)) = _
  unfold commitS
  rw [hok]
  rfl
theorem liv3 (m : List (Int × Int)) (x : Int) (D : Dk) : cameS ⟨[H3], m, x, D⟩ 6 1 0 1 [] = ⟨[H4], m, x, D⟩ ∧ cameO ⟨[H3], m, x, D⟩ 6 1 0 1 [] = ([], 0) := ⟨rfl, rfl⟩
theorem liv4 (m : List (Int × Int)) (x : Int) (D : Dk) : cameS ⟨[H4], m, x, D⟩ 6 2 0 1 [] = ⟨[H5], m, addXI D x [101, 0, 0, 0, 1], addDI D x [101, 0, 0, 0, 1]⟩ ∧ cameO ⟨[H4], m, x, D⟩ 6 2 0 1 [] = ([], 0) := ⟨rfl, rfl⟩
theorem liv0 : planOk [(1, [xaT], ()), (2, [xaT], ())] = true := by kernel_rfl
end Go.Proofs.YticnjkdaccacaaaGreat.Sx
end
