/- Texts of this work, one behind the other. -/
import Derived.Test.YticnjkdaccacaaaGreatVChiefsStay17
set_option maxRecDepth 100000
set_option maxHeartbeats 16000000
section
namespace Go.Proofs.YticnjkdaccacaaaGreat.Sx
open Go Go.RowKit Base Oq OwnV Disk
theorem updV_get {α : Type} {f : Vt α → Vt α} : ∀ (l : List (Vt α)) (n i : Nat), (updV f n l)[i]? = if i = n then (l[i]?).map f else l[i]? := by
 intro l
 induction l with
 | nil => intro n i; cases n <;> simp [updV]
 | cons v r ih =>
  intro n i
  cases n with
  | zero => cases i with
   | zero => rfl
   | succ i => simp [updV]
  | succ n => cases i with
   | zero => simp [updV]
   | succ i => simp [updV, ih n i]
def statG (G : Gl RsT) : Int := if G.ph = 1 then 0 else if G.com = true then 1 else 2
def stat (gs : List (Gl RsT)) (g : Int) : Int := match findG gs g with | none => 0 | some p => statG p.2
structure CuI (G : Gl RsT) : Prop where
 ph : G.ph = 1 ∨ G.ph = 3 ∨ G.ph = 4
 doing : G.ph = 1 → G.com = false ∧ G.kn = true ∧ G.told = true
 three : G.ph = 3 → G.com = true
 kn : G.com = true → G.kn = true
 parts : G.kn = true → ∃ ss, ss ∈ seven ∧ G.v.map (·.part) = parts4 ss
 len : G.v.length = 4
structure Tr (v : Nat → Prop) (G G' : Gl RsT) : Prop where
 keep : statG G ≠ 0 → statG G' = statG G
 doing : G'.ph = 1 → G.ph = 1 ∧ G'.v.map (·.part) = G.v.map (·.part) ∧ ∀ f, yesAt G' f = true → yesAt G f = true ∨ v f
 com : statG G' = 1 → statG G = 1 ∨ (G.ph = 1 ∧ ∀ f, partAt G f = true → yesAt G f = true ∨ v f)
structure Trs (v : Nat → Nat → Prop) (gs gs' : List (Gl RsT)) : Prop where
 len : gs'.length = gs.length
 tr : ∀ i (h : i < gs.length) (h' : i < gs'.length), Tr (v i) gs[i] gs'[i]
def noV (_ : Nat) (_ : Nat) : Prop := False
structure St (A B : List Rc) (C : Ss RsT) (k : Nat) : Prop where
 good : Good A C.gs
 endB : EndsOf C.gs B
 cu : ∀ i (h : i < C.gs.length), CuI C.gs[i]
 log : LgS A B C.D C.x
 few : A.length + B.length ≤ k
 few2 : C.gs.length ≤ k
theorem partAt_map (G : Gl RsT) (k : Nat) : partAt G k = ((G.v.map (·.part))[k]?).getD false := by
 unfold partAt
 rw [List.getElem?_map]
 cases G.v[k]? <;> rfl
theorem sites_of {L : List Int} (hL : L ∈ seven) {G : Gl RsT} (h : G.v.map (·.part) = parts4 L) : sites allV G = L := by
 unfold Sx.sites
 rw [sites_map, h]
 simp only [seven, List.mem_cons, List.not_mem_nil, or_false] at hL
 rcases hL with rfl | rfl | rfl | rfl | rfl | rfl | rfl <;> rfl
theorem part_of_ {L : List Int} (hL : L ∈ seven) {G : Gl RsT} (h : G.v.map (·.part) = parts4 L) {f : Nat} (hf : (f : Int) ∈ L) : partAt G f = true := by
 rw [partAt_map, h]
 have hf3 : f = 0 ∨ f = 1 ∨ f = 2 ∨ f = 3 := by
  simp only [seven, List.mem_cons, List.not_mem_nil, or_false] at hL
  rcases hL with rfl | rfl | rfl | rfl | rfl | rfl | rfl <;> simp at hf <;> omega
 simp only [seven, List.mem_cons, List.not_mem_nil, or_false] at hL
 rcases hL with rfl | rfl | rfl | rfl | rfl | rfl | rfl <;> rcases hf3 with rfl | rfl | rfl | rfl <;> first | rfl | (exfalso; revert hf; decide)
theorem Tr.same (v : Nat → Prop) (G : Gl RsT) : Tr v G G := ⟨fun _ => rfl, fun h => ⟨h, rfl, fun _ h => .inl h⟩, fun h => .inl h⟩
theorem Trs.same (v : Nat → Nat → Prop) (gs : List (Gl RsT)) : Trs v gs gs := ⟨rfl, fun i _ _ => Tr.same _ _⟩
theorem Trs.set {v : Nat → Nat → Prop} {gs : List (Gl RsT)} {j : Nat} {G' : Gl RsT} (h : ∀ hj : j < gs.length, Tr (v j) gs[j] G') : Trs v gs (gs.set j G') := by
 refine ⟨List.length_set, fun i h1 h2 => ?_⟩
 rw [List.getElem_set]
 split
 ·rename_i hij
  subst hij
  exact h h1
 ·exact Tr.same _ _
theorem Tr.trans {v : Nat → Prop} {G G' G'' : Gl RsT} (h : Tr v G G') (h2 : Tr (fun _ => False) G' G'') : Tr v G G'' := by
 refine ⟨fun h0 => ?_, fun h0 => ?_, fun h0 => ?_⟩
 ·have := h.keep h0
  rw [h2.keep (by rw [this]; exact h0), this]
 ·obtain ⟨a1, a2, a3⟩ := h2.doing h0
  obtain ⟨b1, b2, b3⟩ := h.doing a1
  refine ⟨b1, a2.trans b2, fun f hf => ?_⟩
  rcases a3 f hf with a3 | a3
  ·exact b3 f a3
  ·exact a3.elim
 ·rcases h2.com h0 with a | ⟨a1, a2⟩
  ·exact h.com a
  ·obtain ⟨b1, b2, b3⟩ := h.doing a1
   refine .inr ⟨b1, fun f hf => ?_⟩
   rw [partAt_map, ← b2, ← partAt_map] at hf
   rcases a2 f hf with a2 | a2
   ·exact b3 f a2
   ·exact a2.elim
theorem Trs.trans {v : Nat → Nat → Prop} {a b c : List (Gl RsT)} (h : Trs v a b) (h2 : Trs noV b c) : Trs v a c :=
 ⟨h2.len.trans h.len, fun i q1 q2 => (h.tr i q1 (by rw [h.len]; exact q1)).trans (h2.tr i (by rw [h.len]; exact q1) q2)⟩
theorem stat_at {gs : List (Gl RsT)} (hn : Num gs) {j : Nat} (hj : j < gs.length) : stat gs ((j : Int) + 1) = statG gs[j] := by
 unfold stat
 rw [hn.find hj]
theorem Trs.keep {v : Nat → Nat → Prop} {gs gs' : List (Gl RsT)} (h : Trs v gs gs') (hn : Num gs) (hn' : Num gs') (g : Int) (hg : stat gs g ≠ 0) : stat gs' g = stat gs g := by
 rcases hn.cases g with ⟨-, h2⟩ | ⟨j, hj, rfl, -⟩
 ·unfold stat at hg
  rw [h2] at hg
  exact absurd rfl hg
 ·have hj' : j < gs'.length := by rw [h.len]; exact hj
  rw [stat_at hn hj] at hg ⊢
  rw [stat_at hn' hj']
  exact (h.tr j hj hj').keep hg
theorem CuI.com_stat {G : Gl RsT} (h : CuI G) (hc : G.com = true) : statG G = 1 := by
 unfold statG
 rw [if_neg (fun e => by have := (h.doing e).1; rw [hc] at this; cases this), if_pos hc]
theorem CuI.no_stat {G : Gl RsT} (hp : G.ph ≠ 1) (hc : G.com = false) : statG G = 2 := by
 unfold statG
 rw [if_neg hp, if_neg (by rw [hc]; decide)]
def OutOk (gs gs' : List (Gl RsT)) (os : List PM) : Prop := ∀ o ∈ os, (o.1 = 5 ∧ (findG gs o.2.2 = none ∨ stat gs' o.2.2 = 2)) ∨ (o.1 = 4 ∧ stat gs' o.2.2 = 1)
theorem outTo {gs gs' : List (Gl RsT)} {s g : Int} {l : List Int} (h : (s = 5 ∧ stat gs' g = 2) ∨ (s = 4 ∧ stat gs' g = 1)) : OutOk gs gs' (toM s g l) := by
 intro o ho
 obtain ⟨n, -, rfl⟩ := List.mem_map.1 ho
 rcases h with ⟨h1, h2⟩ | ⟨h1, h2⟩
 ·exact .inl ⟨h1, .inr h2⟩
 ·exact .inr ⟨h1, h2⟩
theorem OutOk.nil {gs gs' : List (Gl RsT)} : OutOk gs gs' [] := fun o ho => by cases ho
theorem OutOk.app {gs gs' : List (Gl RsT)} {a b : List PM} (h : OutOk gs gs' a) (h2 : OutOk gs gs' b) : OutOk gs gs' (a ++ b) := fun o ho => by
 rcases List.mem_append.1 ho with ho | ho
 ·exact h o ho
 ·exact h2 o ho
theorem EndsOf.set {gs : List (Gl RsT)} {B : List Rc} (h : EndsOf gs B) {j : Nat} {G' : Gl RsT} (hc : ∀ hj : j < gs.length, gs[j].com = true → G'.com = true) : EndsOf (gs.set j G') B := by
 intro r hr
 obtain ⟨i, hi, h1, h2⟩ := h r hr
 refine ⟨i, by rw [List.length_set]; exact hi, h1, ?_⟩
 rw [List.getElem_set]
 split
 ·rename_i hij
  subst hij
  exact hc hi h2
 ·exact h2
theorem EndsOf.nil {gs : List (Gl RsT)} : EndsOf gs [] := fun r hr => by cases hr
theorem cu_set {gs : List (Gl RsT)} (h : ∀ i (h : i < gs.length), CuI gs[i]) {j : Nat} {G' : Gl RsT} (h2 : CuI G') : ∀ i (h : i < (gs.set j G').length), CuI (gs.set j G')[i] := by
 intro i hi
 rw [List.getElem_set]
 split
 ·exact h2
 ·exact h i (by rwa [List.length_set] at hi)
theorem part_vote (l : RsT) (k : Nat) (G : Gl RsT) : (voteG G k l).v.map (·.part) = G.v.map (·.part) := part_upd (f := vVote l) (fun _ => rfl) k G.v
theorem part_done (k : Nat) (G : Gl RsT) : (doneG G k).v.map (·.part) = G.v.map (·.part) := part_upd (f := vDone) (fun _ => rfl) k G.v
theorem yes_vote {l : RsT} {k f : Nat} {G : Gl RsT} (h : yesAt (voteG G k l) f = true) : yesAt G f = true ∨ f = k := by
 unfold yesAt voteG at h
 rw [updV_get] at h
 by_cases hf : f = k
 ·exact .inr hf
 ·rw [if_neg hf] at h
  exact .inl h
theorem all_yes : ∀ (l : List (Vt RsT)) (i : Nat), (sitesFrom notYes i l).length = 0 → ∀ v ∈ l, v.part = true → v.yes = true := by
 intro l
 induction l with
 | nil => intro i _ v hv; cases hv
 | cons u r ih =>
  intro i h v hv hp
  unfold sitesFrom at h
  split at h
  ·simp at h
  ·rename_i hno
   rcases List.mem_cons.1 hv with rfl | hv
   ·unfold notYes at hno
    rw [hp] at hno
    simpa using hno
   ·exact ih (i + 1) h v hv hp
theorem all_yesAt {G : Gl RsT} (h : (sites notYes G).length = 0) {f : Nat} (hp : partAt G f = true) : yesAt G f = true := by
 unfold partAt at hp
 unfold yesAt
 cases hf : G.v[f]? with
 | none => rw [hf] at hp; cases hp
 | some v =>
  rw [hf] at hp
  exact all_yes G.v 0 h v (List.mem_of_getElem? hf) hp
theorem CuI.vote {G : Gl RsT} (h : CuI G) (k : Nat) (l : RsT) : CuI (voteG G k l) :=
 ⟨h.ph, h.doing, h.three, h.kn, fun hk => by obtain ⟨ss, h1, h2⟩ := h.parts hk; exact ⟨ss, h1, (part_vote l k G).trans h2⟩, (updV_len _ _ _).trans h.len⟩
theorem CuI.abort {G : Gl RsT} (h : CuI G) : CuI (abortG G) :=
 ⟨.inr (.inr rfl), fun h0 => by have h0 : (4 : Int) = 1 := h0; omega, fun h0 => by have h0 : (4 : Int) = 3 := h0; omega, fun h0 => (by cases h0), h.parts, h.len⟩
theorem CuI.done {G : Gl RsT} (h : CuI G) (hc : G.com = true) (k : Nat) : CuI (doneM G k) := by
 have h3 := h.kn hc
 have hl : (doneG G k).v.length = 4 := (updV_len _ _ _).trans h.len
 have hp : ∃ ss, ss ∈ seven ∧ (doneG G k).v.map (·.part) = parts4 ss := by obtain ⟨ss, h1, h2⟩ := h.parts h3; exact ⟨ss, h1, (part_done k G).trans h2⟩
 unfold doneM
 split
 ·split
  ·exact ⟨.inr (.inr rfl), fun h0 => by have h0 : (4 : Int) = 1 := h0; omega, fun _ => hc, fun _ => h3, fun _ => hp, hl⟩
  ·exact ⟨h.ph, h.doing, h.three, h.kn, fun _ => hp, hl⟩
 ·exact h
theorem St.b {A B : List Rc} {C : Ss RsT} {k : Nat} (h : St A B C k) (hk : k ≤ 4096) : (0 ≤ C.x ∧ C.x ≤ 4096) ∧ C.D.waits.length ≤ 4096 := by
 have h8 := h.few
 have h9 := h.log.x
 rw [List.length_append] at h9
 rw [h.log.waits, wl_len, fsecs_len, lenS_rc fun q hq => h.log.sz q (List.mem_append_right _ hq)]
 omega
theorem St.doing {A B : List Rc} {C : Ss RsT} {k : Nat} (h : St A B C k) (hk : k < 4096) {j : Nat} (hj : j < C.gs.length) (hd : C.gs[j].ph = 1) (s : Int) (f : Nat) (l : RsT) {v : Nat → Nat → Prop} (hv : s = 2 → v j f) :
  ∃ A' B', St A' B' (putC C j (doingC (ofC C C.gs[j]) s f l)) (k + 1) ∧ Trs v C.gs (putC C j (doingC (ofC C C.gs[j]) s f l)).gs ∧ OutOk C.gs (putC C j (doingC (ofC C C.gs[j]) s f l)).gs (doingO (ofC C C.gs[j]) s f l) := by
 have hcu := h.cu j hj
 obtain ⟨hcom, hkn, htold⟩ := hcu.doing hd
 have hst0 : statG C.gs[j] = 0 := by unfold statG; rw [if_pos hd]
 have hg := h.good.num j hj
 have hf1 := h.few
 have hf2 := h.few2
 have keepNum : ∀ G' : Gl RsT, G'.g = C.gs[j].g → Num (C.gs.set j G') := fun G' e => h.good.num.set fun _ => e
 have statSet : ∀ G' : Gl RsT, G'.g = C.gs[j].g → stat (C.gs.set j G') ((j : Int) + 1) = statG G' := fun G' e => by
  rw [stat_at (keepNum G' e) (by rw [List.length_set]; exact hj), List.getElem_set, if_pos rfl]
 obtain ⟨G, hG⟩ : ∃ G, G = C.gs[j] := ⟨_, rfl⟩
 rw [← hG] at hcu hcom hkn htold hst0 hg hd
 unfold doingC doingO
 by_cases h3 : (s == 3) = true
 ·rw [if_pos h3, if_pos h3]
  refine ⟨A, B, ⟨h.good.set fun _ => ⟨by rw [← hG]; rfl, by rw [← hG]; show false = G.com; rw [hcom], fun h0 => (by cases h0)⟩, h.endB.set fun _ h0 => (by rw [← hG, hcom] at h0; cases h0), cu_set h.cu (by rw [← hG]; exact hcu.abort), h.log, by omega, by show (C.gs.set j _).length ≤ _; rw [List.length_set]; omega⟩, Trs.set fun _ => ?_, ?_⟩
  ·rw [← hG]
   exact ⟨fun h0 => absurd hst0 h0, fun h0 => by have h0 : (4 : Int) = 1 := h0; omega, fun h0 => by have h0 : (2 : Int) = 1 := h0; omega⟩
  ·refine outTo (.inl ⟨rfl, ?_⟩)
   rw [← hG]
   show stat (C.gs.set j (abortG G)) G.g = 2
   rw [hg, statSet _ (by rw [← hG]; rfl)]
   rfl
 rw [if_neg h3, if_neg h3]
 rw [← hG]
 by_cases hy : (s != 2 || yesAt G f) = true
 ·rw [if_pos (show (s != 2 || yesAt (ofC C G).G f) = true from hy), if_pos (show (s != 2 || yesAt (ofC C G).G f) = true from hy)]
  have e : putC C j (ofC C G) = C := by
   unfold putC ofC
   rw [hG]
   simp only [List.set_getElem_self]
  rw [e]
  exact ⟨A, B, ⟨h.good, h.endB, h.cu, h.log, by omega, by omega⟩, Trs.same _ _, OutOk.nil⟩
 rw [if_neg (show ¬ (s != 2 || yesAt (ofC C G).G f) = true from hy), if_neg (show ¬ (s != 2 || yesAt (ofC C G).G f) = true from hy)]
 have hs2 : s = 2 := by
  have hy : (s != 2 || yesAt G f) = false := by simpa using hy
  rw [Bool.or_eq_false_iff] at hy
  simpa using hy.1
 by_cases hz : (sites notYes (voteG G f l)).length = 0
 ·rw [if_neg (show ¬ decide (((sites notYes (voteG (ofC C G).G f l)).length : Int) > 0) = true by show ¬ decide (((sites notYes (voteG G f l)).length : Int) > 0) = true; rw [hz]; decide), if_neg (show ¬ decide (((sites notYes (voteG (ofC C G).G f l)).length : Int) > 0) = true by show ¬ decide (((sites notYes (voteG G f l)).length : Int) > 0) = true; rw [hz]; decide)]
  obtain ⟨ss, hss, hpt⟩ := hcu.parts hkn
  have hsa : sites allV (voteG G f l) = ss := sites_of hss ((part_vote l f G).trans hpt)
  have hR : commitR (voteG G f l) = rcB (99, (j : Int) + 1, ss) := by
   unfold commitR rcB
   rw [hsa]
   show 99 :: (fourL G.g ++ ss) = _
   rw [hg]
  have hlen : (rcB (99, (j : Int) + 1, ss)).length ≤ 24 := by
   have := seven_len hss
   unfold rcB
   simp only [List.length_cons, List.length_append, fourL_len]
   omega
  obtain ⟨hadd, hlog⟩ := h.log.add hlen (by omega)
  have hok : commitOk (voteG G f l) C.D C.x = true := by unfold commitOk; rw [hR, hadd]; rfl
  have eC : putC C j { G := commitM (voteG (ofC C G).G f l) (ofC C G).D (ofC C G).x, m := delM (ofC C G).m (ofC C G).G.g, x := addXI (ofC C G).D (ofC C G).x (commitR (voteG (ofC C G).G f l)), D := commitD (voteG (ofC C G).G f l) (ofC C G).D (ofC C G).x } = ⟨C.gs.set j (commitG (voteG G f l)), delM C.m G.g, addXI C.D C.x (rcB (99, (j : Int) + 1, ss)), (addDI C.D C.x (rcB (99, (j : Int) + 1, ss))).sync⟩ := by
   show Ss.mk (C.gs.set j (commitM (voteG G f l) C.D C.x)) (delM C.m G.g) (addXI C.D C.x (commitR (voteG G f l))) (commitD (voteG G f l) C.D C.x) = _
   unfold commitM commitD
   rw [hok, hR]
   rfl
  have eS : commitS (voteG (ofC C G).G f l) (ofC C G).D (ofC C G).x = 4 := by
   show commitS (voteG G f l) C.D C.x = 4
   unfold commitS
   rw [hok]
   rfl
  rw [eC, eS]
  have hlog2 := hlog.sync
  have hstC : statG (commitG (voteG G f l)) = 1 := rfl
  refine ⟨A ++ (B ++ [(99, (j : Int) + 1, ss)]), [], ⟨?_, EndsOf.nil, cu_set h.cu ⟨.inr (.inl rfl), fun h0 => by have h0 : (3 : Int) = 1 := h0; omega, fun _ => rfl, fun _ => hkn, fun _ => ⟨ss, hss, (part_vote l f G).trans hpt⟩, (updV_len _ _ _).trans hcu.len⟩, hlog2, ?_, by show (C.gs.set j _).length ≤ _; rw [List.length_set]; omega⟩, Trs.set fun _ => ?_, ?_⟩
  ·rw [← List.append_assoc]
   exact (h.good.ends h.endB).commit hj (by rw [← hG]; exact hcom) hss (by rw [← hG]; rfl) rfl ((part_vote l f G).trans hpt)
  ·simp only [List.length_append, List.length_singleton, List.length_nil]
   omega
  ·rw [← hG]
   refine ⟨fun h0 => absurd hst0 h0, fun h0 => by have h0 : (3 : Int) = 1 := h0; omega, fun _ => .inr ⟨hd, fun f' hf' => ?_⟩⟩
   have hp' : partAt (voteG G f l) f' = true := by rw [partAt_map, part_vote, ← partAt_map]; exact hf'
   rcases yes_vote (all_yesAt hz hp') with h1 | rfl
   ·exact .inl h1
   ·exact .inr (hv hs2)
  ·refine outTo (.inr ⟨rfl, ?_⟩)
   show stat (C.gs.set j (commitG (voteG G f l))) G.g = 1
   rw [hg, statSet _ (by rw [← hG]; rfl)]
   rfl
 ·rw [if_pos (show decide (((sites notYes (voteG (ofC C G).G f l)).length : Int) > 0) = true by show decide (((sites notYes (voteG G f l)).length : Int) > 0) = true; exact decide_eq_true (by omega)), if_pos (show decide (((sites notYes (voteG (ofC C G).G f l)).length : Int) > 0) = true by show decide (((sites notYes (voteG G f l)).length : Int) > 0) = true; exact decide_eq_true (by omega))]
  refine ⟨A, B, ⟨h.good.set fun _ => ⟨by rw [← hG]; rfl, by rw [← hG]; rfl, fun _ => by rw [← hG]; exact part_vote l f G⟩, h.endB.set fun _ h0 => (by rw [← hG, hcom] at h0; cases h0), cu_set h.cu (hcu.vote f l), h.log, by omega, by show (C.gs.set j _).length ≤ _; rw [List.length_set]; omega⟩, Trs.set fun _ => ?_, OutOk.nil⟩
  rw [← hG]
  refine ⟨fun h0 => absurd hst0 h0, fun _ => ⟨hd, part_vote l f G, fun f' hf' => ?_⟩, fun h0 => ?_⟩
  ·rcases yes_vote hf' with h1 | rfl
   ·exact .inl h1
   ·exact .inr (hv hs2)
  ·have h0 : statG G = 1 := h0
   rw [hst0] at h0
   omega
theorem St.done {A B : List Rc} {C : Ss RsT} {k : Nat} (h : St A B C k) (hk : k < 4096) {j : Nat} (hj : j < C.gs.length) (hd : C.gs[j].ph ≠ 1) (f : Nat) (v : Nat → Nat → Prop) :
  ∃ A' B', St A' B' (putC C j (doneC (ofC C C.gs[j]) f)) (k + 1) ∧ Trs v C.gs (putC C j (doneC (ofC C C.gs[j]) f)).gs := by
 have hcu := h.cu j hj
 have hg := h.good.num j hj
 have hf1 := h.few
 have hf2 := h.few2
 obtain ⟨G, hG⟩ : ∃ G, G = C.gs[j] := ⟨_, rfl⟩
 rw [← hG] at hcu hg hd ⊢
 by_cases h3 : G.ph = 3
 rotate_left
 ·have e : putC C j (doneC (ofC C G) f) = C := by
   have e1 : doneM G f = G := by unfold doneM; rw [if_neg (by simpa using h3)]
   have e2 : ends G f = false := by unfold ends; rw [show (G.ph == 3) = false by simpa using h3]; rfl
   unfold putC doneC
   show Ss.mk (C.gs.set j (doneM G f)) C.m (doneX G f C.D C.x) (doneD G f C.D C.x) = C
   unfold doneX doneD
   rw [e1, e2, hG]
   simp only [List.set_getElem_self, Bool.false_eq_true, if_false]
  rw [e]
  exact ⟨A, B, ⟨h.good, h.endB, h.cu, h.log, by omega, by omega⟩, Trs.same _ _⟩
 have hcom := hcu.three h3
 have hM : (doneM G f).g = G.g ∧ (doneM G f).com = G.com ∧ (doneM G f).v.map (·.part) = G.v.map (·.part) ∧ (doneM G f).ph ≠ 1 := by
  unfold doneM
  split
  ·split
   ·exact ⟨rfl, rfl, part_done f G, by show (4 : Int) ≠ 1; decide⟩
   ·exact ⟨rfl, rfl, part_done f G, hd⟩
  ·exact ⟨rfl, rfl, rfl, hd⟩
 have hgood : Good A (C.gs.set j (doneM G f)) := h.good.set fun _ => by rw [← hG]; exact ⟨hM.1, hM.2.1, fun _ => hM.2.2.1⟩
 have hends : EndsOf (C.gs.set j (doneM G f)) B := h.endB.set fun _ _ => by rw [hM.2.1]; exact hcom
 have hcu2 : ∀ i (h : i < (C.gs.set j (doneM G f)).length), CuI (C.gs.set j (doneM G f))[i] := cu_set h.cu (hcu.done hcom f)
 have htr : Trs v C.gs (C.gs.set j (doneM G f)) := by
  refine Trs.set fun _ => ?_
  rw [← hG]
  have e1 : statG G = 1 := hcu.com_stat hcom
  have e2 : statG (doneM G f) = 1 := by unfold statG; rw [if_neg hM.2.2.2, if_pos (by rw [hM.2.1]; exact hcom)]
  exact ⟨fun _ => e2.trans e1.symm, fun h0 => absurd h0 hM.2.2.2, fun _ => .inl e1⟩
 by_cases he : ends G f = true
 ·have eC : putC C j (doneC (ofC C G) f) = ⟨C.gs.set j (doneM G f), C.m, addXI C.D C.x (rcB (101, (j : Int) + 1, [])), addDI C.D C.x (rcB (101, (j : Int) + 1, []))⟩ := by
   show Ss.mk (C.gs.set j (doneM G f)) C.m (doneX G f C.D C.x) (doneD G f C.D C.x) = _
   unfold doneX doneD
   rw [he, show endR G.g = rcB (101, (j : Int) + 1, []) by rw [hg]; rfl]
   rfl
  rw [eC]
  obtain ⟨-, hlog⟩ := h.log.add (r := (101, (j : Int) + 1, [])) (show 5 ≤ 24 by decide) (by omega)
  refine ⟨A, B ++ [(101, (j : Int) + 1, [])], ⟨hgood, fun r hr => ?_, hcu2, hlog, ?_, by show (C.gs.set j _).length ≤ _; rw [List.length_set]; omega⟩, htr⟩
  ·rcases List.mem_append.1 hr with hr | hr
   ·exact hends r hr
   ·rw [List.mem_singleton] at hr
    refine ⟨j, by show j < (C.gs.set j _).length; rw [List.length_set]; exact hj, hr, ?_⟩
    show ((C.gs.set j (doneM G f))[j]'(by rw [List.length_set]; exact hj)).com = true
    rw [List.getElem_set, if_pos rfl, hM.2.1]
    exact hcom
  ·rw [List.length_append, List.length_singleton]
   omega
 ·have eC : putC C j (doneC (ofC C G) f) = ⟨C.gs.set j (doneM G f), C.m, C.x, C.D⟩ := by
   show Ss.mk (C.gs.set j (doneM G f)) C.m (doneX G f C.D C.x) (doneD G f C.D C.x) = _
   unfold doneX doneD
   rw [if_neg he, if_neg he]
  rw [eC]
  exact ⟨A, B, ⟨hgood, hends, hcu2, h.log, by omega, by show (C.gs.set j _).length ≤ _; rw [List.length_set]; omega⟩, htr⟩
def votes (s f t g : Int) (i k : Nat) : Prop := s = 2 ∧ t = 0 ∧ g = (i : Int) + 1 ∧ f = (k : Int) ∧ 1 ≤ f ∧ f ≤ 3
theorem St.came {A B : List Rc} {C : Ss RsT} {k : Nat} (h : St A B C k) (hk : k < 4096) (s f t g : Int) (l : RsT) :
  ∃ A' B', St A' B' (cameS C s f t g l) (k + 1) ∧ Trs (votes s f t g) C.gs (cameS C s f t g l).gs ∧ OutOk C.gs (cameS C s f t g l).gs (cameO C s f t g l).1 := by
 have hf1 := h.few
 have hf2 := h.few2
 have same : ∀ {os : List PM}, OutOk C.gs C.gs os → ∃ A' B', St A' B' C (k + 1) ∧ Trs (votes s f t g) C.gs C.gs ∧ OutOk C.gs C.gs os := fun ho => ⟨A, B, ⟨h.good, h.endB, h.cu, h.log, by omega, by omega⟩, Trs.same _ _, ho⟩
 unfold cameS cameO
 by_cases hbad : badMsg f t g = true
 ·rw [if_pos hbad, if_pos hbad]
  exact same OutOk.nil
 rw [if_neg hbad, if_neg hbad]
 by_cases hsay : (!sayOk s) = true
 ·rw [if_pos hsay, if_pos hsay]
  exact same OutOk.nil
 rw [if_neg hsay, if_neg hsay]
 have hb : t = 0 ∧ 1 ≤ f ∧ f ≤ 3 := by
  unfold badMsg at hbad
  simp only [Bool.or_eq_true, bne_iff_ne, ne_eq, decide_eq_true_eq, beq_iff_eq, not_or] at hbad
  omega
 rcases h.good.num.cases g with ⟨-, hno⟩ | ⟨j, hj, rfl, hfd⟩
 ·simp only [hno]
  refine same fun o ho => ?_
  split at ho
  ·rw [List.mem_singleton] at ho
   subst ho
   exact .inl ⟨rfl, .inl hno⟩
  ·cases ho
 simp only [hfd]
 have hcu := h.cu j hj
 have hstat := stat_at h.good.num hj
 unfold cameG cameGO
 by_cases hkp : (C.gs[j].kn && !partAt C.gs[j] f.toNat) = true
 ·rw [if_pos hkp, if_pos hkp]
  exact same OutOk.nil
 rw [if_neg hkp, if_neg hkp]
 by_cases hph : C.gs[j].ph = 1
 ·rw [if_pos (show (C.gs[j].ph == 1) = true by rw [hph]; rfl), if_pos (show (C.gs[j].ph == 1) = true by rw [hph]; rfl)]
  exact h.doing hk hj hph s f.toNat l fun h2 => ⟨h2, hb.1, rfl, by omega, hb.2⟩
 rw [if_neg (show ¬ (C.gs[j].ph == 1) = true by simpa using hph), if_neg (show ¬ (C.gs[j].ph == 1) = true by simpa using hph)]
 by_cases has : asks s = true
 ·rw [if_pos has, if_pos has]
  refine same fun o ho => ?_
  rw [List.mem_singleton] at ho
  subst ho
  have hgj := h.good.num j hj
  cases hc : C.gs[j].com with
  | true =>
   refine .inr ⟨rfl, ?_⟩
   show stat C.gs C.gs[j].g = 1
   rw [hgj, hstat]
   exact hcu.com_stat hc
  | false =>
   refine .inl ⟨rfl, .inr ?_⟩
   show stat C.gs C.gs[j].g = 2
   rw [hgj, hstat]
   exact CuI.no_stat hph hc
 rw [if_neg has, if_neg has]
 by_cases h6 : (s == 6) = true
 ·rw [if_pos h6]
  obtain ⟨A', B', h1, h2⟩ := h.done hk hj hph f.toNat (votes s f t ((j : Int) + 1))
  exact ⟨A', B', h1, h2, OutOk.nil⟩
 ·rw [if_neg h6]
  exact same OutOk.nil
theorem St.tick {A B : List Rc} {C : Ss RsT} {k : Nat} (h : St A B C k) (now : Int) :
  St A B (tickAll C now).1 k ∧ Trs noV C.gs (tickAll C now).1.gs ∧ OutOk C.gs (tickAll C now).1.gs (tickAll C now).2 := by
 have step : ∀ (due l : List Int) (q : Ss RsT × List PM), St A B q.1 k → Trs noV C.gs q.1.gs → OutOk C.gs q.1.gs q.2 → St A B (l.foldl (tickF due) q).1 k ∧ Trs noV C.gs (l.foldl (tickF due) q).1.gs ∧ OutOk C.gs (l.foldl (tickF due) q).1.gs (l.foldl (tickF due) q).2 := by
  intro due l
  induction l with
  | nil => intro q h1 h2 h3; exact ⟨h1, h2, h3⟩
  | cons g l ih =>
   intro q h1 h2 h3
   rw [List.foldl_cons]
   have hq : St A B (tickG q.1 due g) k ∧ Trs noV q.1.gs (tickG q.1 due g).gs ∧ OutOk C.gs (tickG q.1 due g).gs (tickGO q.1 due g) := by
    unfold tickG tickGO
    rcases h1.good.num.cases g with ⟨-, hno⟩ | ⟨j, hj, rfl, hfd⟩
    ·simp only [hno]
     exact ⟨h1, Trs.same _ _, OutOk.nil⟩
    simp only [hfd]
    have hcu := h1.cu j hj
    have hgj := h1.good.num j hj
    have hstat := stat_at h1.good.num hj
    have hf2 := h1.few2
    by_cases hd : (q.1.gs[j].ph == 1 && hasI due ((j : Int) + 1)) = true
    ·rw [if_pos hd, if_pos hd]
     have hph : q.1.gs[j].ph = 1 := by
      rw [Bool.and_eq_true] at hd
      simpa using hd.1
     obtain ⟨hcom, -, -⟩ := hcu.doing hph
     have hst0 : statG q.1.gs[j] = 0 := by unfold statG; rw [if_pos hph]
     have hnum : Num (q.1.gs.set j (abortG q.1.gs[j])) := h1.good.num.set fun _ => rfl
     refine ⟨⟨h1.good.set fun _ => ⟨rfl, hcom.symm, fun h0 => (by cases h0)⟩, h1.endB.set fun _ h0 => (by rw [hcom] at h0; cases h0), cu_set h1.cu hcu.abort, h1.log, h1.few, by show (q.1.gs.set j _).length ≤ _; rw [List.length_set]; omega⟩, Trs.set fun _ => ⟨fun h0 => absurd hst0 h0, fun h0 => by have h0 : (4 : Int) = 1 := h0; omega, fun h0 => by have h0 : (2 : Int) = 1 := h0; omega⟩, outTo (.inl ⟨rfl, ?_⟩)⟩
     show stat (q.1.gs.set j (abortG q.1.gs[j])) q.1.gs[j].g = 2
     rw [hgj, stat_at hnum (by rw [List.length_set]; exact hj), List.getElem_set, if_pos rfl]
     rfl
    ·rw [if_neg hd, if_neg hd]
     refine ⟨h1, Trs.same _ _, ?_⟩
     by_cases h3 : (q.1.gs[j].ph == 3) = true
     ·rw [if_pos h3]
      have hc := hcu.three (by simpa using h3)
      refine outTo (.inr ⟨rfl, ?_⟩)
      rw [hgj, hstat]
      exact hcu.com_stat hc
     ·rw [if_neg h3]
      exact OutOk.nil
   obtain ⟨a1, a2, a3⟩ := hq
   refine ih (tickF due q g) a1 (h2.trans a2) (OutOk.app (fun o ho => ?_) a3)
   have hk2 := a2.keep h1.good.num a1.good.num o.2.2
   rcases h3 o ho with ⟨e1, e2 | e2⟩ | ⟨e1, e2⟩
   ·exact .inl ⟨e1, .inl e2⟩
   ·exact .inl ⟨e1, .inr (by show stat (tickG q.1 due g).gs o.2.2 = 2; rw [hk2 (by rw [e2]; decide)]; exact e2)⟩
   ·exact .inr ⟨e1, by show stat (tickG q.1 due g).gs o.2.2 = 1; rw [hk2 (by rw [e2]; decide)]; exact e2⟩
 exact step _ _ _ ⟨h.good, h.endB, h.cu, h.log, h.few, h.few2⟩ (Trs.same _ _) OutOk.nil
theorem LrI.cu {G : Gl RsT} (h : LrI G) : CuI G := by
 cases hc : G.com with
 | true =>
  obtain ⟨h1, h2, h3, ss, h4, h5⟩ := h.c hc
  refine ⟨.inr h2, fun h0 => by rcases h2 with h2 | h2 <;> omega, fun _ => hc, fun _ => h1, fun _ => ⟨ss, h4, by rw [h5]; rfl⟩, ?_⟩
  rw [h5]
  simp only [seven, List.mem_cons, List.not_mem_nil, or_false] at h4
  rcases h4 with rfl | rfl | rfl | rfl | rfl | rfl | rfl <;> rfl
 | false =>
  have e := h.o hc
  rw [e]
  exact ⟨.inr (.inr rfl), fun h0 => by have h0 : (4 : Int) = 1 := h0; omega, fun h0 => by have h0 : (4 : Int) = 3 := h0; omega, fun h0 => (by cases h0), fun h0 => (by cases h0), rfl⟩
theorem St.fail {A B : List Rc} {C : Ss RsT} {k : Nat} (h : St A B C k) (hk : k ≤ 4096) (keep torn : Int) (m : List (Int × Int)) :
  recsD (Dk.fail C.D keep torn) = (A ++ B.take (lead keep 0 B.length)).map rcB ∧ St (A ++ B.take (lead keep 0 B.length)) [] ⟨lrn (A ++ B.take (lead keep 0 B.length)), m, atD (Dk.fail C.D keep torn), openD (Dk.fail C.D keep torn)⟩ k ∧ Trs noV C.gs (lrn (A ++ B.take (lead keep 0 B.length))) ∧ ∀ i (h1 : i < (lrn (A ++ B.take (lead keep 0 B.length))).length) (h2 : i < C.gs.length), LrI (lrn (A ++ B.take (lead keep 0 B.length)))[i] ∧ RelG (lrn (A ++ B.take (lead keep 0 B.length)))[i] C.gs[i] := by
 have hf1 := h.few
 have hf2 := h.few2
 obtain ⟨l1, l2⟩ := h.log.fail (by omega) keep torn
 have hB : EndsOf C.gs (B.take (lead keep 0 B.length)) := fun r hr => h.endB r (List.mem_of_mem_take hr)
 have hg := h.good.ends hB
 have hl := hg.len
 refine ⟨l1, ⟨hg.self, EndsOf.nil, fun i hi => (hg.lr i hi).cu, l2, ?_, by show (lrn _).length ≤ _; omega⟩, ⟨hl, fun i h1 h2 => ?_⟩, fun i h1 h2 => ⟨hg.lr i h1, hg.rel i h1 h2⟩⟩
 ·rw [List.length_append, List.length_take, List.length_nil]
  omega
 ·have hL := hg.lr i h2
  have hR := hg.rel i h2 h1
  have hcu := h.cu i h1
  have hcL := hL.cu
  have hph : (lrn (A ++ B.take (lead keep 0 B.length)))[i].ph ≠ 1 := by
   cases hc : (lrn (A ++ B.take (lead keep 0 B.length)))[i].com with
   | true => rcases (hL.c hc).2.1 with h0 | h0 <;> omega
   | false => rw [hL.o hc]; show (4 : Int) ≠ 1; decide
  refine ⟨fun h0 => ?_, fun h0 => absurd h0 hph, fun h0 => ?_⟩
  ·cases hc : C.gs[i].com with
   | true => rw [hcu.com_stat hc, hcL.com_stat (hR.com.trans hc)]
   | false =>
    have hp : C.gs[i].ph ≠ 1 := fun e => h0 (by unfold statG; rw [if_pos e])
    rw [CuI.no_stat hp hc, CuI.no_stat hph (hR.com.trans hc)]
  ·cases hc : C.gs[i].com with
   | true => exact .inl (hcu.com_stat hc)
   | false =>
    rw [CuI.no_stat hph (hR.com.trans hc)] at h0
    omega
def gB (n : Int) (L : List Int) : Gl RsT := gl0 (newG zV n L)
theorem gB_is {L : List Int} (hL : L ∈ seven) (n : Int) : (gB n L).g = n ∧ (gB n L).ph = 1 ∧ (gB n L).com = false ∧ (gB n L).kn = true ∧ (gB n L).told = true ∧ (gB n L).v.map (·.part) = parts4 L ∧ (gB n L).v.length = 4 ∧ ∀ f, yesAt (gB n L) f = false := by
 refine ⟨rfl, rfl, rfl, rfl, rfl, ?_, ?_, fun f => ?_⟩
 all_goals
  simp only [seven, List.mem_cons, List.not_mem_nil, or_false] at hL
  rcases hL with rfl | rfl | rfl | rfl | rfl | rfl | rfl
 all_goals first
  | rfl
  | (match f with
   | 0 => rfl
   | 1 => rfl
   | 2 => rfl
   | 3 => rfl
   | f + 4 => rfl)
theorem St.begin_ {A B : List Rc} {C : Ss RsT} {k : Nat} (h : St A B C k) (hk : k < 4096) {L : List Int} (hL : L ∈ seven) (m : List (Int × Int)) :
  addEI C.D C.x (beginR ((C.gs.length : Int) + 1)) = 0 ∧ St (A ++ (B ++ [(98, (C.gs.length : Int) + 1, [])])) [] ⟨C.gs ++ [gB ((C.gs.length : Int) + 1) L], m, addXI C.D C.x (beginR ((C.gs.length : Int) + 1)), (addDI C.D C.x (beginR ((C.gs.length : Int) + 1))).sync⟩ (k + 1) := by
 have hf1 := h.few
 have hf2 := h.few2
 obtain ⟨q1, q2, q3, q4, q5, q6, q7, -⟩ := gB_is hL ((C.gs.length : Int) + 1)
 have e : beginR ((C.gs.length : Int) + 1) = rcB (98, (C.gs.length : Int) + 1, []) := rfl
 obtain ⟨a1, a2⟩ := h.log.add (r := (98, (C.gs.length : Int) + 1, [])) (show 5 ≤ 24 by decide) (by omega)
 rw [e]
 refine ⟨a1, ?_, EndsOf.nil, fun i hi => ?_, a2.sync, ?_, ?_⟩
 ·rw [← List.append_assoc]
  exact (h.good.ends h.endB).begin_ (by omega) q1 q3
 ·rw [List.length_append, List.length_singleton] at hi
  by_cases hl : i < C.gs.length
  ·simp only [List.getElem_append_left hl]; exact h.cu i hl
  ·have : i = C.gs.length := by omega
   subst this
   rw [List.getElem_append_right (Nat.le_refl _)]
   simp only [Nat.sub_self, List.getElem_cons_zero]
   exact ⟨.inl q2, fun _ => ⟨q3, q4, q5⟩, fun h0 => by rw [q2] at h0; omega, fun h0 => (by rw [q3] at h0; cases h0), fun _ => ⟨L, hL, q6⟩, q7⟩
 ·simp only [List.length_append, List.length_singleton, List.length_nil]
  omega
 ·simp only [List.length_append, List.length_singleton]
  omega
theorem St.start : St [] [] ⟨[], [], 0, D0⟩ 0 := ⟨Good.start, EndsOf.nil, fun i h => absurd h (Nat.not_lt_zero _), LgS.start, Nat.le_refl _, Nat.le_refl _⟩
theorem stat_snoc {gs : List (Gl RsT)} (hn : Num gs) {G : Gl RsT} (hg : G.g = (gs.length : Int) + 1) (hp : G.ph = 1) (g : Int) : stat (gs ++ [G]) g = stat gs g := by
 have hn2 := hn.snoc hg
 rcases hn.cases g with ⟨h1, h2⟩ | ⟨j, hj, rfl, -⟩
 ·have e1 : stat gs g = 0 := by unfold stat; rw [h2]
  rw [e1]
  by_cases hgl : g = (gs.length : Int) + 1
  ·subst hgl
   rw [stat_at hn2 (by rw [List.length_append, List.length_singleton]; omega), List.getElem_append_right (Nat.le_refl _)]
   simp only [Nat.sub_self, List.getElem_cons_zero]
   unfold statG
   rw [if_pos hp]
  ·unfold stat
   rw [hn2.findN (by rw [List.length_append, List.length_singleton]; omega)]
 ·rw [stat_at hn hj, stat_at hn2 (by rw [List.length_append, List.length_singleton]; omega), List.getElem_append_left hj]
theorem told_stat {gs : List (Gl RsT)} (g : Int) : ∃ p ls z, toldG gs g = (p, ls, z) ∧ (z == 0) = (stat gs g != 0) ∧ p = (stat gs g == 1) := by
 unfold toldG stat findG
 cases hi : (idxG gs g) with
 | none => exact ⟨false, [], 6, rfl, rfl, rfl⟩
 | some j =>
  simp only [Option.bind_some]
  cases hj : gs[j]? with
  | none => exact ⟨false, [], 6, rfl, rfl, rfl⟩
  | some G =>
   simp only [Option.map_some]
   unfold statG
   by_cases h1 : G.ph = 1
   ·rw [if_pos (by rw [h1]; rfl), if_pos h1]
    exact ⟨false, [], 7, rfl, rfl, rfl⟩
   ·rw [if_neg (by simpa using h1), if_neg h1]
    cases hc : G.com with
    | true =>
     cases ht : G.told with
     | true => exact ⟨true, _, 0, rfl, rfl, rfl⟩
     | false => exact ⟨true, [], 0, rfl, rfl, rfl⟩
    | false => exact ⟨false, [], 0, rfl, rfl, rfl⟩
theorem enOnce : Enters Tryz.prog 19 := fun _ _ => by kernel_rfl
theorem enStays : Enters Tryz.prog 20 := fun _ _ => by kernel_rfl
def orcSy : Orc := ⟨[(3, .int .i64), (4, .bool), (5, .int .u8), (31, .int .u32), (58, .int .u64), (28, .int .i64), (36, .int .u8), (104, .struct #[Go.Field.mk "Kind" 102 0 false "" "" 0, Go.Field.mk "Key" 9 1 false "" "" 8, Go.Field.mk "To" 9 2 false "" "" 24, Go.Field.mk "Value" 31 3 false "" "" 40]), (37, .slice 104), (42, .struct #[Go.Field.mk "Say" 36 0 false "" "" 0, Go.Field.mk "From" 5 1 false "" "" 1, Go.Field.mk "To" 5 2 false "" "" 2, Go.Field.mk "G" 31 3 false "" "" 4, Go.Field.mk "Ops" 37 4 false "" "" 8, Go.Field.mk "Results" 40 5 false "" "" 32]), (27, .slice 42), (39, .struct #[Go.Field.mk "Site" 5 0 false "" "" 0, Go.Field.mk "Ops" 37 1 false "" "" 8]), (22, .slice 39), (54, .array 8 3), (55, .array 4 4), (56, .array 8 55), (57, .array 8 22), (66, .pointer 54), (69, .pointer 56), (67, .pointer 57), (45, .slice 40), (40, .slice 157), (24, .pointer 77), (23, .pointer 121), (60, .struct #[Go.Field.mk "Kind" 5 0 false "" "" 0, Go.Field.mk "L" 22 1 false "" "" 8, Go.Field.mk "M" 42 2 false "" "" 32, Go.Field.mk "Keep" 58 8 false "" "" 88, Go.Field.mk "Torn" 3 9 false "" "" 96]), (52, .slice 60)],
 [(3, 1), (4, 1), (5, 1), (31, 1), (58, 1), (28, 1), (36, 1), (104, 4), (37, 1), (42, 6), (27, 1), (39, 2), (22, 1), (54, 8), (55, 4), (56, 32), (57, 8), (66, 1), (69, 1), (67, 1), (45, 1), (40, 1), (24, 1), (23, 1), (60, 10), (52, 1)]⟩
theorem oSy_ : orcSy.Ok Tryz.prog := ⟨⟨Tryz.underlying3, Tryz.underlying4, Tryz.underlying5, Tryz.underlying31, Tryz.underlying58, Tryz.underlying28, Tryz.underlying36, Tryz.underlying104, Tryz.underlying37, Tryz.underlying42, Tryz.underlying27, Tryz.underlying39, Tryz.underlying22, Tryz.underlying54, Tryz.underlying55, Tryz.underlying56, Tryz.underlying57, Tryz.underlying66, Tryz.underlying69, Tryz.underlying67, Tryz.underlying45, Tryz.underlying40, Tryz.underlying24, Tryz.underlying23, Tryz.underlying60, Tryz.underlying52, trivial⟩, ⟨by kernel_rfl, by kernel_rfl, by kernel_rfl, by kernel_rfl, by kernel_rfl, by kernel_rfl, by kernel_rfl, by kernel_rfl, by kernel_rfl, by kernel_rfl, by kernel_rfl, by kernel_rfl, by kernel_rfl, by kernel_rfl, by kernel_rfl, by kernel_rfl, by kernel_rfl, by kernel_rfl, by kernel_rfl, by kernel_rfl, by kernel_rfl, by kernel_rfl, by kernel_rfl, by kernel_rfl, by kernel_rfl, by kernel_rfl, trivial⟩⟩
abbrev RawPs := Option Addr × Nat × List RawP
def ptV (p : RawPs) : Value := .slice p.1 p.2.2.length p.2.1
def iA (b : Nat) (l : List Int) : Asn := stA 54 b (l.map (Value.int .i64))
def yA (b : Nat) (l : List Bool) : Asn := stA 56 b (l.map Value.bool)
def ptA (b : Nat) (l : List RawPs) : Asn := stA 57 b (l.map ptV)
def noP : RawPs := (none, 0, [])
structure RdPm (w : World) (A : Option Addr) (os : List PM) : Prop where
 cell : ∀ i (hi : i < os.length), ∃ ad, A = some ad ∧ ∀ j u, (pmV os[i])[j]? = some u → w.cell? (ad.add (i * 6 + j)) = some u
theorem map_getD {α β : Type} (f : α → β) {l : List α} {i : Nat} (h : i < l.length) (d : α) : (l.map f)[i]? = some (f (l.getD i d)) := by
 rw [List.getElem?_map, List.getD_eq_getElem?_getD, List.getElem?_eq_getElem h]
 rfl
theorem getD_set {α : Type} {l : List α} {i j : Nat} {v d : α} (h : i < l.length) : (l.set i v).getD j d = if i = j then v else l.getD j d := by
 rw [List.getD_eq_getElem?_getD, List.getD_eq_getElem?_getD, List.getElem?_set]
 by_cases hij : i = j
 ·subst hij
  rw [if_pos rfl, if_pos rfl, if_pos h]
  rfl
 ·rw [if_neg hij, if_neg hij]
structure SaysI (N : Nat → Int) (says : List Int) : Prop where
 len : says.length = 8
 is : ∀ g, g < 8 → says.getD g 0 ≠ 0 → says.getD g 0 = N g
 wf : ∀ v ∈ says, 0 ≤ v ∧ v ≤ 2
theorem SaysI.set {N : Nat → Int} {says : List Int} (h : SaysI N says) {g : Nat} (hg : g < 8) {n : Int} (hn : n = N g) (h2 : 0 ≤ n ∧ n ≤ 2) : SaysI N (says.set g n) := by
 refine ⟨by rw [List.length_set]; exact h.len, fun j hj h0 => ?_, fun v hv => ?_⟩
 ·rw [getD_set (by rw [h.len]; exact hg)] at h0 ⊢
  split at h0
  ·rename_i e
   rw [if_pos e, hn, e]
  ·rename_i e
   rw [if_neg e]
   exact h.is j hj h0
 ·rcases List.mem_or_eq_of_mem_set hv with hv | rfl
  ·exact h.wf v hv
  ·exact h2
section
variable {w w0 : World} {R : List Asn}
theorem pt_okS {bp : Nat} {prt : List RawPs} {M : List Asn} (S : Sat w0 w M) (i : Nat) (hi : M[i]? = some (ptA bp prt)) {g : Nat} (hg : g < prt.length) : w.cell? ((⟨bp, 0, none⟩ : Addr).add (g * 1)) = some (ptV (prt.getD g noP)) ∧ vok (ptV (prt.getD g noP)) = true := by
 rw [Nat.mul_one]
 exact Sat.stAt S i hi (map_getD ptV hg noP)
theorem i_okS {b : Nat} {l : List Int} {M : List Asn} (S : Sat w0 w M) (i : Nat) (hi : M[i]? = some (iA b l)) {g : Nat} (hg : g < l.length) : w.cell? ((⟨b, 0, none⟩ : Addr).add (g * 1)) = some (.int .i64 (l.getD g 0)) ∧ vok (.int .i64 (l.getD g 0)) = true := by
 rw [Nat.mul_one]
 exact Sat.stAt S i hi (map_getD (Value.int .i64) hg 0)
theorem once_call {A : Option Addr} {c bsy bp : Nat} {os : List PM} {says : List Int} {prt : List RawPs} {N : Nat → Int} (hR : ∀ w', Sat w0 w' R → RdPm w' A os) (hV : ∀ o ∈ os, (pmV o).all vok1 = true) (hm : os.length ≤ c ∧ c ≤ maxLen) (hI : SaysI N says) (hlp : prt.length = 8)
  (hout : ∀ o ∈ os, ∀ g : Nat, o.2.2 = g → g < 8 → (prt.getD g noP).2.2.length ≠ 0 → (o.1 = 5 → N g = 2) ∧ (o.1 = 4 → N g = 1)) (S : Sat w0 w (iA bsy says :: ptA bp prt :: R)) :
  Calls Tryz.prog 19 #[.slice A os.length c, .pointer (some ⟨bsy, 0, none⟩), .pointer (some ⟨bp, 0, none⟩)] w fun e w' => ∃ says', e = .returned (.bool true) ∧ SaysI N says' ∧ Sat w0 w' (iA bsy says' :: ptA bp prt :: R) := by
 refine calls_start (N := 74) [.slice A os.length c, .pointer (some ⟨bsy, 0, none⟩), .pointer (some ⟨bp, 0, none⟩)] Tryz.func19 rfl rfl rfl (vok_c (vok_sl hm) rfl) fun a fr => ?_
 refine r_ rfl ?_
 repeat refine w_ oSy_ rfl fr fun a fr => ?_
 refine er_ rfl rfl ?_
 repeat refine w_ oSy_ rfl fr fun a fr => ?_
 first | refine e_ ?_ | refine wpList_nil ?_
 have hm2 := hm.2
 unfold maxLen at hm2
 refine q_ rfl ?_
 refine wp_block ?_
 refine cw_loop (fun q a w2 => ∃ (i : Nat) (says : List Int), i + q = os.length + 1 ∧ i ≤ os.length ∧ SaysI N says ∧ Fr 74 a [(0, .slice A os.length c), (1, .pointer (some ⟨bsy, 0, none⟩)), (2, .pointer (some ⟨bp, 0, none⟩)), (7, .int .i64 (i : Int))] ∧ Sat w0 w2 (iA bsy says :: ptA bp prt :: R)) (os.length + 1)
  ⟨0, says, by omega, by omega, hI, fr.sub ⟨rfl, rfl, rfl, rfl, trivial⟩, S⟩ ?_ ?_
 ·rintro a w2 ⟨i, says, h, h', -⟩
  omega
 clear fr S hI
 rintro q a w2 ⟨i, says, hi, hi', hI, fr, S⟩
 refine r_ rfl ?_
 repeat refine w_ oSy_ rfl fr fun a fr => ?_
 first | refine e_ ?_ | refine wpList_nil ?_
 by_cases hlt : i < os.length
 rotate_left
 ·have fr := fr.bool (d := 13) rfl (decide_eq_false (show ¬ (i : Int) < (os.length : Int) by omega))
  refine q_ rfl ?_
  refine cw_f fr rfl ?_
  refine wp_exit ?_
  refine xr_ rfl rfl ?_
  repeat refine w_ oSy_ rfl fr fun a fr => ?_
  first | refine e_ ?_ | refine wpList_nil ?_
  refine wp_ret ?_
  exact ret1 fr rfl rfl ⟨says, rfl, hI, S⟩
 have fr := fr.bool (d := 13) rfl (decide_eq_true (show (i : Int) < (os.length : Int) by omega))
 refine q_ rfl ?_
 refine cw_t fr rfl ?_
 refine wp_skip ?_
 with_reducible refine then_n ?_
 obtain ⟨ad, hA, -⟩ := (hR _ S.tl.tl).cell i hlt
 have hmem := List.getElem_mem hlt
 have hc : ∀ {w'}, Sat w0 w' (iA bsy says :: ptA bp prt :: R) → ∀ j u, (pmV os[i])[j]? = some u → w'.cell? (ad.add (i * 6 + j)) = some u := fun {w'} S' => by
  obtain ⟨ad', h1, h2⟩ := (hR w' S'.tl.tl).cell i hlt
  rw [hA] at h1; injection h1 with h1; subst h1
  exact h2
 have hv := hV _ hmem
 have ho := hout _ hmem
 generalize os[i] = o at hc hv ho
 obtain ⟨sy, to, gz⟩ := o
 simp only [pmV, List.all_cons, Bool.and_eq_true] at hv
 obtain ⟨hsy, -, hto, hgz, -⟩ := hv
 have hgr : 0 ≤ gz := by
  have h : (Lit.int .u32 gz).wf = true := hgz
  rw [wf_int] at h
  have e1 : IntKind.u32.min = 0 := by decide
  omega
 obtain ⟨g, rfl⟩ : ∃ g : Nat, gz = g := ⟨gz.toNat, by omega⟩
 obtain ⟨n, hn⟩ : ∃ n : Int, n = if sy = 5 then 2 else 1 := ⟨_, rfl⟩
 have hn2 : 0 ≤ n ∧ n ≤ 2 := by rw [hn]; split <;> decide
 refine q_ rfl ?_
 refine cw_any (fun a w2 => ∃ says, SaysI N says ∧ Fr 74 a [(0, .slice A os.length c), (1, .pointer (some ⟨bsy, 0, none⟩)), (2, .pointer (some ⟨bp, 0, none⟩)), (7, .int .i64 (i : Int))] ∧ Sat w0 w2 (iA bsy says :: ptA bp prt :: R)) ?_ ?_
 rotate_left
 ·clear fr S hI hc
  rintro a w3 ⟨says, hI, fr, S⟩
  refine r_ rfl ?_
  repeat refine w_ oSy_ rfl fr fun a fr => ?_
  first | refine e_ ?_ | refine wpList_nil ?_
  have fr := fr.spell (d := 7) rfl (congrArg (Value.int .i64) (i64_next hlt (by omega)))
  exact ⟨i + 1, says, by omega, by omega, hI, fr.sub ⟨rfl, rfl, rfl, rfl, trivial⟩, S⟩
 refine wp_block ?_
 refine r_ rfl ?_
 repeat refine w_ oSy_ rfl fr fun a fr => ?_
 refine wl_ixe oSy_ hA fr rfl rfl rfl rfl rfl rfl rfl rfl ⟨by omega, by omega⟩ fun a fr => ?_
 repeat refine w_ oSy_ rfl fr fun a fr => ?_
 refine wl_ldf oSy_ (v := .int .u32 (g : Int)) ⟨(show World.cell? _ ((ad.add (i * 6)).add 3) = some (.int .u32 (g : Int)) by rw [add_add]; exact hc S 3 _ rfl), hgz⟩ fr rfl rfl rfl rfl rfl rfl rfl fun a fr => ?_
 repeat refine w_ oSy_ rfl fr fun a fr => ?_
 refine er_ rfl rfl ?_
 repeat refine w_ oSy_ rfl fr fun a fr => ?_
 refine er_ rfl rfl ?_
 repeat refine w_ oSy_ rfl fr fun a fr => ?_
 refine wl_ixe oSy_ hA fr rfl rfl rfl rfl rfl rfl rfl rfl ⟨by omega, by omega⟩ fun a fr => ?_
 repeat refine w_ oSy_ rfl fr fun a fr => ?_
 refine wl_ldf oSy_ (v := .int .u8 sy) ⟨(show World.cell? _ ((ad.add (i * 6)).add 0) = some (.int .u8 sy) by rw [add_add]; exact hc S 0 _ rfl), hsy⟩ fr rfl rfl rfl rfl rfl rfl rfl fun a fr => ?_
 repeat refine w_ oSy_ rfl fr fun a fr => ?_
 refine eq_ rfl rfl ?_
 refine cw_any (fun a w3 => Fr 74 a [(0, .slice A os.length c), (1, .pointer (some ⟨bsy, 0, none⟩)), (2, .pointer (some ⟨bp, 0, none⟩)), (7, .int .i64 (i : Int)), (8, .int .u32 (g : Int)), (9, .int .i64 n)] ∧ w3 = w2) ?_ ?_
 ·refine bs 26 fr rfl (fun q1 fr => ?_) (fun q1 fr => ?_)
  ·have e5 : sy = 5 := by simpa using q1
   rw [if_pos e5] at hn
   refine q_ rfl ?_
   refine cw_t fr rfl ?_
   refine r_ rfl ?_
   repeat refine w_ oSy_ rfl fr fun a fr => ?_
   first | refine e_ ?_ | refine wpList_nil ?_
   rw [hn]
   exact ⟨rfl, fr.sub ⟨rfl, rfl, rfl, rfl, rfl, rfl, trivial⟩, rfl⟩
  ·have e5 : ¬ sy = 5 := by simpa using q1
   rw [if_neg e5] at hn
   refine q_ rfl ?_
   refine cw_f fr rfl ?_
   refine wp_skip ?_
   rw [hn]
   exact ⟨rfl, fr.sub ⟨rfl, rfl, rfl, rfl, rfl, rfl, trivial⟩, rfl⟩
 clear fr
 rintro a _ ⟨fr, rfl⟩
 refine r_ rfl ?_
 repeat refine w_ oSy_ rfl fr fun a fr => ?_
 refine bs 29 fr rfl (fun q1 fr => ?_) (fun q1 fr => ?_)
 ·repeat refine w_ oSy_ rfl fr fun a fr => ?_
  first | refine e_ ?_ | refine wpList_nil ?_
  (
 refine q_ rfl ?_
 refine cw_t fr rfl ?_
 refine wp_exit ?_
 skip; (repeat (first | (with_reducible refine then_e ?_) | (with_reducible refine ng_e ?_) | (with_reducible refine blk_e (by decide) ?_))); (with_reducible refine blk_y ?_); (repeat (with_reducible refine then_n ?_))
 exact ⟨rfl, says, hI, fr.sub ⟨rfl, rfl, rfl, rfl, trivial⟩, S⟩
)
 have hg8 : g < 8 := by have := of_decide_eq_false q1; omega
 repeat refine w_ oSy_ rfl fr fun a fr => ?_
 refine wl_ixa oSy_ fr rfl rfl rfl rfl rfl rfl rfl rfl ⟨by omega, by omega⟩ fun a fr => ?_
 refine wl_ldf oSy_ (v := ptV (prt.getD g noP)) (pt_okS S 1 rfl (by omega)) fr rfl rfl rfl rfl rfl rfl rfl fun a fr => ?_
 have fr := fr.spell (d := 34) rfl (show ptV (prt.getD g noP) = .slice (prt.getD g noP).1 (prt.getD g noP).2.2.length (prt.getD g noP).2.1 from rfl)
 repeat refine w_ oSy_ rfl fr fun a fr => ?_
 refine bs 38 fr rfl (fun q2 fr => ?_) (fun q2 fr => ?_)
 ·repeat refine w_ oSy_ rfl fr fun a fr => ?_
  first | refine e_ ?_ | refine wpList_nil ?_
  (
 refine q_ rfl ?_
 refine cw_t fr rfl ?_
 refine wp_exit ?_
 skip; (repeat (first | (with_reducible refine then_e ?_) | (with_reducible refine ng_e ?_) | (with_reducible refine blk_e (by decide) ?_))); (with_reducible refine blk_y ?_); (repeat (with_reducible refine then_n ?_))
 exact ⟨rfl, says, hI, fr.sub ⟨rfl, rfl, rfl, rfl, trivial⟩, S⟩
)
 have hpn : (prt.getD g noP).2.2.length ≠ 0 := fun e => by rw [e] at q2; exact absurd q2 (by decide)
 obtain ⟨ho5, ho4⟩ := ho g rfl hg8 hpn
 (
 repeat refine w_ oSy_ rfl fr fun a fr => ?_
 refine wl_ixe oSy_ hA fr rfl rfl rfl rfl rfl rfl rfl rfl ⟨by omega, by omega⟩ fun a fr => ?_
 repeat refine w_ oSy_ rfl fr fun a fr => ?_
 refine wl_ldf oSy_ (v := .int .u8 sy) ⟨(show World.cell? _ ((ad.add (i * 6)).add 0) = some (.int .u8 sy) by rw [add_add]; exact hc S 0 _ rfl), hsy⟩ fr rfl rfl rfl rfl rfl rfl rfl fun a fr => ?_
 repeat refine w_ oSy_ rfl fr fun a fr => ?_
)
 refine bs 45 fr rfl (fun q3 fr => ?_) (fun q3 fr => ?_)
 ·(
 repeat refine w_ oSy_ rfl fr fun a fr => ?_
 refine wl_ixe oSy_ hA fr rfl rfl rfl rfl rfl rfl rfl rfl ⟨by omega, by omega⟩ fun a fr => ?_
 repeat refine w_ oSy_ rfl fr fun a fr => ?_
 refine wl_ldf oSy_ (v := .int .u8 sy) ⟨(show World.cell? _ ((ad.add (i * 6)).add 0) = some (.int .u8 sy) by rw [add_add]; exact hc S 0 _ rfl), hsy⟩ fr rfl rfl rfl rfl rfl rfl rfl fun a fr => ?_
 repeat refine w_ oSy_ rfl fr fun a fr => ?_
)
  refine bs 53 fr rfl (fun q4 fr => ?_) (fun q4 fr => ?_)
  ·first | refine e_ ?_ | refine wpList_nil ?_
   (
 refine q_ rfl ?_
 refine cw_t fr rfl ?_
 refine wp_exit ?_
 skip; (repeat (first | (with_reducible refine then_e ?_) | (with_reducible refine ng_e ?_) | (with_reducible refine blk_e (by decide) ?_))); (with_reducible refine blk_y ?_); (repeat (with_reducible refine then_n ?_))
 exact ⟨rfl, says, hI, fr.sub ⟨rfl, rfl, rfl, rfl, trivial⟩, S⟩
)
  ·have e4 : sy = 4 := by simpa using q4
   have hNg : N g = n := by rw [ho4 e4, hn, if_neg (by omega)]
   first | refine e_ ?_ | refine wpList_nil ?_
   (
 refine q_ rfl ?_
 refine cw_f fr rfl ?_
 refine wp_skip ?_
 with_reducible refine then_n ?_
 have hgs : g < says.length := by rw [hI.len]; exact hg8
 refine r_ rfl ?_
 repeat refine w_ oSy_ rfl fr fun a fr => ?_
 refine wl_ixa oSy_ fr rfl rfl rfl rfl rfl rfl rfl rfl ⟨by omega, by omega⟩ fun a fr => ?_
 refine wl_ldf oSy_ (v := .int .i64 (says.getD g 0)) (i_okS S 0 rfl hgs) fr rfl rfl rfl rfl rfl rfl rfl fun a fr => ?_
 repeat refine w_ oSy_ rfl fr fun a fr => ?_
 refine bs 60 fr rfl (fun q6 fr => ?_) (fun q6 fr => ?_)
 ·repeat refine w_ oSy_ rfl fr fun a fr => ?_
  refine wl_ixa oSy_ fr rfl rfl rfl rfl rfl rfl rfl rfl ⟨by omega, by omega⟩ fun a fr => ?_
  refine wl_ldf oSy_ (v := .int .i64 (says.getD g 0)) (i_okS S 0 rfl hgs) fr rfl rfl rfl rfl rfl rfl rfl fun a fr => ?_
  repeat refine w_ oSy_ rfl fr fun a fr => ?_
  have fr := fr.bool (d := 68) rfl (show (says.getD g 0 != n) = false by
   have h9 := hI.is g hg8 (by simpa using q6)
   rw [h9, hNg]; simp)
  first | refine e_ ?_ | refine wpList_nil ?_
  (
 refine q_ rfl ?_
 refine cw_f fr rfl ?_
 refine wp_skip ?_
 refine r_ rfl ?_
 repeat refine w_ oSy_ rfl fr fun a fr => ?_
 refine wl_ixa oSy_ fr rfl rfl rfl rfl rfl rfl rfl rfl ⟨by omega, by omega⟩ fun a fr => ?_
 repeat refine w_ oSy_ rfl fr fun a fr => ?_
 refine wl_stfA oSy_ g fr rfl rfl rfl rfl (by show (⟨bsy, 0, none⟩ : Addr).add (g * 1) = _; rw [Nat.mul_one]) rfl rfl rfl rfl S (by rw [List.length_map]; exact hgs) ?_
 intro w9 S
 rw [← List.map_set] at S
 have S : Sat w0 w9 (iA bsy (says.set g n) :: ptA bp prt :: R) := S
 first | refine e_ ?_ | refine wpList_nil ?_
 exact ⟨rfl, says.set g n, hI.set hg8 hNg.symm hn2, fr.sub ⟨rfl, rfl, rfl, rfl, trivial⟩, S⟩
)
 ·repeat refine w_ oSy_ rfl fr fun a fr => ?_
  first | refine e_ ?_ | refine wpList_nil ?_
  (
 refine q_ rfl ?_
 refine cw_f fr rfl ?_
 refine wp_skip ?_
 refine r_ rfl ?_
 repeat refine w_ oSy_ rfl fr fun a fr => ?_
 refine wl_ixa oSy_ fr rfl rfl rfl rfl rfl rfl rfl rfl ⟨by omega, by omega⟩ fun a fr => ?_
 repeat refine w_ oSy_ rfl fr fun a fr => ?_
 refine wl_stfA oSy_ g fr rfl rfl rfl rfl (by show (⟨bsy, 0, none⟩ : Addr).add (g * 1) = _; rw [Nat.mul_one]) rfl rfl rfl rfl S (by rw [List.length_map]; exact hgs) ?_
 intro w9 S
 rw [← List.map_set] at S
 have S : Sat w0 w9 (iA bsy (says.set g n) :: ptA bp prt :: R) := S
 first | refine e_ ?_ | refine wpList_nil ?_
 exact ⟨rfl, says.set g n, hI.set hg8 hNg.symm hn2, fr.sub ⟨rfl, rfl, rfl, rfl, trivial⟩, S⟩
)
)
 ·have e5 : sy = 5 := by simpa using q3
  have hNg : N g = n := by rw [ho5 e5, hn, if_pos e5]
  repeat refine w_ oSy_ rfl fr fun a fr => ?_
  first | refine e_ ?_ | refine wpList_nil ?_
  (
 refine q_ rfl ?_
 refine cw_f fr rfl ?_
 refine wp_skip ?_
 with_reducible refine then_n ?_
 have hgs : g < says.length := by rw [hI.len]; exact hg8
 refine r_ rfl ?_
 repeat refine w_ oSy_ rfl fr fun a fr => ?_
 refine wl_ixa oSy_ fr rfl rfl rfl rfl rfl rfl rfl rfl ⟨by omega, by omega⟩ fun a fr => ?_
 refine wl_ldf oSy_ (v := .int .i64 (says.getD g 0)) (i_okS S 0 rfl hgs) fr rfl rfl rfl rfl rfl rfl rfl fun a fr => ?_
 repeat refine w_ oSy_ rfl fr fun a fr => ?_
 refine bs 60 fr rfl (fun q6 fr => ?_) (fun q6 fr => ?_)
 ·repeat refine w_ oSy_ rfl fr fun a fr => ?_
  refine wl_ixa oSy_ fr rfl rfl rfl rfl rfl rfl rfl rfl ⟨by omega, by omega⟩ fun a fr => ?_
  refine wl_ldf oSy_ (v := .int .i64 (says.getD g 0)) (i_okS S 0 rfl hgs) fr rfl rfl rfl rfl rfl rfl rfl fun a fr => ?_
  repeat refine w_ oSy_ rfl fr fun a fr => ?_
  have fr := fr.bool (d := 68) rfl (show (says.getD g 0 != n) = false by
   have h9 := hI.is g hg8 (by simpa using q6)
   rw [h9, hNg]; simp)
  first | refine e_ ?_ | refine wpList_nil ?_
  (
 refine q_ rfl ?_
 refine cw_f fr rfl ?_
 refine wp_skip ?_
 refine r_ rfl ?_
 repeat refine w_ oSy_ rfl fr fun a fr => ?_
 refine wl_ixa oSy_ fr rfl rfl rfl rfl rfl rfl rfl rfl ⟨by omega, by omega⟩ fun a fr => ?_
 repeat refine w_ oSy_ rfl fr fun a fr => ?_
 refine wl_stfA oSy_ g fr rfl rfl rfl rfl (by show (⟨bsy, 0, none⟩ : Addr).add (g * 1) = _; rw [Nat.mul_one]) rfl rfl rfl rfl S (by rw [List.length_map]; exact hgs) ?_
 intro w9 S
 rw [← List.map_set] at S
 have S : Sat w0 w9 (iA bsy (says.set g n) :: ptA bp prt :: R) := S
 first | refine e_ ?_ | refine wpList_nil ?_
 exact ⟨rfl, says.set g n, hI.set hg8 hNg.symm hn2, fr.sub ⟨rfl, rfl, rfl, rfl, trivial⟩, S⟩
)
 ·repeat refine w_ oSy_ rfl fr fun a fr => ?_
  first | refine e_ ?_ | refine wpList_nil ?_
  (
 refine q_ rfl ?_
 refine cw_f fr rfl ?_
 refine wp_skip ?_
 refine r_ rfl ?_
 repeat refine w_ oSy_ rfl fr fun a fr => ?_
 refine wl_ixa oSy_ fr rfl rfl rfl rfl rfl rfl rfl rfl ⟨by omega, by omega⟩ fun a fr => ?_
 repeat refine w_ oSy_ rfl fr fun a fr => ?_
 refine wl_stfA oSy_ g fr rfl rfl rfl rfl (by show (⟨bsy, 0, none⟩ : Addr).add (g * 1) = _; rw [Nat.mul_one]) rfl rfl rfl rfl S (by rw [List.length_map]; exact hgs) ?_
 intro w9 S
 rw [← List.map_set] at S
 have S : Sat w0 w9 (iA bsy (says.set g n) :: ptA bp prt :: R) := S
 first | refine e_ ?_ | refine wpList_nil ?_
 exact ⟨rfl, says.set g n, hI.set hg8 hNg.symm hn2, fr.sub ⟨rfl, rfl, rfl, rfl, trivial⟩, S⟩
)
)
end
theorem stat_range (C : List (Gl RsT)) (g : Int) : stat C g = 0 ∨ stat C g = 1 ∨ stat C g = 2 := by
 unfold stat
 cases findG C g with
 | none => exact .inl rfl
 | some p =>
  show statG p.2 = 0 ∨ statG p.2 = 1 ∨ statG p.2 = 2
  unfold statG
  split
  ·exact .inl rfl
  ·split
   ·exact .inr (.inl rfl)
   ·exact .inr (.inr rfl)
def stN (C : List (Gl RsT)) (g : Nat) : Int := stat C (g : Int)
structure PtW (p : RawPs) : Prop where
 pw : PartsW p.2.2
 m : p.2.2.length ≤ p.2.1 ∧ p.2.1 ≤ maxLen
theorem noP_W : PtW noP := ⟨⟨fun p hp => (by cases hp), fun p hp => (by cases hp), fun p hp => (by cases hp)⟩, Nat.le_refl _, Nat.zero_le _⟩
section
variable {w w0 : World} {R : List Asn} {b bl bm bk bw bd : Nat} {last now x : Int} {m : List (Int × Int)} {gs : Gs} {D : Dk}
theorem stays_call {C : List (Gl RsT)} {bt byy bp : Nat} {told : List Int} {ys : List Bool} {prt : List RawPs} (hC : (gs.map fun p => gl0 p.2) = C) (hI : ∀ p ∈ gs, GlI p.2) (hT : SaysI (stN C) told) (hly : ys.length = 32) (hlp : prt.length = 8)
  (hP : ∀ g, g < 8 → stN C g = 1 → ∀ p ∈ (prt.getD g noP).2.2, p.1 ≤ 3 ∧ ys.getD (g * 4 + p.1.toNat) false = true) (hRd : ∀ w', Sat w0 w' R → ∀ g, g < 8 → RdParts w' (prt.getD g noP).1 (prt.getD g noP).2.2) (hPW : ∀ g, g < 8 → PtW (prt.getD g noP))
  (S : Sat w0 w (chW b bl bm last bk bw now bd gs m x D (iA bt told :: yA byy ys :: ptA bp prt :: R))) :
  Calls Tryz.prog 20 #[.pointer (some ⟨b, 0, none⟩), .pointer (some ⟨bt, 0, none⟩), .pointer (some ⟨byy, 0, none⟩), .pointer (some ⟨bp, 0, none⟩)] w fun e w' => ∃ told', e = .returned (.bool true) ∧ SaysI (stN C) told' ∧ Sat w0 w' (chW b bl bm last bk bw now bd gs m x D (iA bt told' :: yA byy ys :: ptA bp prt :: R)) := by
 refine calls_start (N := 79) [.pointer (some ⟨b, 0, none⟩), .pointer (some ⟨bt, 0, none⟩), .pointer (some ⟨byy, 0, none⟩), .pointer (some ⟨bp, 0, none⟩)] Tryz.func20 rfl rfl rfl rfl fun a fr => ?_
 refine r_ rfl ?_
 repeat refine w_ oSy_ rfl fr fun a fr => ?_
 refine er_ rfl rfl ?_
 repeat refine w_ oSy_ rfl fr fun a fr => ?_
 refine eq_ rfl rfl ?_
 refine wp_block ?_
 refine cw_loop (fun q a w2 => ∃ (g : Nat) (told : List Int), g + q = 9 ∧ 1 ≤ g ∧ g ≤ 8 ∧ SaysI (stN C) told ∧ Fr 79 a [(0, .pointer (some ⟨b, 0, none⟩)), (1, .pointer (some ⟨bt, 0, none⟩)), (2, .pointer (some ⟨byy, 0, none⟩)), (3, .pointer (some ⟨bp, 0, none⟩)), (9, .int .u32 (g : Int))] ∧ Sat w0 w2 (chW b bl bm last bk bw now bd gs m x D (iA bt told :: yA byy ys :: ptA bp prt :: R))) 8
  ⟨1, told, by omega, by omega, by omega, hT, fr.sub ⟨rfl, rfl, rfl, rfl, rfl, trivial⟩, S⟩ ?_ ?_
 ·rintro a w2 ⟨g, told, h, h', h'', -⟩
  omega
 clear fr S hT
 rintro q a w2 ⟨g, told, hq, hg1, hg8', hT, fr, S⟩
 refine r_ rfl ?_
 repeat refine w_ oSy_ rfl fr fun a fr => ?_
 first | refine e_ ?_ | refine wpList_nil ?_
 by_cases hg8 : g < 8
 rotate_left
 ·have fr := fr.bool (d := 16) rfl (decide_eq_false (show ¬ (g : Int) < 8 by omega))
  refine q_ rfl ?_
  refine cw_f fr rfl ?_
  refine wp_exit ?_
  refine xr_ rfl rfl ?_
  repeat refine w_ oSy_ rfl fr fun a fr => ?_
  first | refine e_ ?_ | refine wpList_nil ?_
  refine wp_ret ?_
  exact ret1 fr rfl rfl ⟨told, rfl, hT, S⟩
 have fr := fr.bool (d := 16) rfl (decide_eq_true (show (g : Int) < 8 by omega))
 refine q_ rfl ?_
 refine cw_t fr rfl ?_
 refine wp_skip ?_
 with_reducible refine then_n ?_
 have hgw : (Lit.int .u32 (g : Int)).wf = true := by
  rw [wf_int]
  have e1 : IntKind.u32.min = 0 := by decide
  have e2 : IntKind.u32.max = 4294967295 := by decide
  omega
 obtain ⟨p, ls, z, h1, h2, h3⟩ := told_stat (gs := C) (g : Int)
 obtain ⟨st, hst⟩ : ∃ st, st = stN C g := ⟨_, rfl⟩
 have h2 : (z == 0) = (st != 0) := by rw [hst]; exact h2
 have h3 : p = (st == 1) := by rw [hst]; exact h3
 have hrg : st = 0 ∨ st = 1 ∨ st = 2 := by rw [hst]; exact stat_range C g
 refine q_ rfl ?_
 refine wp_block ?_
 refine r_ rfl ?_
 repeat refine w_ oSy_ rfl fr fun a fr => ?_
 refine wl_call fr rfl rfl rfl rfl enTold (told_step hC h1 hgw hI S) ?_
 rintro _ w3 ⟨A3, rfl, hv3, S⟩
 refine ⟨_, rfl, hv3, fun a fr => ?_⟩
 repeat refine w_ oSy_ rfl fr fun a fr => ?_
 refine er_ rfl rfl ?_
 repeat refine w_ oSy_ rfl fr fun a fr => ?_
 refine er_ rfl rfl ?_
 repeat refine w_ oSy_ rfl fr fun a fr => ?_
 refine eq_ rfl rfl ?_
 refine cw_any (fun a w4 => Fr 79 a [(0, .pointer (some ⟨b, 0, none⟩)), (1, .pointer (some ⟨bt, 0, none⟩)), (2, .pointer (some ⟨byy, 0, none⟩)), (3, .pointer (some ⟨bp, 0, none⟩)), (9, .int .u32 (g : Int)), (13, .int .i64 st)] ∧ w4 = w3) ?_ ?_
 ·rcases hrg with e | e | e
  ·have fr := fr.bool (d := 27) rfl (show (z == 0) = false by rw [h2, e]; rfl)
   refine q_ rfl ?_
   refine cw_f fr rfl ?_
   refine wp_skip ?_
   rw [e]
   exact ⟨rfl, fr.sub ⟨rfl, rfl, rfl, rfl, rfl, rfl, trivial⟩, rfl⟩
  ·have fr := fr.bool (d := 27) rfl (show (z == 0) = true by rw [h2, e]; rfl)
   refine q_ rfl ?_
   refine cw_t fr rfl ?_
   refine r_ rfl ?_
   repeat refine w_ oSy_ rfl fr fun a fr => ?_
   refine er_ rfl rfl ?_
   repeat refine w_ oSy_ rfl fr fun a fr => ?_
   first | refine e_ ?_ | refine wpList_nil ?_
   have fr := fr.bool (d := 28) rfl (show p = true by rw [h3, e]; rfl)
   refine q_ rfl ?_
   refine cw_t fr rfl ?_
   refine r_ rfl ?_
   repeat refine w_ oSy_ rfl fr fun a fr => ?_
   first | refine e_ ?_ | refine wpList_nil ?_
   rw [e]
   exact ⟨rfl, fr.sub ⟨rfl, rfl, rfl, rfl, rfl, rfl, trivial⟩, rfl⟩
  ·have fr := fr.bool (d := 27) rfl (show (z == 0) = true by rw [h2, e]; rfl)
   refine q_ rfl ?_
   refine cw_t fr rfl ?_
   refine r_ rfl ?_
   repeat refine w_ oSy_ rfl fr fun a fr => ?_
   refine er_ rfl rfl ?_
   repeat refine w_ oSy_ rfl fr fun a fr => ?_
   first | refine e_ ?_ | refine wpList_nil ?_
   have fr := fr.bool (d := 28) rfl (show p = false by rw [h3, e]; rfl)
   refine q_ rfl ?_
   refine cw_f fr rfl ?_
   refine wp_skip ?_
   rw [e]
   exact ⟨rfl, fr.sub ⟨rfl, rfl, rfl, rfl, rfl, rfl, trivial⟩, rfl⟩
 clear fr
 rintro a _ ⟨fr, rfl⟩
 repeat first | with_reducible refine then_n ?_ | with_reducible refine blk_n ?_
 have hgt : g < told.length := by rw [hT.len]; exact hg8
 have hst2 : 0 ≤ st ∧ st ≤ 2 := by omega
 refine r_ rfl ?_
 repeat refine w_ oSy_ rfl fr fun a fr => ?_
 refine wl_ixa oSy_ fr rfl rfl rfl rfl rfl rfl rfl rfl ⟨by omega, by omega⟩ fun a fr => ?_
 refine wl_ldf oSy_ (v := .int .i64 (told.getD g 0)) (i_okS (Sat.past S) 0 rfl hgt) fr rfl rfl rfl rfl rfl rfl rfl fun a fr => ?_
 repeat refine w_ oSy_ rfl fr fun a fr => ?_
 refine bs 35 fr rfl (fun q1 fr => ?_) (fun q1 fr => ?_)
 ·repeat refine w_ oSy_ rfl fr fun a fr => ?_
  refine wl_ixa oSy_ fr rfl rfl rfl rfl rfl rfl rfl rfl ⟨by omega, by omega⟩ fun a fr => ?_
  refine wl_ldf oSy_ (v := .int .i64 (told.getD g 0)) (i_okS (Sat.past S) 0 rfl hgt) fr rfl rfl rfl rfl rfl rfl rfl fun a fr => ?_
  repeat refine w_ oSy_ rfl fr fun a fr => ?_
  have fr := fr.bool (d := 43) rfl (show (told.getD g 0 != st) = false by
   have h9 := hT.is g hg8 (by simpa using q1)
   rw [h9, hst]; simp)
  first | refine e_ ?_ | refine wpList_nil ?_
  (
 refine q_ rfl ?_
 refine cw_f fr rfl ?_
 refine wp_skip ?_
 with_reducible refine then_n ?_
 have S := S.before
 refine r_ rfl ?_
 repeat refine w_ oSy_ rfl fr fun a fr => ?_
 refine wl_ixa oSy_ fr rfl rfl rfl rfl rfl rfl rfl rfl ⟨by omega, by omega⟩ fun a fr => ?_
 repeat refine w_ oSy_ rfl fr fun a fr => ?_
 refine wl_stfA oSy_ g fr rfl rfl rfl rfl (by show (⟨bt, 0, none⟩ : Addr).add (g * 1) = _; rw [Nat.mul_one]) rfl rfl rfl rfl S (by rw [List.length_map]; exact hgt) ?_
 intro w9 S
 rw [← List.map_set] at S
 have S : Sat w0 w9 (iA bt (told.set g st) :: chW b bl bm last bk bw now bd gs m x D (yA byy ys :: ptA bp prt :: R)) := S
 have S := S.behind
 first | refine e_ ?_ | refine wpList_nil ?_
 have hT := hT.set hg8 hst hst2
 have fr := fr.sub (L' := [(0, .pointer (some ⟨b, 0, none⟩)), (1, .pointer (some ⟨bt, 0, none⟩)), (2, .pointer (some ⟨byy, 0, none⟩)), (3, .pointer (some ⟨bp, 0, none⟩)), (9, .int .u32 (g : Int)), (13, .int .i64 st)]) ⟨rfl, rfl, rfl, rfl, rfl, rfl, trivial⟩
 (
 have hPg := hP g hg8
 have hPWg := hPW g hg8
 have hRdg : ∀ {w'}, Sat w0 w' (iA bt (told.set g st) :: yA byy ys :: ptA bp prt :: R) → RdParts w' (prt.getD g noP).1 (prt.getD g noP).2.2 := fun S' => hRd _ S'.tl.tl.tl g hg8
 have hpt : ∀ {w'}, Sat w0 w' (iA bt (told.set g st) :: yA byy ys :: ptA bp prt :: R) → w'.cell? ((⟨bp, 0, none⟩ : Addr).add (g * 1)) = some (ptV (prt.getD g noP)) ∧ vok (ptV (prt.getD g noP)) = true := fun S' => pt_okS S' 2 rfl (by omega)
 rw [← hst] at hPg
 generalize prt.getD g noP = pp at hPg hPWg hRdg hpt
 obtain ⟨Ap, cp, ps⟩ := pp
 have hps := hPWg.m
 have hps : ps.length ≤ cp ∧ cp ≤ maxLen := hps
 have hmx := hps.2
 unfold maxLen at hmx
 have hpt : ∀ {w'}, Sat w0 w' (iA bt (told.set g st) :: yA byy ys :: ptA bp prt :: R) → w'.cell? ((⟨bp, 0, none⟩ : Addr).add (g * 1)) = some (.slice Ap ps.length cp) ∧ vok (.slice Ap ps.length cp) = true := hpt
 refine r_ rfl ?_
 repeat refine w_ oSy_ rfl fr fun a fr => ?_
 refine eq_ rfl rfl ?_
 refine wp_block ?_
 refine cw_loop (fun q a w2 => ∃ (k : Nat), k + q = ps.length + 1 ∧ k ≤ ps.length ∧ Fr 79 a [(0, .pointer (some ⟨b, 0, none⟩)), (1, .pointer (some ⟨bt, 0, none⟩)), (2, .pointer (some ⟨byy, 0, none⟩)), (3, .pointer (some ⟨bp, 0, none⟩)), (9, .int .u32 (g : Int)), (13, .int .i64 st), (14, .int .i64 (k : Int))] ∧ Sat w0 w2 (chW b bl bm last bk bw now bd gs m x D (iA bt (told.set g st) :: yA byy ys :: ptA bp prt :: R))) (ps.length + 1)
  ⟨0, by omega, by omega, fr.sub ⟨rfl, rfl, rfl, rfl, rfl, rfl, rfl, trivial⟩, S⟩ ?_ ?_
 ·rintro a w2 ⟨k, h, h', -⟩
  omega
 clear fr S
 rintro q2 a w5 ⟨k, hk, hk', fr, S⟩
 refine r_ rfl ?_
 repeat refine w_ oSy_ rfl fr fun a fr => ?_
 refine wl_ixa oSy_ fr rfl rfl rfl rfl rfl rfl rfl rfl ⟨by omega, by omega⟩ fun a fr => ?_
 refine wl_ldf oSy_ (v := .slice Ap ps.length cp) (hpt (Sat.past S)) fr rfl rfl rfl rfl rfl rfl rfl fun a fr => ?_
 repeat refine w_ oSy_ rfl fr fun a fr => ?_
 refine bs 57 fr rfl (fun q3 fr => ?_) (fun q3 fr => ?_)
 rotate_left
 ·repeat refine w_ oSy_ rfl fr fun a fr => ?_
  first | refine e_ ?_ | refine wpList_nil ?_
  (
 refine q_ rfl ?_
 refine cw_f fr rfl ?_
 refine wp_exit ?_
 skip; (repeat (first | (with_reducible refine then_e ?_) | (with_reducible refine ng_e ?_) | (with_reducible refine blk_e (by decide) ?_))); (with_reducible refine blk_y ?_); (repeat (with_reducible refine then_n ?_))
 refine r_ rfl ?_
 repeat refine w_ oSy_ rfl fr fun a fr => ?_
 first | refine e_ ?_ | refine wpList_nil ?_
 have fr := fr.spell (d := 9) rfl (show Value.int .u32 (IntKind.wrap .u32 ((g : Int) + 1)) = .int .u32 ((g + 1 : Nat) : Int) by rw [wrap_u32 (by omega)]; rfl)
 exact ⟨g + 1, told.set g st, by omega, by omega, by omega, hT, fr.sub ⟨rfl, rfl, rfl, rfl, rfl, trivial⟩, S⟩
)
 have hkl : k < ps.length := by have := of_decide_eq_true q3; omega
 repeat refine w_ oSy_ rfl fr fun a fr => ?_
 first | refine e_ ?_ | refine wpList_nil ?_
 refine bs 60 fr rfl (fun q4 fr => ?_) (fun q4 fr => ?_)
 rotate_left
 ·(
 refine q_ rfl ?_
 refine cw_f fr rfl ?_
 refine wp_exit ?_
 skip; (repeat (first | (with_reducible refine then_e ?_) | (with_reducible refine ng_e ?_) | (with_reducible refine blk_e (by decide) ?_))); (with_reducible refine blk_y ?_); (repeat (with_reducible refine then_n ?_))
 refine r_ rfl ?_
 repeat refine w_ oSy_ rfl fr fun a fr => ?_
 first | refine e_ ?_ | refine wpList_nil ?_
 have fr := fr.spell (d := 9) rfl (show Value.int .u32 (IntKind.wrap .u32 ((g : Int) + 1)) = .int .u32 ((g + 1 : Nat) : Int) by rw [wrap_u32 (by omega)]; rfl)
 exact ⟨g + 1, told.set g st, by omega, by omega, by omega, hT, fr.sub ⟨rfl, rfl, rfl, rfl, rfl, trivial⟩, S⟩
)
 have hst1 : st = 1 := by simpa using q4
 obtain ⟨hp3, hpy⟩ := hPg hst1 _ (List.getElem_mem hkl)
 have hsw := hPWg.pw.k _ (List.getElem_mem hkl)
 obtain ⟨ad, hA⟩ := (hRdg (Sat.past S)).some hkl
 have hcell : ∀ {w'}, Sat w0 w' (iA bt (told.set g st) :: yA byy ys :: ptA bp prt :: R) → ∀ j u, (pcV ps[k])[j]? = some u → w'.cell? (ad.add (k * 2 + j)) = some u := fun S' => (hRdg S').cell k hkl ad hA
 obtain ⟨s, hs⟩ : ∃ s, s = ps[k].1 := ⟨_, rfl⟩
 rw [← hs] at hp3 hpy hsw
 have hs0 : 0 ≤ s := by
  rw [wf_int] at hsw
  have e1 : IntKind.u8.min = 0 := by decide
  omega
 obtain ⟨y, rfl⟩ : ∃ y : Nat, s = y := ⟨s.toNat, by omega⟩
 rw [Int.toNat_natCast] at hpy
 have hy3 : y ≤ 3 := by omega
 refine q_ rfl ?_
 refine cw_t fr rfl ?_
 refine wp_skip ?_
 refine q_ rfl ?_
 refine wp_block ?_
 refine q_ rfl ?_
 refine wp_region_sl [u_ 0 63, u_ 1 64, u_ 2 65, u_ 3 66, u_ 4 67, u_ 5 68, u_ 6 69, u_ 7 70, u_ 8 71, u_ 9 72, u_ 10 73, u_ 11 74, u_ 12 75, u_ 13 76, u_ 14 77, u_ 15 78]
        [m_ 63 2 69,
        m_ 64 9 31,
        m_ 65 3 67,
        m_ 66 9 31,
        c_ 67 65,
        i_ 68 57 67 66,
        l_ 69 22 68,
        m_ 70 14 3,
        i_ 71 22 69 70,
        f_ 72 39 71 0,
        l_ 73 5 72,
        c_ 74 63,
        i_ 75 56 74 64,
        i_ 76 55 75 73,
        l_ 77 4 76,
        .one ⟨true, some 78, (.unOp .not 4 (.tmp 77)), 4, none⟩]
        (fun v => Sat w0 v (iA bt (told.set g st) :: yA byy ys :: ptA bp prt :: R)) rfl (by kernel_rfl) (by kernel_rfl) ?_ ?_
 ·exact Sat.past S.drew
 have S := S.drew
 have hS : Sat w0 _ (iA bt (told.set g st) :: yA byy ys :: ptA bp prt :: R) := Sat.past S
 repeat refine sl_run oSy_ 1 rfl fr fun a fr => ?_
 refine sl_ixa oSy_ fr rfl rfl rfl rfl rfl rfl rfl rfl rfl ⟨by omega, by omega⟩ fun a fr => ?_
 refine sl_ldf oSy_ (v := .slice Ap ps.length cp) (fun w' S' => hpt S') fr rfl rfl rfl rfl rfl rfl rfl rfl hS fun a fr => ?_
 repeat refine sl_run oSy_ 1 rfl fr fun a fr => ?_
 refine sl_ixe oSy_ hA fr rfl rfl rfl rfl rfl rfl rfl rfl rfl ⟨by omega, by omega⟩ fun a fr => ?_
 repeat refine sl_run oSy_ 1 rfl fr fun a fr => ?_
 refine sl_ldf oSy_ (v := .int .u8 (y : Int)) (fun w' S' => ⟨(show w'.cell? ((ad.add (k * 2)).add 0) = some (.int .u8 (y : Int)) by rw [add_add]; exact hcell S' 0 _ (by rw [hs]; rfl)), hsw⟩) fr rfl rfl rfl rfl rfl rfl rfl rfl hS fun a fr => ?_
 repeat refine sl_run oSy_ 1 rfl fr fun a fr => ?_
 refine sl_ixa oSy_ fr rfl rfl rfl rfl rfl rfl rfl rfl rfl ⟨by omega, by omega⟩ fun a fr => ?_
 repeat refine sl_run oSy_ 1 rfl fr fun a fr => ?_
 refine sl_ixa oSy_ fr rfl rfl rfl rfl rfl rfl rfl rfl rfl ⟨by omega, by omega⟩ fun a fr => ?_
 refine sl_ldf oSy_ (v := .bool (ys.getD (g * 4 + y) false)) (fun w' S' => ⟨(show w'.cell? (((⟨byy, 0, none⟩ : Addr).add (g * 4)).add (y * 1)) = some (.bool (ys.getD (g * 4 + y) false)) by
  rw [add_add, Nat.mul_one]
  exact (Sat.stAt S' 1 rfl (map_getD Value.bool (by omega) false)).1), rfl⟩) fr rfl rfl rfl rfl rfl rfl rfl rfl hS fun a fr => ?_
 have fr := fr.bool (d := 77) rfl hpy
 repeat refine sl_run oSy_ 1 rfl fr fun a fr => ?_
 refine sl_end ?_
 refine q_ rfl ?_
 refine cw_f fr rfl ?_
 refine wp_skip ?_
 refine r_ rfl ?_
 repeat refine w_ oSy_ rfl fr fun a fr => ?_
 first | refine e_ ?_ | refine wpList_nil ?_
 have fr := fr.spell (d := 14) rfl (congrArg (Value.int .i64) (i64_next hkl (by omega)))
 exact ⟨k + 1, by omega, by omega, fr.sub ⟨rfl, rfl, rfl, rfl, rfl, rfl, rfl, trivial⟩, S⟩
)
)
 ·repeat refine w_ oSy_ rfl fr fun a fr => ?_
  first | refine e_ ?_ | refine wpList_nil ?_
  (
 refine q_ rfl ?_
 refine cw_f fr rfl ?_
 refine wp_skip ?_
 with_reducible refine then_n ?_
 have S := S.before
 refine r_ rfl ?_
 repeat refine w_ oSy_ rfl fr fun a fr => ?_
 refine wl_ixa oSy_ fr rfl rfl rfl rfl rfl rfl rfl rfl ⟨by omega, by omega⟩ fun a fr => ?_
 repeat refine w_ oSy_ rfl fr fun a fr => ?_
 refine wl_stfA oSy_ g fr rfl rfl rfl rfl (by show (⟨bt, 0, none⟩ : Addr).add (g * 1) = _; rw [Nat.mul_one]) rfl rfl rfl rfl S (by rw [List.length_map]; exact hgt) ?_
 intro w9 S
 rw [← List.map_set] at S
 have S : Sat w0 w9 (iA bt (told.set g st) :: chW b bl bm last bk bw now bd gs m x D (yA byy ys :: ptA bp prt :: R)) := S
 have S := S.behind
 first | refine e_ ?_ | refine wpList_nil ?_
 have hT := hT.set hg8 hst hst2
 have fr := fr.sub (L' := [(0, .pointer (some ⟨b, 0, none⟩)), (1, .pointer (some ⟨bt, 0, none⟩)), (2, .pointer (some ⟨byy, 0, none⟩)), (3, .pointer (some ⟨bp, 0, none⟩)), (9, .int .u32 (g : Int)), (13, .int .i64 st)]) ⟨rfl, rfl, rfl, rfl, rfl, rfl, trivial⟩
 (
 have hPg := hP g hg8
 have hPWg := hPW g hg8
 have hRdg : ∀ {w'}, Sat w0 w' (iA bt (told.set g st) :: yA byy ys :: ptA bp prt :: R) → RdParts w' (prt.getD g noP).1 (prt.getD g noP).2.2 := fun S' => hRd _ S'.tl.tl.tl g hg8
 have hpt : ∀ {w'}, Sat w0 w' (iA bt (told.set g st) :: yA byy ys :: ptA bp prt :: R) → w'.cell? ((⟨bp, 0, none⟩ : Addr).add (g * 1)) = some (ptV (prt.getD g noP)) ∧ vok (ptV (prt.getD g noP)) = true := fun S' => pt_okS S' 2 rfl (by omega)
 rw [← hst] at hPg
 generalize prt.getD g noP = pp at hPg hPWg hRdg hpt
 obtain ⟨Ap, cp, ps⟩ := pp
 have hps := hPWg.m
 have hps : ps.length ≤ cp ∧ cp ≤ maxLen := hps
 have hmx := hps.2
 unfold maxLen at hmx
 have hpt : ∀ {w'}, Sat w0 w' (iA bt (told.set g st) :: yA byy ys :: ptA bp prt :: R) → w'.cell? ((⟨bp, 0, none⟩ : Addr).add (g * 1)) = some (.slice Ap ps.length cp) ∧ vok (.slice Ap ps.length cp) = true := hpt
 refine r_ rfl ?_
 repeat refine w_ oSy_ rfl fr fun a fr => ?_
 refine eq_ rfl rfl ?_
 refine wp_block ?_
 refine cw_loop (fun q a w2 => ∃ (k : Nat), k + q = ps.length + 1 ∧ k ≤ ps.length ∧ Fr 79 a [(0, .pointer (some ⟨b, 0, none⟩)), (1, .pointer (some ⟨bt, 0, none⟩)), (2, .pointer (some ⟨byy, 0, none⟩)), (3, .pointer (some ⟨bp, 0, none⟩)), (9, .int .u32 (g : Int)), (13, .int .i64 st), (14, .int .i64 (k : Int))] ∧ Sat w0 w2 (chW b bl bm last bk bw now bd gs m x D (iA bt (told.set g st) :: yA byy ys :: ptA bp prt :: R))) (ps.length + 1)
  ⟨0, by omega, by omega, fr.sub ⟨rfl, rfl, rfl, rfl, rfl, rfl, rfl, trivial⟩, S⟩ ?_ ?_
 ·rintro a w2 ⟨k, h, h', -⟩
  omega
 clear fr S
 rintro q2 a w5 ⟨k, hk, hk', fr, S⟩
 refine r_ rfl ?_
 repeat refine w_ oSy_ rfl fr fun a fr => ?_
 refine wl_ixa oSy_ fr rfl rfl rfl rfl rfl rfl rfl rfl ⟨by omega, by omega⟩ fun a fr => ?_
 refine wl_ldf oSy_ (v := .slice Ap ps.length cp) (hpt (Sat.past S)) fr rfl rfl rfl rfl rfl rfl rfl fun a fr => ?_
 repeat refine w_ oSy_ rfl fr fun a fr => ?_
 refine bs 57 fr rfl (fun q3 fr => ?_) (fun q3 fr => ?_)
 rotate_left
 ·repeat refine w_ oSy_ rfl fr fun a fr => ?_
  first | refine e_ ?_ | refine wpList_nil ?_
  (
 refine q_ rfl ?_
 refine cw_f fr rfl ?_
 refine wp_exit ?_
 skip; (repeat (first | (with_reducible refine then_e ?_) | (with_reducible refine ng_e ?_) | (with_reducible refine blk_e (by decide) ?_))); (with_reducible refine blk_y ?_); (repeat (with_reducible refine then_n ?_))
 refine r_ rfl ?_
 repeat refine w_ oSy_ rfl fr fun a fr => ?_
 first | refine e_ ?_ | refine wpList_nil ?_
 have fr := fr.spell (d := 9) rfl (show Value.int .u32 (IntKind.wrap .u32 ((g : Int) + 1)) = .int .u32 ((g + 1 : Nat) : Int) by rw [wrap_u32 (by omega)]; rfl)
 exact ⟨g + 1, told.set g st, by omega, by omega, by omega, hT, fr.sub ⟨rfl, rfl, rfl, rfl, rfl, trivial⟩, S⟩
)
 have hkl : k < ps.length := by have := of_decide_eq_true q3; omega
 repeat refine w_ oSy_ rfl fr fun a fr => ?_
 first | refine e_ ?_ | refine wpList_nil ?_
 refine bs 60 fr rfl (fun q4 fr => ?_) (fun q4 fr => ?_)
 rotate_left
 ·(
 refine q_ rfl ?_
 refine cw_f fr rfl ?_
 refine wp_exit ?_
 skip; (repeat (first | (with_reducible refine then_e ?_) | (with_reducible refine ng_e ?_) | (with_reducible refine blk_e (by decide) ?_))); (with_reducible refine blk_y ?_); (repeat (with_reducible refine then_n ?_))
 refine r_ rfl ?_
 repeat refine w_ oSy_ rfl fr fun a fr => ?_
 first | refine e_ ?_ | refine wpList_nil ?_
 have fr := fr.spell (d := 9) rfl (show Value.int .u32 (IntKind.wrap .u32 ((g : Int) + 1)) = .int .u32 ((g + 1 : Nat) : Int) by rw [wrap_u32 (by omega)]; rfl)
 exact ⟨g + 1, told.set g st, by omega, by omega, by omega, hT, fr.sub ⟨rfl, rfl, rfl, rfl, rfl, trivial⟩, S⟩
)
 have hst1 : st = 1 := by simpa using q4
 obtain ⟨hp3, hpy⟩ := hPg hst1 _ (List.getElem_mem hkl)
 have hsw := hPWg.pw.k _ (List.getElem_mem hkl)
 obtain ⟨ad, hA⟩ := (hRdg (Sat.past S)).some hkl
 have hcell : ∀ {w'}, Sat w0 w' (iA bt (told.set g st) :: yA byy ys :: ptA bp prt :: R) → ∀ j u, (pcV ps[k])[j]? = some u → w'.cell? (ad.add (k * 2 + j)) = some u := fun S' => (hRdg S').cell k hkl ad hA
 obtain ⟨s, hs⟩ : ∃ s, s = ps[k].1 := ⟨_, rfl⟩
 rw [← hs] at hp3 hpy hsw
 have hs0 : 0 ≤ s := by
  rw [wf_int] at hsw
  have e1 : IntKind.u8.min = 0 := by decide
  omega
 obtain ⟨y, rfl⟩ : ∃ y : Nat, s = y := ⟨s.toNat, by omega⟩
 rw [Int.toNat_natCast] at hpy
 have hy3 : y ≤ 3 := by omega
 refine q_ rfl ?_
 refine cw_t fr rfl ?_
 refine wp_skip ?_
 refine q_ rfl ?_
 refine wp_block ?_
 refine q_ rfl ?_
 refine wp_region_sl [u_ 0 63, u_ 1 64, u_ 2 65, u_ 3 66, u_ 4 67, u_ 5 68, u_ 6 69, u_ 7 70, u_ 8 71, u_ 9 72, u_ 10 73, u_ 11 74, u_ 12 75, u_ 13 76, u_ 14 77, u_ 15 78]
        [m_ 63 2 69,
        m_ 64 9 31,
        m_ 65 3 67,
        m_ 66 9 31,
        c_ 67 65,
        i_ 68 57 67 66,
        l_ 69 22 68,
        m_ 70 14 3,
        i_ 71 22 69 70,
        f_ 72 39 71 0,
        l_ 73 5 72,
        c_ 74 63,
        i_ 75 56 74 64,
        i_ 76 55 75 73,
        l_ 77 4 76,
        .one ⟨true, some 78, (.unOp .not 4 (.tmp 77)), 4, none⟩]
        (fun v => Sat w0 v (iA bt (told.set g st) :: yA byy ys :: ptA bp prt :: R)) rfl (by kernel_rfl) (by kernel_rfl) ?_ ?_
 ·exact Sat.past S.drew
 have S := S.drew
 have hS : Sat w0 _ (iA bt (told.set g st) :: yA byy ys :: ptA bp prt :: R) := Sat.past S
 repeat refine sl_run oSy_ 1 rfl fr fun a fr => ?_
 refine sl_ixa oSy_ fr rfl rfl rfl rfl rfl rfl rfl rfl rfl ⟨by omega, by omega⟩ fun a fr => ?_
 refine sl_ldf oSy_ (v := .slice Ap ps.length cp) (fun w' S' => hpt S') fr rfl rfl rfl rfl rfl rfl rfl rfl hS fun a fr => ?_
 repeat refine sl_run oSy_ 1 rfl fr fun a fr => ?_
 refine sl_ixe oSy_ hA fr rfl rfl rfl rfl rfl rfl rfl rfl rfl ⟨by omega, by omega⟩ fun a fr => ?_
 repeat refine sl_run oSy_ 1 rfl fr fun a fr => ?_
 refine sl_ldf oSy_ (v := .int .u8 (y : Int)) (fun w' S' => ⟨(show w'.cell? ((ad.add (k * 2)).add 0) = some (.int .u8 (y : Int)) by rw [add_add]; exact hcell S' 0 _ (by rw [hs]; rfl)), hsw⟩) fr rfl rfl rfl rfl rfl rfl rfl rfl hS fun a fr => ?_
 repeat refine sl_run oSy_ 1 rfl fr fun a fr => ?_
 refine sl_ixa oSy_ fr rfl rfl rfl rfl rfl rfl rfl rfl rfl ⟨by omega, by omega⟩ fun a fr => ?_
 repeat refine sl_run oSy_ 1 rfl fr fun a fr => ?_
 refine sl_ixa oSy_ fr rfl rfl rfl rfl rfl rfl rfl rfl rfl ⟨by omega, by omega⟩ fun a fr => ?_
 refine sl_ldf oSy_ (v := .bool (ys.getD (g * 4 + y) false)) (fun w' S' => ⟨(show w'.cell? (((⟨byy, 0, none⟩ : Addr).add (g * 4)).add (y * 1)) = some (.bool (ys.getD (g * 4 + y) false)) by
  rw [add_add, Nat.mul_one]
  exact (Sat.stAt S' 1 rfl (map_getD Value.bool (by omega) false)).1), rfl⟩) fr rfl rfl rfl rfl rfl rfl rfl rfl hS fun a fr => ?_
 have fr := fr.bool (d := 77) rfl hpy
 repeat refine sl_run oSy_ 1 rfl fr fun a fr => ?_
 refine sl_end ?_
 refine q_ rfl ?_
 refine cw_f fr rfl ?_
 refine wp_skip ?_
 refine r_ rfl ?_
 repeat refine w_ oSy_ rfl fr fun a fr => ?_
 first | refine e_ ?_ | refine wpList_nil ?_
 have fr := fr.spell (d := 14) rfl (congrArg (Value.int .i64) (i64_next hkl (by omega)))
 exact ⟨k + 1, by omega, by omega, fr.sub ⟨rfl, rfl, rfl, rfl, rfl, rfl, rfl, trivial⟩, S⟩
)
)
end
theorem delM_len {α : Type} (n : Int) : ∀ l : List (Int × α), (delM l n).length ≤ l.length := by
 intro l
 induction l with
 | nil => exact Nat.le_refl _
 | cons p r ih =>
  unfold delM
  split
  ·exact Nat.le_succ_of_le (Nat.le_refl _)
  ·exact Nat.succ_le_succ ih
theorem upM_len {α : Type} (n : Int) (v : α) : ∀ l : List (Int × α), (upM l n v).length ≤ l.length + 1 := by
 intro l
 induction l with
 | nil => exact Nat.le_refl _
 | cons p r ih =>
  unfold upM
  split
  ·exact Nat.le_succ_of_le (Nat.le_refl _)
  ·exact Nat.succ_le_succ ih
theorem cameS_m (C : Ss RsT) (s f t g : Int) (l : RsT) : (cameS C s f t g l).m.length ≤ C.m.length := by
 unfold cameS
 split
 ·exact Nat.le_refl _
 ·split
  ·exact Nat.le_refl _
  ·split
   ·exact Nat.le_refl _
   ·unfold cameG
    split
    ·exact Nat.le_refl _
    ·split
     ·show (doingC _ _ _ _).m.length ≤ _
      unfold doingC
      split
      ·exact delM_len _ _
      ·split
       ·exact Nat.le_refl _
       ·split
        ·exact Nat.le_refl _
        ·exact delM_len _ _
     ·split
      ·exact Nat.le_refl _
      ·split
       ·exact Nat.le_refl _
       ·exact Nat.le_refl _
theorem tickAll_m (C : Ss RsT) (now : Int) : (tickAll C now).1.m.length ≤ C.m.length := by
 have h1 : ∀ (l : List Int) (m : List (Int × Int)), (l.foldl delM m).length ≤ m.length := by
  intro l
  induction l with
  | nil => intro m; exact Nat.le_refl _
  | cons g l ih => intro m; exact Nat.le_trans (ih _) (delM_len _ _)
 have h2 : ∀ (due l : List Int) (q : Ss RsT × List PM), (l.foldl (tickF due) q).1.m.length ≤ q.1.m.length := by
  intro due l
  induction l with
  | nil => intro q; exact Nat.le_refl _
  | cons g l ih =>
   intro q
   refine Nat.le_trans (ih _) ?_
   show (tickG q.1 due g).m.length ≤ _
   unfold tickG
   split
   ·exact Nat.le_refl _
   ·split
    ·exact delM_len _ _
    ·exact Nat.le_refl _
 exact Nat.le_trans (h2 _ _ _) (h1 _ _)
def ptAt (prt : List RawPs) (g : Nat) : List RawP := (prt.getD g noP).2.2
structure SyI (C : List (Gl RsT)) (prt : List RawPs) (ys : List Bool) : Prop where
 known : ∀ g, g < 8 → (ptAt prt g).length ≠ 0 → 1 ≤ g ∧ g ≤ C.length
 doing : ∀ g (h : g < C.length), g + 1 < 8 → C[g].ph = 1 → (ptAt prt (g + 1)).length ≠ 0 → C[g].v.map (·.part) = parts4 ((ptAt prt (g + 1)).map (·.1)) ∧ (ptAt prt (g + 1)).map (·.1) ∈ seven ∧ ∀ f, yesAt C[g] f = true → ys.getD ((g + 1) * 4 + f) false = true
 com : ∀ g, g < 8 → stN C g = 1 → ∀ p ∈ ptAt prt g, p.1 ≤ 3 ∧ ys.getD (g * 4 + p.1.toNat) false = true
theorem stN_at {C : List (Gl RsT)} (hn : Num C) {g : Nat} (h : stN C g ≠ 0) : ∃ j, ∃ hj : j < C.length, g = j + 1 ∧ stN C g = statG C[j] := by
 unfold stN at h ⊢
 rcases hn.cases (g : Int) with ⟨-, h2⟩ | ⟨j, hj, e, -⟩
 ·unfold stat at h; rw [h2] at h; exact absurd rfl h
 ·exact ⟨j, hj, by omega, by rw [e]; exact stat_at hn hj⟩
theorem stN_of {C : List (Gl RsT)} (hn : Num C) {j : Nat} (hj : j < C.length) : stN C (j + 1) = statG C[j] := by
 unfold stN
 exact stat_at hn hj
theorem SyI.step {C C' : List (Gl RsT)} {prt : List RawPs} {ys ys' : List Bool} {v : Nat → Nat → Prop} (h : SyI C prt ys) (ht : Trs v C C') (hn : Num C) (hn' : Num C') (hm : ∀ i, ys.getD i false = true → ys'.getD i false = true) (hv : ∀ i f, v i f → i + 1 < 8 → ys'.getD ((i + 1) * 4 + f) false = true) : SyI C' prt ys' := by
 refine ⟨fun g hg h0 => by rw [ht.len]; exact h.known g hg h0, fun g hg h8 hp h0 => ?_, fun g hg h1 p hp => ?_⟩
 ·have hgC : g < C.length := by rw [← ht.len]; exact hg
  obtain ⟨t1, t2, t3⟩ := (ht.tr g hgC hg).doing hp
  obtain ⟨d1, d2, d3⟩ := h.doing g hgC h8 t1 h0
  refine ⟨t2.trans d1, d2, fun f hf => ?_⟩
  rcases t3 f hf with t3 | t3
  ·exact hm _ (d3 f t3)
  ·exact hv g f t3 h8
 ·obtain ⟨j, hj', rfl, e⟩ := stN_at hn' (show stN C' g ≠ 0 by rw [h1]; decide)
  have hj : j < C.length := by rw [← ht.len]; exact hj'
  rw [h1] at e
  rcases (ht.tr j hj hj').com e.symm with t | ⟨t1, t2⟩
  ·obtain ⟨c1, c2⟩ := h.com (j + 1) hg (by rw [stN_of hn hj]; exact t) p hp
   exact ⟨c1, hm _ c2⟩
  ·have h0 : (ptAt prt (j + 1)).length ≠ 0 := fun e0 => by rw [List.eq_nil_of_length_eq_zero e0] at hp; cases hp
   obtain ⟨d1, d2, d3⟩ := h.doing j hj hg t1 h0
   have hpL : p.1 ∈ (ptAt prt (j + 1)).map (·.1) := List.mem_map.2 ⟨p, hp, rfl⟩
   have hp3 : 1 ≤ p.1 ∧ p.1 ≤ 3 := by
    revert hpL d2
    generalize (ptAt prt (j + 1)).map (·.1) = L
    intro d2 hpL
    simp only [seven, List.mem_cons, List.not_mem_nil, or_false] at d2
    rcases d2 with rfl | rfl | rfl | rfl | rfl | rfl | rfl <;> simp at hpL <;> omega
   have hpart := part_of_ d2 d1 (f := p.1.toNat) (by rw [Int.toNat_of_nonneg (by omega)]; exact hpL)
   refine ⟨hp3.2, ?_⟩
   rcases t2 _ hpart with t | t
   ·exact hm _ (d3 _ t)
   ·exact hv j _ t hg
theorem ptAt_set {prt : List RawPs} (h8 : prt.length = 8) {i : Nat} (hi : i < 8) (p : RawPs) (g : Nat) : ptAt (prt.set i p) g = if i = g then p.2.2 else ptAt prt g := by
 unfold ptAt
 rw [getD_set (by omega)]
 split <;> rfl
theorem SyI.begin_ {C : List (Gl RsT)} {prt : List RawPs} {ys : List Bool} (h : SyI C prt ys) (hn : Num C) (h8 : prt.length = 8) {p : RawPs} (hL : p.2.2.map (·.1) ∈ seven) : SyI (C ++ [gB ((C.length : Int) + 1) (p.2.2.map (·.1))]) (if C.length + 1 < 8 then prt.set (C.length + 1) p else prt) ys := by
 obtain ⟨L, hLe⟩ : ∃ L, L = p.2.2.map (·.1) := ⟨_, rfl⟩
 rw [← hLe] at hL ⊢
 obtain ⟨b1, b2, b3, b4, b5, b6, b7, b8⟩ := gB_is hL ((C.length : Int) + 1)
 have hst : ∀ g, stN (C ++ [gB ((C.length : Int) + 1) L]) g = stN C g := fun g => stat_snoc hn b1 b2 g
 have hpt : ∀ g, g < 8 → g ≠ C.length + 1 → ptAt (if C.length + 1 < 8 then prt.set (C.length + 1) p else prt) g = ptAt prt g := fun g hg hne => by
  split
  ·rename_i hl
   rw [ptAt_set h8 hl, if_neg (fun e => hne e.symm)]
  ·rfl
 refine ⟨fun g hg h0 => ?_, fun g hg hg8 hp h0 => ?_, fun g hg h1 q hq => ?_⟩
 ·rw [List.length_append, List.length_singleton]
  by_cases e : g = C.length + 1
  ·omega
  ·rw [hpt g hg e] at h0
   have := h.known g hg h0
   omega
 ·rw [List.length_append, List.length_singleton] at hg
  by_cases hl : g < C.length
  ·simp only [List.getElem_append_left hl] at hp ⊢
   rw [hpt (g + 1) hg8 (by omega)] at h0 ⊢
   exact h.doing g hl hg8 hp h0
  ·have : g = C.length := by omega
   subst this
   have e : ptAt (if C.length + 1 < 8 then prt.set (C.length + 1) p else prt) (C.length + 1) = p.2.2 := by
    rw [if_pos hg8, ptAt_set h8 hg8, if_pos rfl]
   rw [e, ← hLe]
   simp only [List.getElem_append_right (Nat.le_refl C.length), Nat.sub_self, List.getElem_cons_zero]
   exact ⟨b6, hL, fun f hf => by rw [b8] at hf; cases hf⟩
 ·rw [hst] at h1
  obtain ⟨j, hj, e, -⟩ := stN_at hn (show stN C g ≠ 0 by rw [h1]; decide)
  rw [hpt g hg (by omega)] at hq
  exact h.com g hg h1 q hq
theorem SyI.start (ys : List Bool) : SyI [] (List.replicate 8 noP) ys := by
 have e : ∀ g, ptAt (List.replicate 8 noP) g = [] := fun g => by
  unfold ptAt
  rw [List.getD_eq_getElem?_getD, List.getElem?_replicate]
  split <;> rfl
 refine ⟨fun g _ h0 => ?_, fun g h => absurd h (Nat.not_lt_zero _), fun g _ _ p hp => ?_⟩
 ·rw [e] at h0; exact absurd rfl h0
 ·rw [e] at hp; cases hp
theorem SaysI.step {C C' : List (Gl RsT)} {l : List Int} {v : Nat → Nat → Prop} (h : SaysI (stN C) l) (ht : Trs v C C') (hn : Num C) (hn' : Num C') : SaysI (stN C') l :=
 ⟨h.len, fun g hg h0 => by
  have e := h.is g hg h0
  have e2 : stN C' g = stN C g := ht.keep hn hn' (g : Int) (by show stN C g ≠ 0; rw [← e]; exact h0)
  rw [e2]; exact e, h.wf⟩
theorem SaysI.begin_ {C : List (Gl RsT)} {l : List Int} (h : SaysI (stN C) l) (hn : Num C) {G : Gl RsT} (hg : G.g = (C.length : Int) + 1) (hp : G.ph = 1) : SaysI (stN (C ++ [G])) l := by
 have e : stN (C ++ [G]) = stN C := funext fun g => stat_snoc hn hg hp (g : Int)
 rw [e]; exact h
theorem SaysI.start (N : Nat → Int) : SaysI N (List.replicate 8 0) := by
 refine ⟨rfl, fun g _ h0 => ?_, fun v hv => by rw [List.eq_of_mem_replicate hv]; decide⟩
 rw [List.getD_eq_getElem?_getD, List.getElem?_replicate] at h0
 split at h0 <;> exact absurd rfl h0
theorem SyI.outs {C C' : List (Gl RsT)} {prt : List RawPs} {ys : List Bool} (h : SyI C prt ys) (hn : Num C) {os : List PM} (ho : OutOk C C' os) : ∀ o ∈ os, ∀ g : Nat, o.2.2 = g → g < 8 → (prt.getD g noP).2.2.length ≠ 0 → (o.1 = 5 → stN C' g = 2) ∧ (o.1 = 4 → stN C' g = 1) := by
 intro o hm g hg h8 h0
 obtain ⟨k1, k2⟩ := h.known g h8 h0
 have hk : findG C o.2.2 ≠ none := by
  rw [hg]
  have := hn.find (j := g - 1) (by omega)
  have e : ((g - 1 : Nat) : Int) + 1 = (g : Int) := by omega
  rw [e] at this
  rw [this]
  exact fun h => by cases h
 rcases ho o hm with ⟨e1, e2 | e2⟩ | ⟨e1, e2⟩
 ·exact absurd e2 hk
 ·rw [hg] at e2
  exact ⟨fun _ => e2, fun e4 => by rw [e1] at e4; omega⟩
 ·rw [hg] at e2
  exact ⟨fun e5 => by rw [e1] at e5; omega, fun _ => e2⟩
end Go.Proofs.YticnjkdaccacaaaGreat.Sx
end
