/- Texts of this work, one behind the other. -/
import Derived.Test.YticnjkdaccacaaaGreatVChiefsStay13
set_option maxRecDepth 100000
set_option maxHeartbeats 16000000
section
namespace Go.Proofs.YticnjkdaccacaaaGreat.Sx
open Go Go.RowKit Base Oq OwnV Disk
section
variable {P : Program} {T : Orc} {ops : Array Oper} {Q : Exit → Act → World → Prop} {Df : List Deferred} {N : Nat} {a : Act} {w w0 : World} {L : Env} {R : List Asn}
theorem wl_makeb {o : Oper} {rest : List Oper} {d : Nat} {g : FuncId} {cs : Array Operand} {xs : List Value} (fr : FrD Df N a L) (hw : wantL ops L o = some true) (hd : o.dst = some d) (hlt : Nat.blt d N = true) (ho : o.op = .makeFunc (.func g) cs #[]) (hx : evs L cs.toList = some xs)
  (h : ∀ a', FrD Df N a' ((d, .func (.func g) xs.toArray #[]) :: L) → wpList P ops Q rest a' w) : wpList P ops Q (o :: rest) a w := by
 refine wl_val (v := .func (.func g) xs.toArray #[]) fr hw hd hlt ?_ rfl h
 have e : cs.map a.eval = xs.toArray := by
  apply Array.toList_inj.1
  rw [Array.toList_map, (evs_run fr hx).1]
 unfold execOp
 simp only [ho, e]
 rw [Sem.run_bind, Array.map_empty]
 rfl
theorem wl_callb {o : Oper} {rest : List Oper} {d : Nat} {g : FuncId} {x : Operand} {xs : List Value} {fb : List Value} {c : Call} {E : Ending → World → Prop} (fr : FrD Df N a L) (hw : wantL ops L o = some true) (hd : o.dst = some d) (hlt : Nat.blt d N = true) (ho : o.op = .call c) (hc : c.callee = .value x) (hx : ev L x = some (.func (.func g) fb.toArray #[])) (hxs : evs L c.args.toList = some xs) (hin : Enters P g) (hcon : Calls P g (fb ++ xs).toArray w E)
  (h : ∀ e w', E e w' → ∃ v, e = .returned v ∧ vok v = true ∧ ∀ a', FrD Df N a' ((d, v) :: L) → wpList P ops Q rest a' w') : wpList P ops Q (o :: rest) a w := by
 have e : c.args.map a.eval = xs.toArray := by
  apply Array.toList_inj.1
  rw [Array.toList_map, (evs_run fr hxs).1]
 have hrun : (execOp a.eval o).run P w = .ok (.enter g (fb ++ xs).toArray) w := by
  unfold execOp
  simp only [ho, resolve, hc, (fr.ev hx).1, Deferred.ofValue]
  rw [Sem.run_bind, Sem.run_pure, Result.andThen_ok]
  simp only [invoke]
  have e3 := hin (fb ++ xs).toArray w
  rw [e]
  simpa using e3
 refine wl_op fr hw fun K hK => wp_call hrun (hcon.mono fun e' w' hR => ?_)
 obtain ⟨v, he, hv, hk⟩ := h e' w' hR
 exact ⟨v, he, hK _ _ (by rw [hd]; exact hk _ (fr.put (blt_lt hlt) hv))⟩
end
section
variable {α : Type}
structure Ss (α : Type) where
 gs : List (Gl α)
 m : List (Int × Int)
 x : Int
 D : Dk
def partAt (G : Gl α) (k : Nat) : Bool := match G.v[k]? with | some v => v.part | none => false
def badMsg (f t g : Int) : Bool := t != 0 || (decide (f < 1) || (decide (f > 3) || g == 0))
def sayOk (s : Int) : Bool := hasI [2, 3, 6, 7] s
def asks (s : Int) : Bool := s == 2 || s == 7
def putC (C : Ss α) (j : Nat) (K : Cs α) : Ss α := { gs := C.gs.set j K.G, m := K.m, x := K.x, D := K.D }
def ofC (C : Ss α) (G : Gl α) : Cs α := ⟨G, C.m, C.x, C.D⟩
def doneC (K : Cs α) (k : Nat) : Cs α := { G := doneM K.G k, m := K.m, x := doneX K.G k K.D K.x, D := doneD K.G k K.D K.x }
def cameG (C : Ss α) (G : Gl α) (j : Nat) (s f : Int) (l : α) : Ss α :=
 if (G.kn && !partAt G f.toNat) = true then C
 else if (G.ph == 1) = true then putC C j (doingC (ofC C G) s f.toNat l)
 else if asks s then C
 else if (s == 6) = true then putC C j (doneC (ofC C G) f.toNat)
 else C
def cameGO (C : Ss α) (G : Gl α) (s f : Int) (l : α) : List PM :=
 if (G.kn && !partAt G f.toNat) = true then []
 else if (G.ph == 1) = true then doingO (ofC C G) s f.toNat l
 else if asks s then [((if G.com = true then 4 else 5), f, G.g)]
 else []
def findG (gs : List (Gl α)) (g : Int) : Option (Nat × Gl α) := (idxG gs g).bind fun j => (gs[j]?).map fun G => (j, G)
def cameS (C : Ss α) (s f t g : Int) (l : α) : Ss α :=
 if badMsg f t g then C else if !sayOk s then C
 else match findG C.gs g with
  | none => C
  | some p => cameG C p.2 p.1 s f l
def cameO (C : Ss α) (s f t g : Int) (l : α) : List PM × Int :=
 if badMsg f t g then ([], 1) else if !sayOk s then ([], 1)
 else match findG C.gs g with
  | none => (if asks s then [(5, f, g)] else [], 0)
  | some p => (cameGO C p.2 s f l, 0)
end
structure GlI (G : Gl RawV) : Prop where
 len : G.v.length = 4
 few : ∀ v ∈ G.v, ResB v.l.2.2
theorem updV_mem {α : Type} {f : Vt α → Vt α} : ∀ {k : Nat} {l : List (Vt α)} {v : Vt α}, v ∈ updV f k l → v ∈ l ∨ ∃ u ∈ l, v = f u := by
 intro k l
 induction l generalizing k with
 | nil => intro v hv; cases k <;> cases hv
 | cons u r ih =>
  intro v hv
  cases k with
  | zero =>
   rcases List.mem_cons.1 (show v ∈ f u :: r from hv) with rfl | hv
   ·exact .inr ⟨u, List.mem_cons_self, rfl⟩
   ·exact .inl (List.mem_cons_of_mem _ hv)
  | succ k =>
   rcases List.mem_cons.1 (show v ∈ u :: updV f k r from hv) with rfl | hv
   ·exact .inl List.mem_cons_self
   ·rcases ih hv with h | ⟨u', h1, h2⟩
    ·exact .inl (List.mem_cons_of_mem _ h)
    ·exact .inr ⟨u', List.mem_cons_of_mem _ h1, h2⟩
theorem GlI.vote {G : Gl RawV} (h : GlI G) (k : Nat) {l : RawV} (hl : ResB l.2.2) : GlI (voteG G k l) where
 len := by show (updV _ k G.v).length = 4; rw [updV_len]; exact h.len
 few := fun v hv => by
  rcases updV_mem hv with hv | ⟨u, hu, rfl⟩
  ·exact h.few v hv
  ·exact hl
theorem GlI.done {G : Gl RawV} (h : GlI G) (k : Nat) : GlI (doneG G k) where
 len := by show (updV _ k G.v).length = 4; rw [updV_len]; exact h.len
 few := fun v hv => by
  rcases updV_mem hv with hv | ⟨u, hu, rfl⟩
  ·exact h.few v hv
  ·exact h.few u hu
theorem GlI.same {G G' : Gl RawV} (h : GlI G) (e : G'.v = G.v) : GlI G' := ⟨by rw [e]; exact h.len, by rw [e]; exact h.few⟩
theorem GlI.doing {C : Cs RawV} (h : GlI C.G) (s : Int) (k : Nat) {l : RawV} (hl : ResB l.2.2) : GlI (doingC C s k l).G := by
 unfold doingC
 split
 ·exact h.same rfl
 ·split
  ·exact h
  ·split
   ·exact h.vote k hl
   ·refine (h.vote k hl).same ?_
    show (commitM _ _ _).v = _
    unfold commitM
    split <;> rfl
theorem GlI.doneM {G : Gl RawV} (h : GlI G) (k : Nat) : GlI (doneM G k) := by
 unfold Sx.doneM
 split
 ·split
  ·exact (h.done k).same rfl
  ·exact h.done k
 ·exact h
theorem upd0 {f : Vt RawV → Vt RawV} {f' : Vt RsT → Vt RsT} (h : ∀ v, vt0 (f v) = f' (vt0 v)) : ∀ (k : Nat) (l : List (Vt RawV)), (updV f k l).map vt0 = updV f' k (l.map vt0) := by
 intro k l
 induction l generalizing k with
 | nil => cases k <;> rfl
 | cons v r ih =>
  cases k with
  | zero => show vt0 (f v) :: r.map vt0 = f' (vt0 v) :: r.map vt0; rw [h]
  | succ k => show vt0 v :: (updV f k r).map vt0 = vt0 v :: updV f' k (r.map vt0); rw [ih]
theorem vote0 (G : Gl RawV) (k : Nat) (l : RawV) : gl0 (voteG G k l) = voteG (gl0 G) k l.2.2 := by
 have := upd0 (f := vVote l) (f' := vVote l.2.2) (fun _ => rfl) k G.v
 unfold gl0 voteG
 simp only [this]
theorem done0 (G : Gl RawV) (k : Nat) : gl0 (doneG G k) = doneG (gl0 G) k := by
 have := upd0 (f := vDone) (f' := vDone) (fun _ => rfl) k G.v
 unfold gl0 doneG
 simp only [this]
theorem at0 (G : Gl RawV) (k : Nat) : (gl0 G).v[k]? = (G.v[k]?).map vt0 := List.getElem?_map
theorem yes0 (G : Gl RawV) (k : Nat) : yesAt (gl0 G) k = yesAt G k := by
 unfold yesAt
 rw [at0]
 cases G.v[k]? <;> rfl
theorem part0 (G : Gl RawV) (k : Nat) : partAt (gl0 G) k = partAt G k := by
 unfold partAt
 rw [at0]
 cases G.v[k]? <;> rfl
theorem all0 (G : Gl RawV) : sites allV (gl0 G) = sites allV G := sites0 allV (fun _ => rfl) G
theorem nyes0 (G : Gl RawV) : sites notYes (gl0 G) = sites notYes G := sites0 notYes (fun _ => rfl) G
theorem ndone0 (G : Gl RawV) : sites notDone (gl0 G) = sites notDone G := sites0 notDone (fun _ => rfl) G
theorem comR0 (G : Gl RawV) : commitR (gl0 G) = commitR G := by unfold commitR; rw [all0]; rfl
theorem comOk0 (G : Gl RawV) (D : Dk) (x : Int) : commitOk (gl0 G) D x = commitOk G D x := by unfold commitOk; rw [comR0]
theorem comM0 (G : Gl RawV) (D : Dk) (x : Int) : gl0 (commitM G D x) = commitM (gl0 G) D x := by unfold commitM; rw [comOk0]; split <;> rfl
theorem comD0 (G : Gl RawV) (D : Dk) (x : Int) : commitD (gl0 G) D x = commitD G D x := by unfold commitD; rw [comOk0, comR0]
theorem comS0 (G : Gl RawV) (D : Dk) (x : Int) : commitS (gl0 G) D x = commitS G D x := by unfold commitS; rw [comOk0]
def cs0 (C : Cs RawV) : Cs RsT := ⟨gl0 C.G, C.m, C.x, C.D⟩
theorem doing0 (C : Cs RawV) (s : Int) (k : Nat) (l : RawV) : cs0 (doingC C s k l) = doingC (cs0 C) s k l.2.2 := by
 unfold doingC
 have e1 : (cs0 C).G = gl0 C.G := rfl
 rw [e1, yes0, ← vote0, nyes0, comR0, ← comM0, comD0]
 split
 ·rfl
 ·split
  ·rfl
  ·split <;> rfl
theorem doingO0 (C : Cs RawV) (s : Int) (k : Nat) (l : RawV) : doingO (cs0 C) s k l.2.2 = doingO C s k l := by
 unfold doingO
 have e1 : (cs0 C).G = gl0 C.G := rfl
 rw [e1, yes0, ← vote0, nyes0, comS0, all0, all0]
 rfl
theorem ends0 (G : Gl RawV) (k : Nat) : ends (gl0 G) k = ends G k := by unfold ends; rw [← done0, ndone0]; rfl
theorem doneC0 (C : Cs RawV) (k : Nat) : cs0 (doneC C k) = doneC (cs0 C) k := by
 have e1 : (cs0 C).G = gl0 C.G := rfl
 unfold doneC doneM doneX doneD cs0
 simp only [ends0, ← done0]
 have e2 : (gl0 C.G).ph = C.G.ph := rfl
 have e3 : (gl0 C.G).g = C.G.g := rfl
 rw [e2, e3]
 congr 1
 split
 ·split <;> rfl
 ·rfl
def ss0 (gs : Gs) (m : List (Int × Int)) (x : Int) (D : Dk) : Ss RsT := ⟨gs.map fun p => gl0 p.2, m, x, D⟩
theorem idx0 (gs : Gs) (g : Int) : idxG (gs.map fun p => gl0 p.2) g = idxG (gs.map (·.2)) g := by
 rw [show (gs.map fun p => gl0 p.2) = (gs.map (·.2)).map gl0 by rw [List.map_map]; rfl]
 exact idxG_map (f := gl0) (fun _ => rfl) _ g
def zV : Vt RawV := ⟨false, false, false, (none, 0, [])⟩
def zG (g : Int) : Gl RawV := ⟨g, 0, false, false, false, [zV, zV, zV, zV]⟩
theorem doingC_g {α : Type} (C : Cs α) (s : Int) (k : Nat) (l : α) : (doingC C s k l).G.g = C.G.g := by
 unfold doingC
 split
 ·rfl
 ·split
  ·rfl
  ·split
   ·rfl
   ·show (commitM _ _ _).g = _
    unfold commitM
    split <;> rfl
theorem doneM_g {α : Type} (G : Gl α) (k : Nat) : (doneM G k).g = G.g := by
 unfold doneM
 split
 ·split <;> rfl
 ·rfl
theorem upd_map {α β : Type} {f : α → β} {u : Vt α → Vt α} {F : Vt α → β} (h : ∀ v, F (u v) = F v) : ∀ (k : Nat) (l : List (Vt α)), (updV u k l).map F = l.map F := by
 intro k l
 induction l generalizing k with
 | nil => cases k <;> rfl
 | cons v r ih =>
  cases k with
  | zero => show F (u v) :: r.map F = F v :: r.map F; rw [h]
  | succ k => show F v :: (updV u k r).map F = F v :: r.map F; rw [ih]
theorem doneM_R (G : Gl RawV) (k bx : Nat) : glR (bx, doneM G k) = glR (bx, G) := by
 have h1 : ∀ (v : Vt RawV), resA (vDone v).l.1 (vDone v).l.2.1 (vDone v).l.2.2 = resA v.l.1 v.l.2.1 v.l.2.2 := fun _ => rfl
 have h2 : glR (bx, doneG G k) = glR (bx, G) := upd_map (f := fun (v : RawV) => resA v.1 v.2.1 v.2.2) (F := fun v => resA v.l.1 v.l.2.1 v.l.2.2) h1 k G.v
 unfold doneM
 split
 ·split
  ·exact h2
  ·exact h2
 ·rfl
theorem litSay : RowTy Tryz.prog 107 36 .u8 := ⟨Tryz.underlying107, 1, by decide, by kernel_rfl⟩
theorem enCame : Enters Tryz.prog 12 := fun _ _ => by kernel_rfl
theorem vok_t2 {B : Option Addr} {n c : Nat} {z : Int} (h : vok (.slice B n c) = true) (hz : (Lit.int .i64 z).wf = true) : vok (.tuple #[.slice B n c, .int .i64 z]) = true := by
 have h1 : vokC (.slice B n c) = true := h
 show [Value.slice B n c, .int .i64 z].all vokC = true
 simp only [List.all_cons, List.all_nil, Bool.and_true, Bool.and_eq_true]
 exact ⟨h1, hz⟩
section
variable {w w0 : World} {R : List Asn} {b bl bm bk bw bd : Nat} {last now x : Int} {m : List (Int × Int)} {gs : Gs} {D : Dk}
theorem came_call {s f t g : Int} {Ao Ar : Option Addr} {no co cr : Nat} {rs : List RawR} (hmg : MgW s f t g no co rs.length cr) (hR : ∀ w', Sat w0 w' R → RdRaw w' Ar rs) (hW : RawW rs) (hrb : rs.length * 24 ≤ 140737488355328) (hrr : ∀ r ∈ rs, r.2.2.length * 24 ≤ 140737488355328) (hRB : ResB (rawL rs))
  (hI : ∀ p ∈ gs, GlI p.2) (hb : (0 ≤ x ∧ x ≤ 4096) ∧ D.waits.length ≤ 100000000) (S : Sat w0 w (chW b bl bm last bk bw now bd gs m x D R)) :
  Calls Tryz.prog 12 #[.pointer (some ⟨b, 0, none⟩), .agg (mgV s f t g Ao no co Ar rs.length cr).toArray] w fun e w' => ∃ (A' : Option Addr) (c' : Nat) (gs' : Gs), e = .returned (.tuple #[.slice A' (cameO (ss0 gs m x D) s f t g (rawL rs)).1.length (cameO (ss0 gs m x D) s f t g (rawL rs)).1.length, .int .i64 (cameO (ss0 gs m x D) s f t g (rawL rs)).2]) ∧ vok (.tuple #[.slice A' (cameO (ss0 gs m x D) s f t g (rawL rs)).1.length (cameO (ss0 gs m x D) s f t g (rawL rs)).1.length, .int .i64 (cameO (ss0 gs m x D) s f t g (rawL rs)).2]) = true ∧
   (gs'.map fun p => gl0 p.2) = (cameS (ss0 gs m x D) s f t g (rawL rs)).gs ∧ (∀ p ∈ gs', GlI p.2) ∧ keysG gs' = keysG gs ∧ Sat w0 w' (pmA A' c' (cameO (ss0 gs m x D) s f t g (rawL rs)).1 :: chW b bl bm last bk bw now bd gs' (cameS (ss0 gs m x D) s f t g (rawL rs)).m (cameS (ss0 gs m x D) s f t g (rawL rs)).x (cameS (ss0 gs m x D) s f t g (rawL rs)).D R) := by
 have hf0 : 0 ≤ f := by
  have h := hmg.f
  rw [wf_int] at h
  have h1 : IntKind.u8.min = 0 := by decide
  omega
 obtain ⟨k, rfl⟩ : ∃ k : Nat, f = k := ⟨f.toNat, by omega⟩
 refine calls_start (N := 110) [.pointer (some ⟨b, 0, none⟩), .agg (mgV s k t g Ao no co Ar rs.length cr).toArray] Tryz.func12 rfl rfl rfl (vok_c rfl (vok_c (hmg.ok Ao Ar) rfl)) fun a fr => ?_
 refine r_ rfl ?_
 refine wl_boxs fr rfl rfl rfl rfl rfl (hmg.okv Ao Ar) S ?_
 intro w1 bg S a fr
 have S : Sat w0 w1 (stA 42 bg (mgV s k t g Ao no co Ar rs.length cr) :: chS b bl bm last bk :: logA bl bd x :: diskA bd D :: ckS bk bw now :: ckM bw m :: glM bm gs :: (gsT gs ++ R)) := S
 repeat refine w_ oCh_ rfl fr fun a fr => ?_
 first | refine e_ ?_ | refine wpList_nil ?_
 have nope : ∀ {a : Act} {w6 : World} {L : Env} {z : Int}, FrD [] 110 a L → L.lookup 4 = some (.slice none 0 0) → L.lookup 5 = some (.int .i64 z) → (Lit.int .i64 z).wf = true → cameS (ss0 gs m x D) s k t g (rawL rs) = ss0 gs m x D → cameO (ss0 gs m x D) s k t g (rawL rs) = ([], z) → Sat w0 w6 (stA 42 bg (mgV s k t g Ao no co Ar rs.length cr) :: chS b bl bm last bk :: logA bl bd x :: diskA bd D :: ckS bk bw now :: ckM bw m :: glM bm gs :: (gsT gs ++ R)) → bodyPost Tryz.prog Tryz.f12 (fun e w' => ∃ (A' : Option Addr) (c' : Nat) (gs' : Gs), e = .returned (.tuple #[.slice A' (cameO (ss0 gs m x D) s k t g (rawL rs)).1.length (cameO (ss0 gs m x D) s k t g (rawL rs)).1.length, .int .i64 (cameO (ss0 gs m x D) s k t g (rawL rs)).2]) ∧ vok (.tuple #[.slice A' (cameO (ss0 gs m x D) s k t g (rawL rs)).1.length (cameO (ss0 gs m x D) s k t g (rawL rs)).1.length, .int .i64 (cameO (ss0 gs m x D) s k t g (rawL rs)).2]) = true ∧
   (gs'.map fun p => gl0 p.2) = (cameS (ss0 gs m x D) s k t g (rawL rs)).gs ∧ (∀ p ∈ gs', GlI p.2) ∧ keysG gs' = keysG gs ∧ Sat w0 w' (pmA A' c' (cameO (ss0 gs m x D) s k t g (rawL rs)).1 :: chW b bl bm last bk bw now bd gs' (cameS (ss0 gs m x D) s k t g (rawL rs)).m (cameS (ss0 gs m x D) s k t g (rawL rs)).x (cameS (ss0 gs m x D) s k t g (rawL rs)).D R)) .ret a w6 := by
  intro a w6 L z fr h4 h5 hz eS eO S
  rw [eS, eO]
  exact ret2 fr rfl h4 h5 ⟨none, 0, gs, rfl, vok_t2 rfl hz, rfl, hI, rfl, noPm S.tl⟩
 refine r_ rfl ?_
 repeat refine w_ oCh_ rfl fr fun a fr => ?_
 refine wl_call fr rfl rfl rfl rfl enChThere (chthere_call (S.frontAt 1 rfl)) ?_
 rintro _ w2 ⟨rfl, rfl⟩
 refine ⟨_, rfl, rfl, fun a fr => ?_⟩
 repeat refine w_ oCh_ rfl fr fun a fr => ?_
 refine eq_ rfl rfl ?_
 refine cw_f fr rfl ?_
 refine wp_skip ?_
 refine r_ rfl ?_
 (repeat (first | refine wl_run oCh_ 1 rfl fr fun a fr => ?_ | refine wl_ldf oCh_ (Sat.stAt S 0 rfl rfl) fr rfl rfl rfl rfl rfl rfl rfl fun a fr => ?_))
 refine bs 14 fr rfl (fun q1 fr => ?_) (fun q1 fr => ?_)
 ·have hq : badMsg k t g = true := by unfold badMsg; rw [q1]; rfl
  (repeat (first | refine wl_run oCh_ 1 rfl fr fun a fr => ?_ | refine wl_ldf oCh_ (Sat.stAt S 0 rfl rfl) fr rfl rfl rfl rfl rfl rfl rfl fun a fr => ?_))
  (
 refine eq_ rfl rfl ?_
 refine cw_t fr rfl ?_
 refine r_ rfl ?_
 repeat refine w_ oCh_ rfl fr fun a fr => ?_
 first | refine e_ ?_ | refine wpList_nil ?_
 refine wp_ret ?_
 try simp only [Exit.then, Exit.inBlock]
 exact nope fr rfl rfl rfl (by unfold cameS; rw [hq]; rfl) (by unfold cameO; rw [hq]; rfl) S
)
 (repeat (first | refine wl_run oCh_ 1 rfl fr fun a fr => ?_ | refine wl_ldf oCh_ (Sat.stAt S 0 rfl rfl) fr rfl rfl rfl rfl rfl rfl rfl fun a fr => ?_))
 refine bs 19 fr rfl (fun q2 fr => ?_) (fun q2 fr => ?_)
 ·have hq : badMsg k t g = true := by unfold badMsg; rw [q1, q2]; rfl
  (repeat (first | refine wl_run oCh_ 1 rfl fr fun a fr => ?_ | refine wl_ldf oCh_ (Sat.stAt S 0 rfl rfl) fr rfl rfl rfl rfl rfl rfl rfl fun a fr => ?_))
  (
 refine eq_ rfl rfl ?_
 refine cw_t fr rfl ?_
 refine r_ rfl ?_
 repeat refine w_ oCh_ rfl fr fun a fr => ?_
 first | refine e_ ?_ | refine wpList_nil ?_
 refine wp_ret ?_
 try simp only [Exit.then, Exit.inBlock]
 exact nope fr rfl rfl rfl (by unfold cameS; rw [hq]; rfl) (by unfold cameO; rw [hq]; rfl) S
)
 (repeat (first | refine wl_run oCh_ 1 rfl fr fun a fr => ?_ | refine wl_ldf oCh_ (Sat.stAt S 0 rfl rfl) fr rfl rfl rfl rfl rfl rfl rfl fun a fr => ?_))
 refine bs 24 fr rfl (fun q3 fr => ?_) (fun q3 fr => ?_)
 ·have hq : badMsg k t g = true := by unfold badMsg; rw [q1, q2, q3]; rfl
  (repeat (first | refine wl_run oCh_ 1 rfl fr fun a fr => ?_ | refine wl_ldf oCh_ (Sat.stAt S 0 rfl rfl) fr rfl rfl rfl rfl rfl rfl rfl fun a fr => ?_))
  (
 refine eq_ rfl rfl ?_
 refine cw_t fr rfl ?_
 refine r_ rfl ?_
 repeat refine w_ oCh_ rfl fr fun a fr => ?_
 first | refine e_ ?_ | refine wpList_nil ?_
 refine wp_ret ?_
 try simp only [Exit.then, Exit.inBlock]
 exact nope fr rfl rfl rfl (by unfold cameS; rw [hq]; rfl) (by unfold cameO; rw [hq]; rfl) S
)
 (repeat (first | refine wl_run oCh_ 1 rfl fr fun a fr => ?_ | refine wl_ldf oCh_ (Sat.stAt S 0 rfl rfl) fr rfl rfl rfl rfl rfl rfl rfl fun a fr => ?_))
 refine bs 28 fr rfl (fun q4 fr => ?_) (fun q4 fr => ?_)
 ·have hq : badMsg k t g = true := by unfold badMsg; rw [q1, q2, q3, q4]; rfl
  (
 refine eq_ rfl rfl ?_
 refine cw_t fr rfl ?_
 refine r_ rfl ?_
 repeat refine w_ oCh_ rfl fr fun a fr => ?_
 first | refine e_ ?_ | refine wpList_nil ?_
 refine wp_ret ?_
 try simp only [Exit.then, Exit.inBlock]
 exact nope fr rfl rfl rfl (by unfold cameS; rw [hq]; rfl) (by unfold cameO; rw [hq]; rfl) S
)
 have hq : badMsg k t g = false := by unfold badMsg; rw [q1, q2, q3, q4]; rfl
 have hf1 : 1 ≤ (k : Int) := by have := of_decide_eq_false q2; omega
 have hf3 : (k : Int) ≤ 3 := by have := of_decide_eq_false q3; omega
 refine eq_ rfl rfl ?_
 refine cw_f fr rfl ?_
 refine wp_skip ?_
 refine q_ rfl ?_
 have S := (((((((S.frontAt 5 rfl).frontAt 5 rfl).frontAt 5 rfl).frontAt 5 rfl).frontAt 6 rfl).frontAt 6 rfl).frontAt 6 rfl)
 refine wp_region_sl [u_ 0 29, u_ 1 30, u_ 2 31, u_ 3 32, u_ 4 33, u_ 5 34, u_ 6 35, u_ 7 6]
        [m_ 29 0 24,
        c_ 30 29,
        f_ 31 77 30 1,
        l_ 32 74 31,
        f_ 33 42 3 3,
        l_ 34 31 33,
        .one ⟨true, some 35, (.lookup 74 (.tmp 32) (.tmp 34) false), 83, none⟩,
        .one ⟨true, some 6, (.assign (.tmp 35)), 83, none⟩]
        (fun v => Sat w0 v [stA 42 bg (mgV s k t g Ao no co Ar rs.length cr), chS b bl bm last bk, glM bm gs]) rfl (by kernel_rfl) (by kernel_rfl) ?_ ?_
 ·exact S.drew.firsts [_, _, _]
 have S := S.drew
 have hS : Sat w0 _ [stA 42 bg (mgV s k t g Ao no co Ar rs.length cr), chS b bl bm last bk, glM bm gs] := S.firsts [_, _, _]
 (repeat (first | refine sl_run oCh_ 1 rfl fr fun a fr => ?_ | refine sl_ldf oCh_ (fun _ S => Sat.stAt S 0 rfl rfl) fr rfl rfl rfl rfl rfl rfl rfl rfl (by assumption) fun a fr => ?_ | refine sl_ldf oCh_ (fun _ S => Sat.stAt S 1 rfl rfl) fr rfl rfl rfl rfl rfl rfl rfl rfl (by assumption) fun a fr => ?_))
 refine sl_lk (f := ptO) oCh_ (none : Option Nat) (fun _ => by kernel_rfl) rfl (fun _ S => Sat.mapAt S 2 rfl) fr rfl rfl rfl rfl rfl rfl rfl rfl rfl hS fun a fr => ?_
 repeat refine sl_run oCh_ 1 rfl fr fun a fr => ?_
 refine sl_end ?_
 repeat with_reducible refine then_n ?_
 have fr := fr.sub (L' := [(0, .pointer (some ⟨b, 0, none⟩)), (3, .pointer (some ⟨bg, 0, none⟩)), (6, ptO ((lkM (keysG gs) g).getD none))]) ⟨rfl, rfl, rfl, trivial⟩
 clear hS
 refine r_ rfl ?_
 (repeat (first | refine wl_run oCh_ 1 rfl fr fun a fr => ?_ | refine wl_ldf oCh_ (Sat.stAt S 0 rfl rfl) fr rfl rfl rfl rfl rfl rfl rfl fun a fr => ?_))
 refine wl_build (cs := glV (zG g)) (L2 := [(0, .int .u32 g)]) fr rfl rfl rfl rfl (by simpa using (fr.ev (o := .tmp 37) rfl).1) (by kernel_rfl) ?_ fun a fr => ?_
 ·refine (show (glV (zG g)).all vok1 = true from ?_)
  show ((Lit.int .u32 g).wf && _) = true
  rw [hmg.g]
  rfl
 refine wl_boxs fr rfl rfl rfl rfl rfl ?_ S ?_
 ·refine (show (glV (zG g)).all vok = true from ?_)
  show ((Lit.int .u32 g).wf && _) = true
  rw [hmg.g]
  rfl
 intro w3 bz S a fr
 refine wl_makeb (xs := [.pointer (some ⟨bz, 0, none⟩)]) fr rfl rfl rfl rfl rfl fun a fr => ?_
 repeat refine w_ oCh_ rfl fr fun a fr => ?_
 refine eq_ rfl rfl ?_
 refine wp_block ?_
 refine r_ rfl ?_
 refine wl_lit (xs := [2, 3, 6, 7]) oCh_ litSay fr rfl rfl rfl rfl ⟨rfl, rfl, rfl, rfl, rfl, rfl, rfl, rfl, trivial⟩ rfl rfl S ?_
 intro w4 A4 c4 S a fr
 have hm4 := S.own.2
 have hk4 := Sat.ownAt S 0 rfl
 (repeat (first | refine wl_run oCh_ 1 rfl fr fun a fr => ?_ | refine wl_ldf oCh_ (Sat.stAt S 0 rfl rfl) fr rfl rfl rfl rfl rfl rfl rfl fun a fr => ?_ | refine wl_ldf oCh_ (Sat.stAt S 1 rfl rfl) fr rfl rfl rfl rfl rfl rfl rfl fun a fr => ?_ | refine wl_ldf oCh_ (Sat.stAt S 2 rfl rfl) fr rfl rfl rfl rfl rfl rfl rfl fun a fr => ?_))
 refine wl_call fr rfl rfl rfl rfl enHasSay (hasSay_call hk4 hm4 hmg.s) ?_
 rintro _ w5 ⟨rfl, rfl⟩
 refine ⟨_, rfl, rfl, fun a fr => ?_⟩
 repeat refine w_ oCh_ rfl fr fun a fr => ?_
 first | refine e_ ?_ | refine wpList_nil ?_
 have S : Sat w0 w5 (stA 42 bg (mgV s k t g Ao no co Ar rs.length cr) :: chS b bl bm last bk :: logA bl bd x :: diskA bd D :: ckS bk bw now :: ckM bw m :: glM bm gs :: glA (bz, zG g) :: (gsT gs ++ R)) := ((((((((S.frontAt 1 rfl).frontAt 4 rfl).frontAt 8 rfl).frontAt 8 rfl).frontAt 8 rfl).frontAt 8 rfl).frontAt 8 rfl).frontAt 8 rfl).mask [true, true, true, true, true, true, true, true, false]
 refine bs 41 fr rfl (fun q5 fr => ?_) (fun q5 fr => ?_)
 ·have q5 : (!sayOk s) = true := q5
  refine q_ rfl ?_
  refine cw_t fr rfl ?_
  refine r_ rfl ?_
  repeat refine w_ oCh_ rfl fr fun a fr => ?_
  first | refine e_ ?_ | refine wpList_nil ?_
  refine wp_ret ?_
  try simp only [Exit.then, Exit.inBlock]
  exact nope fr rfl rfl rfl (by unfold cameS; rw [hq, q5]; rfl) (by unfold cameO; rw [hq, q5]; rfl) (S.frontAt 7 rfl).tl
 have q5 : (!sayOk s) = false := q5
 refine q_ rfl ?_
 refine cw_f fr rfl ?_
 have fr := fr.sub (L' := [(0, .pointer (some ⟨b, 0, none⟩)), (3, .pointer (some ⟨bg, 0, none⟩)), (6, ptO ((lkM (keysG gs) g).getD none)), (7, .func (.func 39) #[.pointer (some ⟨bz, 0, none⟩)] #[])]) ⟨rfl, rfl, rfl, rfl, trivial⟩
 cases hi : idxG (gs.map (·.2)) g with
 | none =>
  have hfd : findG (ss0 gs m x D).gs g = none := by
   show ((idxG (gs.map fun p => gl0 p.2) g).bind _) = none
   rw [idx0, hi]
   rfl
  have eS : cameS (ss0 gs m x D) s k t g (rawL rs) = ss0 gs m x D := by
   unfold cameS
   rw [hq, q5, hfd]
   rfl
  have eO : cameO (ss0 gs m x D) s k t g (rawL rs) = (if asks s then [(5, (k : Int), g)] else [], 0) := by
   unfold cameO
   rw [hq, q5, hfd]
   rfl
  rw [lkG_none hi] at fr
  have fr := fr.spell (d := 6) rfl (show ptO ((none : Option (Option Nat)).getD none) = .pointer none from rfl)
  refine q_ rfl ?_
  refine wp_region_sl [u_ 0 48, u_ 1 49, u_ 2 50, u_ 3 51, u_ 4 52, u_ 5 53, u_ 6 54, u_ 7 55, u_ 8 56, u_ 9 57, u_ 10 58, u_ 11 59, u_ 12 60, u_ 13 61, u_ 14 62, u_ 15 63, u_ 16 64, u_ 17 65, u_ 18 66, u_ 19 47]
        [m_ 48 6 83,
        .one ⟨true, some 49, (.binOp .neq 83 (.tmp 48) (.const (.pointer none)) 83), 4, none⟩,
        m_ 50 49 4,
        .one ⟨true, some 51, (.move (.tmp 6)), 83, some (50, true)⟩,
        .one ⟨true, some 52, (.nilCheck (.tmp 51)), 0, some (50, true)⟩,
        .one ⟨true, some 53, (.fieldAddr 88 (.tmp 52) 3), 0, some (50, true)⟩,
        .one ⟨true, some 54, (.load 4 (.tmp 53)), 4, some (50, true)⟩,
        .one ⟨true, some 55, (.pick (.tmp 50) (.tmp 54) (.const (.bool false))), 4, none⟩,
        m_ 56 55 4,
        .one ⟨true, some 57, (.move (.tmp 6)), 83, some (56, true)⟩,
        .one ⟨true, some 58, (.fieldAddr 42 (.tmp 3) 1), 0, some (56, true)⟩,
        .one ⟨true, some 59, (.load 5 (.tmp 58)), 5, some (56, true)⟩,
        .one ⟨true, some 60, (.nilCheck (.tmp 57)), 0, some (56, true)⟩,
        .one ⟨true, some 61, (.fieldAddr 88 (.tmp 60) 5), 0, some (56, true)⟩,
        .one ⟨true, some 62, (.indexAddr 86 (.tmp 61) (.tmp 59)), 0, some (56, true)⟩,
        .one ⟨true, some 63, (.fieldAddr 85 (.tmp 62) 0), 0, some (56, true)⟩,
        .one ⟨true, some 64, (.load 4 (.tmp 63)), 4, some (56, true)⟩,
        .one ⟨true, some 65, (.unOp .not 4 (.tmp 64)), 4, some (56, true)⟩,
        .one ⟨true, some 66, (.pick (.tmp 56) (.tmp 65) (.const (.bool false))), 4, none⟩,
        .one ⟨true, some 47, (.assign (.tmp 66)), 4, none⟩]
        (fun _ => True) rfl (by kernel_rfl) (by kernel_rfl) ?_ ?_
  ·exact trivial
  have hS : True := trivial
  have S := S.drew
  repeat refine sl_run oCh_ 1 rfl fr fun a fr => ?_
  refine sl_end ?_
  refine q_ rfl ?_
  refine cw_f fr rfl ?_
  refine r_ rfl ?_
  repeat refine w_ oCh_ rfl fr fun a fr => ?_
  refine eq_ rfl rfl ?_
  refine cw_f fr rfl ?_
  refine r_ rfl ?_
  repeat refine w_ oCh_ rfl fr fun a fr => ?_
  refine eq_ rfl rfl ?_
  refine cw_f fr rfl ?_
  refine wp_skip ?_
  repeat first | with_reducible refine then_n ?_ | with_reducible refine blk_n ?_
  have S : Sat w0 _ (stA 42 bg (mgV s k t g Ao no co Ar rs.length cr) :: glA (bz, zG g) :: chS b bl bm last bk :: logA bl bd x :: diskA bd D :: ckS bk bw now :: ckM bw m :: glM bm gs :: (gsT gs ++ R)) := (S.frontAt 7 rfl).frontAt 1 rfl
  refine r_ rfl ?_
  (repeat (first | refine wl_run oCh_ 1 rfl fr fun a fr => ?_ | refine wl_ldf oCh_ (Sat.stAt S 0 rfl rfl) fr rfl rfl rfl rfl rfl rfl rfl fun a fr => ?_))
  refine bs 89 fr rfl (fun q6 fr => ?_) (fun q6 fr => ?_)
  ·have ha : asks s = true := by unfold asks; rw [q6]; rfl
   (repeat (first | refine wl_run oCh_ 1 rfl fr fun a fr => ?_ | refine wl_ldf oCh_ (Sat.stAt S 0 rfl rfl) fr rfl rfl rfl rfl rfl rfl rfl fun a fr => ?_))
   (
  refine eq_ rfl rfl ?_
  refine cw_t fr rfl ?_
  refine r_ rfl ?_
  (repeat (first | refine wl_run oCh_ 1 rfl fr fun a fr => ?_ | refine wl_ldf oCh_ (Sat.stAt S 0 rfl rfl) fr rfl rfl rfl rfl rfl rfl rfl fun a fr => ?_))
  refine wl_callb (fb := [.pointer (some ⟨bz, 0, none⟩)]) fr rfl rfl rfl rfl rfl rfl rfl enDecided (decided_call hmg.f (S.frontAt 1 rfl)) ?_
  rintro _ w6 ⟨A6, c6, rfl, hv6, S⟩
  refine ⟨_, rfl, hv6, fun a fr => ?_⟩
  repeat refine w_ oCh_ rfl fr fun a fr => ?_
  first | refine e_ ?_ | refine wpList_nil ?_
  refine wp_ret ?_
  try simp only [Exit.then, Exit.inBlock]
  rw [eS, eO, ha]
  refine ret2 fr rfl rfl rfl ⟨A6, c6, gs, rfl, vok_t2 hv6 rfl, rfl, hI, rfl, ?_⟩
  exact (((((((((S.frontAt 2 rfl).frontAt 2 rfl).frontAt 8 rfl).frontAt 8 rfl).frontAt 8 rfl).frontAt 8 rfl).frontAt 8 rfl).frontAt 8 rfl).frontAt 8 rfl).mask [true, true, true, true, true, true, true, false, false]
)
  (repeat (first | refine wl_run oCh_ 1 rfl fr fun a fr => ?_ | refine wl_ldf oCh_ (Sat.stAt S 0 rfl rfl) fr rfl rfl rfl rfl rfl rfl rfl fun a fr => ?_))
  refine bs 93 fr rfl (fun q7 fr => ?_) (fun q7 fr => ?_)
  ·have ha : asks s = true := by unfold asks; rw [q6, q7]; rfl
   (
  refine eq_ rfl rfl ?_
  refine cw_t fr rfl ?_
  refine r_ rfl ?_
  (repeat (first | refine wl_run oCh_ 1 rfl fr fun a fr => ?_ | refine wl_ldf oCh_ (Sat.stAt S 0 rfl rfl) fr rfl rfl rfl rfl rfl rfl rfl fun a fr => ?_))
  refine wl_callb (fb := [.pointer (some ⟨bz, 0, none⟩)]) fr rfl rfl rfl rfl rfl rfl rfl enDecided (decided_call hmg.f (S.frontAt 1 rfl)) ?_
  rintro _ w6 ⟨A6, c6, rfl, hv6, S⟩
  refine ⟨_, rfl, hv6, fun a fr => ?_⟩
  repeat refine w_ oCh_ rfl fr fun a fr => ?_
  first | refine e_ ?_ | refine wpList_nil ?_
  refine wp_ret ?_
  try simp only [Exit.then, Exit.inBlock]
  rw [eS, eO, ha]
  refine ret2 fr rfl rfl rfl ⟨A6, c6, gs, rfl, vok_t2 hv6 rfl, rfl, hI, rfl, ?_⟩
  exact (((((((((S.frontAt 2 rfl).frontAt 2 rfl).frontAt 8 rfl).frontAt 8 rfl).frontAt 8 rfl).frontAt 8 rfl).frontAt 8 rfl).frontAt 8 rfl).frontAt 8 rfl).mask [true, true, true, true, true, true, true, false, false]
)
  have ha : asks s = false := by unfold asks; rw [q6, q7]; rfl
  refine eq_ rfl rfl ?_
  refine cw_f fr rfl ?_
  refine wp_skip ?_
  refine r_ rfl ?_
  repeat refine w_ oCh_ rfl fr fun a fr => ?_
  refine eq_ rfl rfl ?_
  refine cw_f fr rfl ?_
  refine wp_skip ?_
  refine r_ rfl ?_
  repeat refine w_ oCh_ rfl fr fun a fr => ?_
  first | refine e_ ?_ | refine wpList_nil ?_
  refine wp_ret ?_
  try simp only [Exit.then, Exit.inBlock]
  exact nope fr rfl rfl rfl eS (by rw [eO, ha]; rfl) (S.frontAt 1 rfl).tl
 | some j =>
  obtain ⟨hj, h1, h2⟩ := lkG_at hi
  obtain ⟨bx, hbx⟩ : ∃ bx, bx = gs[j].1 := ⟨_, rfl⟩
  obtain ⟨G, hG⟩ : ∃ G, G = gs[j].2 := ⟨_, rfl⟩
  have hIG : GlI G := by rw [hG]; exact hI _ (List.getElem_mem hj)
  have h4G := hIG.len
  have hGg : G.g = g := by rw [hG]; exact h2
  have hat : ((ss0 gs m x D).gs)[j]? = some (gl0 G) := by
   show (gs.map fun p => gl0 p.2)[j]? = _
   rw [List.getElem?_map, List.getElem?_eq_getElem hj, hG]; rfl
  have hfd : findG (ss0 gs m x D).gs g = some (j, gl0 G) := by
   show ((idxG (gs.map fun p => gl0 p.2) g).bind _) = _
   rw [idx0, hi]
   show (((ss0 gs m x D).gs)[j]?).map _ = _
   rw [hat]
   rfl
  have eS : cameS (ss0 gs m x D) s k t g (rawL rs) = cameG (ss0 gs m x D) (gl0 G) j s k (rawL rs) := by
   unfold cameS
   rw [hq, q5, hfd]
   rfl
  have eO : cameO (ss0 gs m x D) s k t g (rawL rs) = (cameGO (ss0 gs m x D) (gl0 G) s k (rawL rs), 0) := by
   unfold cameO
   rw [hq, q5, hfd]
   rfl
  rw [h1] at fr
  have fr := fr.spell (d := 6) rfl (show ptO ((some (some gs[j].1) : Option (Option Nat)).getD none) = .pointer (some ⟨bx, 0, none⟩) by rw [hbx]; rfl)
  have back : (chL b bl bm last bk bw now bd bx ⟨G, m, x, D⟩ (glM bm gs :: (gsT (gs.eraseIdx j) ++ R))).Perm (chW b bl bm last bk bw now bd gs m x D R) := by
   have := unfocus_perm (R := R) (b := b) (bl := bl) (bm := bm) (last := last) (bk := bk) (bw := bw) (now := now) (bd := bd) hj (C := ⟨G, m, x, D⟩) (by rw [hG])
   rw [show gs.set j (gs[j].1, (⟨G, m, x, D⟩ : Cs RawV).G) = gs by show gs.set j (gs[j].1, G) = gs; rw [hG]; exact List.set_getElem_self hj, ← hbx] at this
   exact this
  have S : Sat w0 w5 (stA 42 bg (mgV s k t g Ao no co Ar rs.length cr) :: chW b bl bm last bk bw now bd gs m x D R) := (S.frontAt 7 rfl).tl
  have S := S.perm (List.Perm.cons _ back.symm)
  have fin : ∀ {A' : Option Addr} {c' : Nat} {os : List PM} {K : Cs RawV} {w' : World}, K.G.g = G.g → GlI K.G → cameG (ss0 gs m x D) (gl0 G) j s k (rawL rs) = putC (ss0 gs m x D) j (cs0 K) → cameGO (ss0 gs m x D) (gl0 G) s k (rawL rs) = os → vok (.slice A' os.length os.length) = true → Sat w0 w' (pmA A' c' os :: chL b bl bm last bk bw now bd bx K (glM bm gs :: (gsT (gs.eraseIdx j) ++ R))) → ∃ (A2 : Option Addr) (c2 : Nat) (gs' : Gs), (.returned (.tuple #[.slice A' os.length os.length, .int .i64 0]) : Ending) = .returned (.tuple #[.slice A2 (cameO (ss0 gs m x D) s k t g (rawL rs)).1.length (cameO (ss0 gs m x D) s k t g (rawL rs)).1.length, .int .i64 (cameO (ss0 gs m x D) s k t g (rawL rs)).2]) ∧ vok (.tuple #[.slice A2 (cameO (ss0 gs m x D) s k t g (rawL rs)).1.length (cameO (ss0 gs m x D) s k t g (rawL rs)).1.length, .int .i64 (cameO (ss0 gs m x D) s k t g (rawL rs)).2]) = true ∧
   (gs'.map fun p => gl0 p.2) = (cameS (ss0 gs m x D) s k t g (rawL rs)).gs ∧ (∀ p ∈ gs', GlI p.2) ∧ keysG gs' = keysG gs ∧ Sat w0 w' (pmA A2 c2 (cameO (ss0 gs m x D) s k t g (rawL rs)).1 :: chW b bl bm last bk bw now bd gs' (cameS (ss0 gs m x D) s k t g (rawL rs)).m (cameS (ss0 gs m x D) s k t g (rawL rs)).x (cameS (ss0 gs m x D) s k t g (rawL rs)).D R) := by
   intro A' c' os K w' hKg hKI e1 e2 hv S
   rw [eS, eO, e1, e2]
   have hg2 : K.G.g = gs[j].2.g := by rw [hKg, hG]
   refine ⟨A', c', gs.set j (gs[j].1, K.G), rfl, vok_t2 hv rfl, ?_, ?_, keys_set hj rfl hg2, ?_⟩
   ·show (gs.set j (gs[j].1, K.G)).map (fun p => gl0 p.2) = ((ss0 gs m x D).gs).set j (gl0 K.G)
    rw [List.map_set]
    rfl
   ·intro p hp
    rcases List.mem_or_eq_of_mem_set hp with hp | rfl
    ·exact hI p hp
    ·exact hKI
   ·have h9 := unfocus_perm (R := R) (b := b) (bl := bl) (bm := bm) (last := last) (bk := bk) (bw := bw) (now := now) (bd := bd) (C := K) hj hg2
    rw [← hbx] at h9
    have h10 := S.perm (List.Perm.cons _ h9)
    rw [← hbx]
    exact h10
  have S : Sat w0 _ (stA 42 bg (mgV s k t g Ao no co Ar rs.length cr) :: glA (bx, G) :: chS b bl bm last bk :: logA bl bd x :: diskA bd D :: ckS bk bw now :: ckM bw m :: (glR (bx, G) ++ (glM bm gs :: (gsT (gs.eraseIdx j) ++ R)))) := (((((((S.frontAt 5 rfl).frontAt 5 rfl).frontAt 5 rfl).frontAt 5 rfl).frontAt 5 rfl).frontAt 6 rfl).frontAt 6 rfl)
  have hR1 : ∀ w', Sat w0 w' (glM bm gs :: (gsT (gs.eraseIdx j) ++ R)) → RdRaw w' Ar rs := fun w' S' => hR w' (Sat.lastsT (glM bm gs :: gsT (gs.eraseIdx j)) S')
  generalize hRR : (glM bm gs :: (gsT (gs.eraseIdx j) ++ R)) = R1 at S hR1 back fin
  have hk4 : k < 4 := by omega
  have hkv : k < G.v.length := by omega
  have hpk : partAt G k = G.v[k].part := by unfold partAt; rw [List.getElem?_eq_getElem hkv]
  have same : cameG (ss0 gs m x D) (gl0 G) j s k (rawL rs) = ss0 gs m x D → cameS (ss0 gs m x D) s k t g (rawL rs) = ss0 gs m x D := fun h => eS.trans h
  have home : ∀ {w' : World}, Sat w0 w' (stA 42 bg (mgV s k t g Ao no co Ar rs.length cr) :: glA (bx, G) :: chS b bl bm last bk :: logA bl bd x :: diskA bd D :: ckS bk bw now :: ckM bw m :: (glR (bx, G) ++ R1)) → Sat w0 w' (stA 42 bg (mgV s k t g Ao no co Ar rs.length cr) :: chW b bl bm last bk bw now bd gs m x D R) := by
   intro w' S
   have S : Sat w0 w' (stA 42 bg (mgV s k t g Ao no co Ar rs.length cr) :: chL b bl bm last bk bw now bd bx ⟨G, m, x, D⟩ R1) := (((((((S.frontAt 1 rfl).frontAt 6 rfl).frontAt 6 rfl).frontAt 6 rfl).frontAt 6 rfl).frontAt 6 rfl).frontAt 6 rfl)
   exact S.perm (List.Perm.cons _ back)
  refine q_ rfl ?_
  refine cw_at (fun a w => FrD [] 110 a [(0, .pointer (some ⟨b, 0, none⟩)), (3, .pointer (some ⟨bg, 0, none⟩)), (6, .pointer (some ⟨bx, 0, none⟩)), (7, .func (.func 39) #[.pointer (some ⟨bz, 0, none⟩)] #[]), (47, .bool (G.kn && !partAt G k))] ∧ Sat w0 w (stA 42 bg (mgV s k t g Ao no co Ar rs.length cr) :: glA (bx, G) :: chS b bl bm last bk :: logA bl bd x :: diskA bd D :: ckS bk bw now :: ckM bw m :: (glR (bx, G) ++ R1))) ?_ ?_
  ·refine wp_region_sl [u_ 0 48, u_ 1 49, u_ 2 50, u_ 3 51, u_ 4 52, u_ 5 53, u_ 6 54, u_ 7 55, u_ 8 56, u_ 9 57, u_ 10 58, u_ 11 59, u_ 12 60, u_ 13 61, u_ 14 62, u_ 15 63, u_ 16 64, u_ 17 65, u_ 18 66, u_ 19 47]
        [m_ 48 6 83,
        .one ⟨true, some 49, (.binOp .neq 83 (.tmp 48) (.const (.pointer none)) 83), 4, none⟩,
        m_ 50 49 4,
        .one ⟨true, some 51, (.move (.tmp 6)), 83, some (50, true)⟩,
        .one ⟨true, some 52, (.nilCheck (.tmp 51)), 0, some (50, true)⟩,
        .one ⟨true, some 53, (.fieldAddr 88 (.tmp 52) 3), 0, some (50, true)⟩,
        .one ⟨true, some 54, (.load 4 (.tmp 53)), 4, some (50, true)⟩,
        .one ⟨true, some 55, (.pick (.tmp 50) (.tmp 54) (.const (.bool false))), 4, none⟩,
        m_ 56 55 4,
        .one ⟨true, some 57, (.move (.tmp 6)), 83, some (56, true)⟩,
        .one ⟨true, some 58, (.fieldAddr 42 (.tmp 3) 1), 0, some (56, true)⟩,
        .one ⟨true, some 59, (.load 5 (.tmp 58)), 5, some (56, true)⟩,
        .one ⟨true, some 60, (.nilCheck (.tmp 57)), 0, some (56, true)⟩,
        .one ⟨true, some 61, (.fieldAddr 88 (.tmp 60) 5), 0, some (56, true)⟩,
        .one ⟨true, some 62, (.indexAddr 86 (.tmp 61) (.tmp 59)), 0, some (56, true)⟩,
        .one ⟨true, some 63, (.fieldAddr 85 (.tmp 62) 0), 0, some (56, true)⟩,
        .one ⟨true, some 64, (.load 4 (.tmp 63)), 4, some (56, true)⟩,
        .one ⟨true, some 65, (.unOp .not 4 (.tmp 64)), 4, some (56, true)⟩,
        .one ⟨true, some 66, (.pick (.tmp 56) (.tmp 65) (.const (.bool false))), 4, none⟩,
        .one ⟨true, some 47, (.assign (.tmp 66)), 4, none⟩]
        (fun v => Sat w0 v [stA 42 bg (mgV s k t g Ao no co Ar rs.length cr), glA (bx, G)]) rfl (by kernel_rfl) (by kernel_rfl) ?_ ?_
   ·exact S.drew.firsts [_, _]
   have S := S.drew
   have hS : Sat w0 _ [stA 42 bg (mgV s k t g Ao no co Ar rs.length cr), glA (bx, G)] := S.firsts [_, _]
   (repeat (first | refine sl_run oCh_ 1 rfl fr fun a fr => ?_ | refine sl_ldf oCh_ (fun _ S => Sat.stAt S 0 rfl rfl) fr rfl rfl rfl rfl rfl rfl rfl rfl (by assumption) fun a fr => ?_ | refine sl_ldf oCh_ (fun _ S => Sat.stAt S 1 rfl rfl) fr rfl rfl rfl rfl rfl rfl rfl rfl (by assumption) fun a fr => ?_))
   refine bs 56 fr rfl (fun q8 fr => ?_) (fun q8 fr => ?_)
   ·(repeat (first | refine sl_run oCh_ 1 rfl fr fun a fr => ?_ | refine sl_ldf oCh_ (fun _ S => Sat.stAt S 0 rfl rfl) fr rfl rfl rfl rfl rfl rfl rfl rfl (by assumption) fun a fr => ?_ | refine sl_ldf oCh_ (fun _ S => Sat.stAt S 1 rfl rfl) fr rfl rfl rfl rfl rfl rfl rfl rfl (by assumption) fun a fr => ?_))
    refine sl_ixa oCh_ fr rfl rfl rfl rfl rfl rfl rfl rfl rfl ⟨by omega, by omega⟩ fun a fr => ?_
    repeat refine sl_run oCh_ 1 rfl fr fun a fr => ?_
    refine sl_ldf oCh_ (v := .bool G.v[k].part) (fun w9 S => ⟨(show w9.cell? ((((⟨bx, 0, none⟩ : Addr).add 5).add (k * 4)).add 0) = some (.bool G.v[k].part) by rw [vt_addr]; exact (Sat.stAt S 1 rfl (gl_at (j := 0) hkv rfl)).1), rfl⟩) fr rfl rfl rfl rfl rfl rfl rfl rfl hS fun a fr => ?_
    repeat refine sl_run oCh_ 1 rfl fr fun a fr => ?_
    refine sl_end ?_
    repeat with_reducible refine then_n ?_
    rw [hpk, q8]
    exact ⟨fr.sub ⟨rfl, rfl, rfl, rfl, rfl, trivial⟩, S⟩
   ·(repeat (first | refine sl_run oCh_ 1 rfl fr fun a fr => ?_ | refine sl_ldf oCh_ (fun _ S => Sat.stAt S 0 rfl rfl) fr rfl rfl rfl rfl rfl rfl rfl rfl (by assumption) fun a fr => ?_ | refine sl_ldf oCh_ (fun _ S => Sat.stAt S 1 rfl rfl) fr rfl rfl rfl rfl rfl rfl rfl rfl (by assumption) fun a fr => ?_))
    refine sl_end ?_
    repeat with_reducible refine then_n ?_
    rw [hpk, q8]
    exact ⟨fr.sub ⟨rfl, rfl, rfl, rfl, rfl, trivial⟩, S⟩
  clear fr S
  rintro a w6 ⟨fr, S⟩
  refine bs 47 fr rfl (fun q8 fr => ?_) (fun q8 fr => ?_)
  ·refine q_ rfl ?_
   refine cw_t fr rfl ?_
   refine r_ rfl ?_
   repeat refine w_ oCh_ rfl fr fun a fr => ?_
   first | refine e_ ?_ | refine wpList_nil ?_
   refine wp_ret ?_
   try simp only [Exit.then, Exit.inBlock]
   refine nope fr rfl rfl rfl (same ?_) ?_ (home S)
   ·unfold cameG; rw [part0]; exact if_pos q8
   ·rw [eO]; unfold cameGO; rw [part0]; rw [if_pos (show ((gl0 G).kn && !partAt G (k : Int).toNat) = true from q8)]
  have eG : cameG (ss0 gs m x D) (gl0 G) j s k (rawL rs) = if (G.ph == 1) = true then putC (ss0 gs m x D) j (doingC (ofC (ss0 gs m x D) (gl0 G)) s k (rawL rs)) else if asks s then ss0 gs m x D else if (s == 6) = true then putC (ss0 gs m x D) j (doneC (ofC (ss0 gs m x D) (gl0 G)) k) else ss0 gs m x D := by
   unfold cameG; rw [part0, if_neg (show ¬ ((gl0 G).kn && !partAt G (k : Int).toNat) = true by rw [show ((gl0 G).kn && !partAt G (k : Int).toNat) = false from q8]; decide)]; rfl
  have eGO : cameGO (ss0 gs m x D) (gl0 G) s k (rawL rs) = if (G.ph == 1) = true then doingO (ofC (ss0 gs m x D) (gl0 G)) s k (rawL rs) else if asks s then [((if G.com = true then 4 else 5), (k : Int), G.g)] else [] := by
   unfold cameGO; rw [part0, if_neg (show ¬ ((gl0 G).kn && !partAt G (k : Int).toNat) = true by rw [show ((gl0 G).kn && !partAt G (k : Int).toNat) = false from q8]; decide)]; rfl
  refine q_ rfl ?_
  refine cw_f fr rfl ?_
  refine r_ rfl ?_
  (repeat (first | refine wl_run oCh_ 1 rfl fr fun a fr => ?_ | refine wl_ldf oCh_ (Sat.stAt S 0 rfl rfl) fr rfl rfl rfl rfl rfl rfl rfl fun a fr => ?_ | refine wl_ldf oCh_ (Sat.stAt S 1 rfl rfl) fr rfl rfl rfl rfl rfl rfl rfl fun a fr => ?_))
  first | refine e_ ?_ | refine wpList_nil ?_
  refine bs 67 fr rfl (fun q9 fr => ?_) (fun q9 fr => ?_)
  ·have q9 : (G.ph == 1) = true := q9
   rw [if_pos q9] at eG eGO
   refine q_ rfl ?_
   refine cw_t fr rfl ?_
   refine r_ rfl ?_
   repeat refine w_ oCh_ rfl fr fun a fr => ?_
   refine wl_ldsub oCh_ (cs := mgV s k t g Ao no co Ar rs.length cr) (fun j u hu => (Sat.stAt S 0 rfl hu).1) (hmg.ok Ao Ar) fr rfl rfl rfl rfl rfl rfl rfl rfl fun a fr => ?_
   have S : Sat w0 w6 (chL b bl bm last bk bw now bd bx ⟨G, m, x, D⟩ R1) := (((((((S.frontAt 1 rfl).frontAt 6 rfl).frontAt 6 rfl).frontAt 6 rfl).frontAt 6 rfl).frontAt 6 rfl).frontAt 6 rfl).tl
   refine wl_call fr rfl rfl rfl rfl enDoing (doing_call ⟨G, m, x, D⟩ hk4 rfl hmg hR1 hW hrb hrr h4G hb S) ?_
   rintro _ w7 ⟨A7, c7, A8, c8, rfl, hv7, S⟩
   refine ⟨_, rfl, hv7, fun a fr => ?_⟩
   repeat refine w_ oCh_ rfl fr fun a fr => ?_
   first | refine e_ ?_ | refine wpList_nil ?_
   refine wp_ret ?_
   try simp only [Exit.then, Exit.inBlock]
   refine ret2 fr rfl rfl rfl (fin (doingC_g _ _ _ _) (hIG.doing (C := ⟨G, m, x, D⟩) s k (l := (A8, c8, rawL rs)) hRB) ?_ ?_ hv7 S)
   ·rw [eG, doing0]; rfl
   ·rw [eGO, ← doingO0]; rfl
  have q9 : (G.ph == 1) = false := q9
  rw [if_neg (by rw [q9]; decide)] at eG eGO
  refine q_ rfl ?_
  refine cw_f fr rfl ?_
  refine r_ rfl ?_
  repeat refine w_ oCh_ rfl fr fun a fr => ?_
  refine eq_ rfl rfl ?_
  refine cw_t fr rfl ?_
  refine r_ rfl ?_
  repeat refine w_ oCh_ rfl fr fun a fr => ?_
  refine wl_makeb (xs := [.pointer (some ⟨bx, 0, none⟩)]) fr rfl rfl rfl rfl rfl fun a fr => ?_
  repeat refine w_ oCh_ rfl fr fun a fr => ?_
  refine er_ rfl rfl ?_
  (repeat (first | refine wl_run oCh_ 1 rfl fr fun a fr => ?_ | refine wl_ldf oCh_ (Sat.stAt S 0 rfl rfl) fr rfl rfl rfl rfl rfl rfl rfl fun a fr => ?_))
  refine bs 89 fr rfl (fun q6 fr => ?_) (fun q6 fr => ?_)
  ·have ha : asks s = true := by unfold asks; rw [q6]; rfl
   (repeat (first | refine wl_run oCh_ 1 rfl fr fun a fr => ?_ | refine wl_ldf oCh_ (Sat.stAt S 0 rfl rfl) fr rfl rfl rfl rfl rfl rfl rfl fun a fr => ?_))
   (
  refine eq_ rfl rfl ?_
  refine cw_t fr rfl ?_
  refine r_ rfl ?_
  (repeat (first | refine wl_run oCh_ 1 rfl fr fun a fr => ?_ | refine wl_ldf oCh_ (Sat.stAt S 0 rfl rfl) fr rfl rfl rfl rfl rfl rfl rfl fun a fr => ?_))
  refine wl_callb (fb := [.pointer (some ⟨bx, 0, none⟩)]) fr rfl rfl rfl rfl rfl rfl rfl enDecided (decided_call hmg.f (S.frontAt 1 rfl)) ?_
  rintro _ w7 ⟨A7, c7, rfl, hv7, S⟩
  refine ⟨_, rfl, hv7, fun a fr => ?_⟩
  repeat refine w_ oCh_ rfl fr fun a fr => ?_
  first | refine e_ ?_ | refine wpList_nil ?_
  refine wp_ret ?_
  try simp only [Exit.then, Exit.inBlock]
  rw [if_pos ha] at eG eGO
  rw [eS, eO, eG, eGO]
  have S : Sat w0 w7 (stA 42 bg (mgV s k t g Ao no co Ar rs.length cr) :: pmA A7 c7 [((if G.com = true then 4 else 5), (k : Int), G.g)] :: chL b bl bm last bk bw now bd bx ⟨G, m, x, D⟩ R1) := ((((((((S.frontAt 1 rfl).frontAt 7 rfl).frontAt 7 rfl).frontAt 7 rfl).frontAt 7 rfl).frontAt 7 rfl).frontAt 6 rfl).frontAt 7 rfl)
  exact ret2 fr rfl rfl rfl ⟨A7, c7, gs, rfl, vok_t2 hv7 rfl, rfl, hI, rfl, S.tl.perm (List.Perm.cons _ back)⟩
)
  (repeat (first | refine wl_run oCh_ 1 rfl fr fun a fr => ?_ | refine wl_ldf oCh_ (Sat.stAt S 0 rfl rfl) fr rfl rfl rfl rfl rfl rfl rfl fun a fr => ?_))
  refine bs 93 fr rfl (fun q7 fr => ?_) (fun q7 fr => ?_)
  ·have ha : asks s = true := by unfold asks; rw [q6, q7]; rfl
   (
  refine eq_ rfl rfl ?_
  refine cw_t fr rfl ?_
  refine r_ rfl ?_
  (repeat (first | refine wl_run oCh_ 1 rfl fr fun a fr => ?_ | refine wl_ldf oCh_ (Sat.stAt S 0 rfl rfl) fr rfl rfl rfl rfl rfl rfl rfl fun a fr => ?_))
  refine wl_callb (fb := [.pointer (some ⟨bx, 0, none⟩)]) fr rfl rfl rfl rfl rfl rfl rfl enDecided (decided_call hmg.f (S.frontAt 1 rfl)) ?_
  rintro _ w7 ⟨A7, c7, rfl, hv7, S⟩
  refine ⟨_, rfl, hv7, fun a fr => ?_⟩
  repeat refine w_ oCh_ rfl fr fun a fr => ?_
  first | refine e_ ?_ | refine wpList_nil ?_
  refine wp_ret ?_
  try simp only [Exit.then, Exit.inBlock]
  rw [if_pos ha] at eG eGO
  rw [eS, eO, eG, eGO]
  have S : Sat w0 w7 (stA 42 bg (mgV s k t g Ao no co Ar rs.length cr) :: pmA A7 c7 [((if G.com = true then 4 else 5), (k : Int), G.g)] :: chL b bl bm last bk bw now bd bx ⟨G, m, x, D⟩ R1) := ((((((((S.frontAt 1 rfl).frontAt 7 rfl).frontAt 7 rfl).frontAt 7 rfl).frontAt 7 rfl).frontAt 7 rfl).frontAt 6 rfl).frontAt 7 rfl)
  exact ret2 fr rfl rfl rfl ⟨A7, c7, gs, rfl, vok_t2 hv7 rfl, rfl, hI, rfl, S.tl.perm (List.Perm.cons _ back)⟩
)
  have ha : asks s = false := by unfold asks; rw [q6, q7]; rfl
  rw [if_neg (by rw [ha]; decide)] at eG eGO
  refine eq_ rfl rfl ?_
  refine cw_f fr rfl ?_
  refine wp_skip ?_
  refine r_ rfl ?_
  (repeat (first | refine wl_run oCh_ 1 rfl fr fun a fr => ?_ | refine wl_ldf oCh_ (Sat.stAt S 0 rfl rfl) fr rfl rfl rfl rfl rfl rfl rfl fun a fr => ?_))
  first | refine e_ ?_ | refine wpList_nil ?_
  refine bs 104 fr rfl (fun q10 fr => ?_) (fun q10 fr => ?_)
  ·have q10 : (s == 6) = true := q10
   rw [if_pos q10] at eG
   refine q_ rfl ?_
   refine cw_t fr rfl ?_
   refine r_ rfl ?_
   (repeat (first | refine wl_run oCh_ 1 rfl fr fun a fr => ?_ | refine wl_ldf oCh_ (Sat.stAt S 0 rfl rfl) fr rfl rfl rfl rfl rfl rfl rfl fun a fr => ?_))
   have S := ((((((S.frontAt 6 rfl).frontAt 6 rfl).frontAt 3 rfl).frontAt 6 rfl).frontAt 6 rfl).frontAt 6 rfl)
   refine wl_call fr rfl rfl rfl rfl enDone (done_call hk4 h4G hb S) ?_
   rintro _ w7 ⟨rfl, S⟩
   refine ⟨_, rfl, rfl, fun a fr => ?_⟩
   repeat refine w_ oCh_ rfl fr fun a fr => ?_
   refine er_ rfl rfl ?_
   repeat refine w_ oCh_ rfl fr fun a fr => ?_
   first | refine e_ ?_ | refine wpList_nil ?_
   refine wp_ret ?_
   try simp only [Exit.then, Exit.inBlock]
   refine ret2 fr rfl rfl rfl (fin (A' := none) (c' := 0) (os := []) (K := doneC ⟨G, m, x, D⟩ k) (doneM_g _ _) (hIG.doneM k) ?_ ?_ rfl (noPm ?_))
   ·rw [eG, doneC0]; rfl
   ·rw [eGO]
   ·have S : Sat w0 w7 (stA 42 bg (mgV s k t g Ao no co Ar rs.length cr) :: chL b bl bm last bk bw now bd bx (doneC ⟨G, m, x, D⟩ k) (glM bm gs :: (gsT (gs.eraseIdx j) ++ R))) := by
     have S := (((((((S.frontAt 3 rfl).frontAt 5 rfl).frontAt 5 rfl).frontAt 5 rfl).frontAt 5 rfl).frontAt 5 rfl).frontAt 6 rfl)
     have e1 : glR (bx, G) = glR (bx, doneM G k) := (doneM_R G k bx).symm
     rw [e1] at S
     rw [hRR]
     exact S
    rw [hRR] at S
    exact S.tl
  rw [if_neg (by rw [show (s == 6) = false from q10]; decide)] at eG
  refine q_ rfl ?_
  refine cw_f fr rfl ?_
  refine wp_skip ?_
  refine r_ rfl ?_
  repeat refine w_ oCh_ rfl fr fun a fr => ?_
  first | refine e_ ?_ | refine wpList_nil ?_
  refine wp_ret ?_
  try simp only [Exit.then, Exit.inBlock]
  exact nope fr rfl rfl rfl (same eG) (by rw [eO, eGO]) (home S)
end
section
variable {P : Program} {T : Orc} {ops : Array Oper} {Q : Exit → Act → World → Prop} {Df : List Deferred} {N : Nat} {a : Act} {w w0 : World} {L : Env} {R : List Asn}
theorem cw_any {c : Code} (M : Act → World → Prop) (hx : c.wp P (fun e a w => e = .normal ∧ M a w) a w) (hy : ∀ a w, M a w → Q .normal a w) : c.wp P Q a w :=
 wp_mono hx fun e a w h => by obtain ⟨rfl, h⟩ := h; exact hy _ _ h
theorem wl_pmapp {o : Oper} {rest : List Oper} {d : Nat} {x y : Operand} {A Y : Option Addr} {c cy cy' : Nat} {l1 l2 : List PM} (fr : FrD Df N a L) (hw : wantL ops L o = some true) (hd : o.dst = some d) (hlt : Nat.blt d N = true)
  (ho : o.op = .call { callee := .builtin .append, args := #[x, y], argTypes := #[27, 27] }) (hx : ev L x = some (.slice A l1.length c)) (hy : ev L y = some (.slice Y l2.length cy)) (hb : l1.length + l2.length ≤ 1000000000000) (S : Sat w0 w (pmA A c l1 :: pmA Y cy' l2 :: R))
  (h : ∀ w' A2 c2, Sat w0 w' (pmA A2 c2 (l1 ++ l2) :: R) → ∀ a', FrD Df N a' ((d, .slice A2 (l1 ++ l2).length c2) :: L) → wpList Tryz.prog ops Q rest a' w') : wpList Tryz.prog ops Q (o :: rest) a w := by
 have h2 := Sat.rvAt S 1 rfl
 refine wl_rvappm (z := 6) (bytes := 56) (m := l2.length) (news := l2.flatMap pmV) Tryz.underlying27 (by kernel_rfl) rfl rfl fr hw hd hlt ho hx hy h2.1 h2.2.2.1 (fun ad' h j u hu => ?_) (fun u hu => ⟨?_, h2.2.2.2.1 u hu⟩) hb S ?_
 ·obtain ⟨g', rfl, hrg⟩ := h2.2.2.2.2 ad' h
  have := hrg j u hu
  rw [Nat.zero_add] at this
  rw [addr0]; exact this
 ·obtain ⟨x, -, hv⟩ := List.mem_flatMap.1 hu
  simp only [pmV, List.mem_cons, List.not_mem_nil, or_false] at hv
  rcases hv with rfl | rfl | rfl | rfl | rfl | rfl <;> rfl
 ·intro w' A2 c2 S a fr
  have e1 : l1.flatMap pmV ++ l2.flatMap pmV = (l1 ++ l2).flatMap pmV := (List.flatMap_append).symm
  rw [e1, ← List.length_append] at S
  rw [← List.length_append] at fr
  exact h w' A2 c2 ((S.frontAt 1 rfl).tl) a fr
end
section
variable {α : Type}
def tickG (C : Ss α) (due : List Int) (g : Int) : Ss α :=
 match findG C.gs g with
 | none => C
 | some p => if (p.2.ph == 1 && hasI due g) = true then putC C p.1 ⟨abortG p.2, delM C.m p.2.g, C.x, C.D⟩ else C
def tickGO (C : Ss α) (due : List Int) (g : Int) : List PM :=
 match findG C.gs g with
 | none => []
 | some p => if (p.2.ph == 1 && hasI due g) = true then toM 5 p.2.g (sites allV p.2) else if (p.2.ph == 3) = true then toM 4 p.2.g (sites notDone p.2) else []
def tickF (due : List Int) (q : Ss α × List PM) (g : Int) : Ss α × List PM := (tickG q.1 due g, q.2 ++ tickGO q.1 due g)
def tickAll (C : Ss α) (now : Int) : Ss α × List PM :=
 (risen (C.gs.map (·.g))).foldl (tickF (Clk.due now C.m)) ({ C with m := (Clk.due now C.m).foldl delM C.m }, [])
theorem fold_take {β γ : Type} (f : β → γ → β) (z : β) {l : List γ} {i : Nat} (hi : i < l.length) : (l.take (i + 1)).foldl f z = f ((l.take i).foldl f z) l[i] := by
 rw [List.take_succ_eq_append_getElem hi, List.foldl_append]
 rfl
end
theorem keys_gs (gs : Gs) : keysM (keysG gs) = gs.map fun p => p.2.g := by
 unfold keysM keysG
 rw [List.map_map]
 rfl
theorem idx_mem {gs : Gs} {g : Int} (h : g ∈ keysM (keysG gs)) : ∃ j, idxG (gs.map (·.2)) g = some j := by
 cases hi : idxG (gs.map (·.2)) g with
 | some j => exact ⟨j, rfl⟩
 | none =>
  rw [keys_gs] at h
  obtain ⟨p, hp, rfl⟩ := List.mem_map.1 h
  exact absurd rfl (idxG_none hi p.2 (List.mem_map.2 ⟨p, hp, rfl⟩))
theorem enTickC : Enters Tryz.prog 9 := fun _ _ => by kernel_rfl
theorem enSorted : Enters Tryz.prog 24 := fun _ _ => by kernel_rfl
theorem enKeys : Enters Tryz.prog 25 := fun _ _ => by kernel_rfl
section
variable {w w0 : World} {R : List Asn} {b bl bm bk bw bd : Nat} {last now x : Int} {m : List (Int × Int)} {gs : Gs} {D : Dk}
theorem tick_call (hI : ∀ p ∈ gs, GlI p.2) (hm : m.length ≤ 1000) (hgs : gs.length ≤ 1000) (S : Sat w0 w (chW b bl bm last bk bw now bd gs m x D R)) :
  Calls Tryz.prog 9 #[.pointer (some ⟨b, 0, none⟩)] w fun e w' => ∃ (A' : Option Addr) (c' : Nat) (gs' : Gs), e = .returned (.tuple #[.slice A' (tickAll (ss0 gs m x D) (IntKind.wrap .i64 (now + 1))).2.length (tickAll (ss0 gs m x D) (IntKind.wrap .i64 (now + 1))).2.length, .int .i64 0]) ∧ vok (.tuple #[.slice A' (tickAll (ss0 gs m x D) (IntKind.wrap .i64 (now + 1))).2.length (tickAll (ss0 gs m x D) (IntKind.wrap .i64 (now + 1))).2.length, .int .i64 0]) = true ∧
   ss0 gs' (tickAll (ss0 gs m x D) (IntKind.wrap .i64 (now + 1))).1.m x D = (tickAll (ss0 gs m x D) (IntKind.wrap .i64 (now + 1))).1 ∧ (∀ p ∈ gs', GlI p.2) ∧ keysG gs' = keysG gs ∧ Sat w0 w' (pmA A' c' (tickAll (ss0 gs m x D) (IntKind.wrap .i64 (now + 1))).2 :: chW b bl bm last bk bw (IntKind.wrap .i64 (now + 1)) bd gs' (tickAll (ss0 gs m x D) (IntKind.wrap .i64 (now + 1))).1.m x D R) := by
 refine calls_start (N := 64) [.pointer (some ⟨b, 0, none⟩)] Tryz.func9 rfl rfl rfl (vok_c rfl rfl) fun a fr => ?_
 have S : Sat w0 w (chS b bl bm last bk :: logA bl bd x :: diskA bd D :: ckS bk bw now :: ckM bw m :: glM bm gs :: (gsT gs ++ R)) := S
 refine r_ rfl ?_
 repeat refine w_ oCh_ rfl fr fun a fr => ?_
 refine er_ rfl rfl ?_
 repeat refine w_ oCh_ rfl fr fun a fr => ?_
 refine wl_call fr rfl rfl rfl rfl enChThere (chthere_call S) ?_
 rintro _ w1 ⟨rfl, rfl⟩
 refine ⟨_, rfl, rfl, fun a fr => ?_⟩
 repeat refine w_ oCh_ rfl fr fun a fr => ?_
 refine eq_ rfl rfl ?_
 refine cw_f fr rfl ?_
 refine wp_skip ?_
 refine r_ rfl ?_
 (repeat (first | refine wl_run oCh_ 1 rfl fr fun a fr => ?_ | refine wl_ldf oCh_ (Sat.stAt S 0 rfl rfl) fr rfl rfl rfl rfl rfl rfl rfl fun a fr => ?_))
 have S := ((((((S.frontAt 5 rfl).frontAt 3 rfl).frontAt 3 rfl).frontAt 3 rfl).frontAt 5 rfl).frontAt 5 rfl)
 refine wl_call fr rfl rfl rfl rfl enCkTick (cktick_call hm S) ?_
 rintro _ w2 ⟨A2, c2, rfl, hv2, S⟩
 obtain ⟨now', hnow⟩ : ∃ z, z = IntKind.wrap .i64 (now + 1) := ⟨_, rfl⟩
 rw [← hnow] at hv2 S ⊢
 obtain ⟨due, hdue⟩ : ∃ l, l = Clk.due now' m := ⟨_, rfl⟩
 refine ⟨_, rfl, hv2, fun a fr => ?_⟩
 rw [← hdue] at fr S
 repeat refine w_ oCh_ rfl fr fun a fr => ?_
 first | refine e_ ?_ | refine wpList_nil ?_
 have S : Sat w0 w2 (ownA .u32 31 A2 c2 due :: chS b bl bm last bk :: logA bl bd x :: diskA bd D :: ckS bk bw now' :: ckM bw (due.foldl delM m) :: glM bm gs :: (gsT gs ++ R)) := (((((((S.frontAt 6 rfl).frontAt 3 rfl).frontAt 3 rfl).frontAt 6 rfl).frontAt 6 rfl).frontAt 6 rfl).frontAt 6 rfl)
 refine r_ rfl ?_
 (repeat (first | refine wl_run oCh_ 1 rfl fr fun a fr => ?_ | refine wl_ldf oCh_ (Sat.stAt S 0 rfl rfl) fr rfl rfl rfl rfl rfl rfl rfl fun a fr => ?_ | refine wl_ldf oCh_ (Sat.stAt S 1 rfl rfl) fr rfl rfl rfl rfl rfl rfl rfl fun a fr => ?_))
 refine wl_call fr rfl rfl rfl rfl enKeys (keys_call S) ?_
 rintro _ w3 ⟨by_, rfl, S⟩
 refine ⟨_, rfl, rfl, fun a fr => ?_⟩
 have S := ((((((((S.frontAt 6 rfl).frontAt 6 rfl).frontAt 6 rfl).frontAt 6 rfl).frontAt 6 rfl).frontAt 6 rfl).frontAt 7 rfl).frontAt 7 rfl)
 refine wl_call fr rfl rfl rfl rfl enSorted (sorted_walk (by unfold keysG; rw [List.length_map]; exact hgs) S) ?_
 rintro _ w4 ⟨A3, c3, rfl, hv3, S⟩
 have hm3 := S.own.2
 obtain ⟨kl, hkl⟩ : ∃ l, l = risen (keysM (keysG gs)) := ⟨_, rfl⟩
 refine ⟨_, rfl, hv3, fun a fr => ?_⟩
 rw [← hkl] at fr S hm3
 have hkle : kl.length ≤ 1000 := by
  rw [hkl]
  unfold risen
  rw [List.length_mergeSort, keys_gs, List.length_map]
  exact hgs
 have hall : tickAll (ss0 gs m x D) now' = kl.foldl (tickF due) (ss0 gs (due.foldl delM m) x D, []) := by
  unfold tickAll
  rw [hkl, hdue, keys_gs]
  show (risen ((gs.map fun p => gl0 p.2).map (·.g))).foldl _ _ = _
  rw [List.map_map]
  rfl
 rw [hall]
 repeat refine w_ oCh_ rfl fr fun a fr => ?_
 first | refine e_ ?_ | refine wpList_nil ?_
 have S : Sat w0 w4 (pmA none 0 [] :: ownA .u32 31 A3 c3 kl :: ownA .u32 31 A2 c2 due :: chS b bl bm last bk :: logA bl bd x :: diskA bd D :: ckS bk bw now' :: ckM bw (due.foldl delM m) :: glM bm gs :: (gsT gs ++ R)) := noPm ((((((((S.frontAt 1 rfl).frontAt 7 rfl).frontAt 7 rfl).frontAt 7 rfl).frontAt 7 rfl).frontAt 7 rfl).frontAt 7 rfl).frontAt 7 rfl)
 refine q_ rfl ?_
 refine wp_block ?_
 refine cw_loop (fun q a w2 => ∃ (i : Nat) (A1 : Option Addr) (c1 : Nat) (os : List PM) (gs' : Gs) (m' : List (Int × Int)), i + q = kl.length + 1 ∧ i ≤ kl.length ∧ (kl.take i).foldl (tickF due) (ss0 gs (due.foldl delM m) x D, []) = (ss0 gs' m' x D, os) ∧ os.length ≤ 4 * i ∧ (∀ p ∈ gs', GlI p.2) ∧ keysG gs' = keysG gs ∧ Fr 64 a [(0, .pointer (some ⟨b, 0, none⟩)), (2, .slice A1 os.length c1), (4, .slice A2 due.length c2), (21, .slice A3 kl.length c3), (22, .int .i64 (kl.length : Int)), (23, .int .i64 (i : Int))] ∧ Sat w0 w2 (pmA A1 c1 os :: ownA .u32 31 A3 c3 kl :: ownA .u32 31 A2 c2 due :: chS b bl bm last bk :: logA bl bd x :: diskA bd D :: ckS bk bw now' :: ckM bw m' :: glM bm gs' :: (gsT gs' ++ R))) (kl.length + 1)
  ⟨0, none, 0, [], gs, due.foldl delM m, by omega, by omega, rfl, by simp, hI, rfl, fr.sub ⟨rfl, rfl, rfl, rfl, rfl, rfl, trivial⟩, S⟩ ?_ ?_
 ·rintro a w2 ⟨i, _, _, _, _, _, h, h', -⟩
  omega
 clear fr S
 rintro q a w5 ⟨i, A1, c1, os, gs', m', hi, hi', hos, hol, hI', hK, fr, S⟩
 refine r_ rfl ?_
 repeat refine w_ oCh_ rfl fr fun a fr => ?_
 first | refine e_ ?_ | refine wpList_nil ?_
 by_cases hlt : i < kl.length
 rotate_left
 ·have fr := fr.bool (d := 24) rfl (decide_eq_false (show ¬ (i : Int) < (kl.length : Int) by omega))
  obtain rfl : i = kl.length := by omega
  rw [List.take_length] at hos
  rw [hos]
  refine q_ rfl ?_
  refine cw_f fr rfl ?_
  refine wp_exit ?_
  refine xr_ rfl rfl ?_
  repeat refine w_ oCh_ rfl fr fun a fr => ?_
  have hm2 := (Sat.rvAt S 0 rfl).2.1
  refine wl_call fr rfl rfl rfl rfl enClipMsg (clipMsg_call hm2) ?_
  rintro _ w6 ⟨rfl, rfl⟩
  refine ⟨_, rfl, vok_clip hm2, fun a fr => ?_⟩
  repeat refine w_ oCh_ rfl fr fun a fr => ?_
  first | refine e_ ?_ | refine wpList_nil ?_
  refine wp_ret ?_
  exact ret2 fr rfl rfl rfl ⟨A1, c1, gs', rfl, vok_t2 (vok_clip hm2) rfl, rfl, hI', hK, (S.frontAt 2 rfl).tl.frontAt 1 rfl |>.tl⟩
 have fr := fr.bool (d := 24) rfl (decide_eq_true (show (i : Int) < (kl.length : Int) by omega))
 refine q_ rfl ?_
 refine cw_t fr rfl ?_
 refine wp_skip ?_
 with_reducible refine then_n ?_
 obtain ⟨g, hg⟩ : ∃ g, g = kl[i] := ⟨_, rfl⟩
 have hge : kl.getD i 0 = g := by rw [List.getD_eq_getElem?_getD, List.getElem?_eq_getElem hlt, hg]; rfl
 have hgm : g ∈ keysM (keysG gs') := by
  rw [hK]
  have h1 : g ∈ kl := by rw [hg]; exact List.getElem_mem hlt
  rw [hkl] at h1
  exact (List.mergeSort_perm _ _).mem_iff.1 h1
 obtain ⟨j, hix⟩ := idx_mem hgm
 obtain ⟨hj, h1, h2⟩ := lkG_at hix
 obtain ⟨bx, hbx⟩ : ∃ bx, bx = gs'[j].1 := ⟨_, rfl⟩
 obtain ⟨G, hG⟩ : ∃ G, G = gs'[j].2 := ⟨_, rfl⟩
 have hIG : GlI G := by rw [hG]; exact hI' _ (List.getElem_mem hj)
 have h4G := hIG.len
 have hGg : G.g = g := by rw [hG]; exact h2
 have hfd : findG (ss0 gs' m' x D).gs g = some (j, gl0 G) := by
  show ((idxG (gs'.map fun p => gl0 p.2) g).bind _) = _
  rw [idx0, hix]
  show ((gs'.map fun p => gl0 p.2)[j]?).map _ = _
  rw [List.getElem?_map, List.getElem?_eq_getElem hj, hG]
  rfl
 have hos2 := (fold_take (tickF due) (ss0 gs (due.foldl delM m) x D, []) hlt).trans (congrArg (fun q => tickF due q kl[i]) hos)
 rw [← hg] at hos2
 have back : (chL b bl bm last bk bw now' bd bx ⟨G, m', x, D⟩ (glM bm gs' :: (gsT (gs'.eraseIdx j) ++ R))).Perm (chW b bl bm last bk bw now' bd gs' m' x D R) := by
  have := unfocus_perm (R := R) (b := b) (bl := bl) (bm := bm) (last := last) (bk := bk) (bw := bw) (now := now') (bd := bd) hj (C := ⟨G, m', x, D⟩) (by rw [hG])
  rw [show gs'.set j (gs'[j].1, (⟨G, m', x, D⟩ : Cs RawV).G) = gs' by show gs'.set j (gs'[j].1, G) = gs'; rw [hG]; exact List.set_getElem_self hj, ← hbx] at this
  exact this
 refine q_ rfl ?_
 refine wp_block ?_
 refine r_ rfl ?_
 refine wl_ld oCh_ (Sat.ownAt S 1 rfl) fr rfl rfl rfl rfl rfl rfl rfl rfl rfl rfl rfl rfl rfl rfl rfl rfl ⟨by omega, by omega⟩ fun a fr => ?_
 rw [Int.toNat_natCast, hge] at fr
 repeat refine w_ oCh_ rfl fr fun a fr => ?_
 refine er_ rfl rfl ?_
 (repeat (first | refine wl_run oCh_ 1 rfl fr fun a fr => ?_ | refine wl_ldf oCh_ (Sat.stAt S 0 rfl rfl) fr rfl rfl rfl rfl rfl rfl rfl fun a fr => ?_ | refine wl_ldf oCh_ (Sat.stAt S 1 rfl rfl) fr rfl rfl rfl rfl rfl rfl rfl fun a fr => ?_ | refine wl_ldf oCh_ (Sat.stAt S 2 rfl rfl) fr rfl rfl rfl rfl rfl rfl rfl fun a fr => ?_ | refine wl_ldf oCh_ (Sat.stAt S 3 rfl rfl) fr rfl rfl rfl rfl rfl rfl rfl fun a fr => ?_))
 refine wl_lk (f := ptO) oCh_ (none : Option Nat) (fun _ => by kernel_rfl) rfl (Sat.mapAt S 8 rfl) fr rfl rfl rfl rfl rfl rfl rfl rfl fun a fr => ?_
 rw [h1] at fr
 have fr := fr.spell (d := 32) rfl (show ptO ((some (some gs'[j].1) : Option (Option Nat)).getD none) = .pointer (some ⟨bx, 0, none⟩) by rw [hbx]; rfl)
 repeat refine w_ oCh_ rfl fr fun a fr => ?_
 first | refine e_ ?_ | refine wpList_nil ?_
 have S : Sat w0 w5 ([pmA A1 c1 os, ownA .u32 31 A3 c3 kl, ownA .u32 31 A2 c2 due] ++ chW b bl bm last bk bw now' bd gs' m' x D R) := S
 have S := S.perm (List.Perm.append_left _ back.symm)
 have S : Sat w0 w5 (pmA A1 c1 os :: ownA .u32 31 A3 c3 kl :: ownA .u32 31 A2 c2 due :: chS b bl bm last bk :: logA bl bd x :: diskA bd D :: ckS bk bw now' :: ckM bw m' :: glA (bx, G) :: (glR (bx, G) ++ (glM bm gs' :: (gsT (gs'.eraseIdx j) ++ R)))) := S
 refine q_ rfl ?_
 refine cw_any (fun a w2 => ∃ (A1 : Option Addr) (c1 : Nat) (os' : List PM) (K : Cs RawV), K.G.g = G.g ∧ GlI K.G ∧ K.x = x ∧ K.D = D ∧ tickG (ss0 gs' m' x D) due g = putC (ss0 gs' m' x D) j (cs0 K) ∧ os' = os ++ tickGO (ss0 gs' m' x D) due g ∧ os'.length ≤ 4 * (i + 1) ∧ Fr 64 a [(0, .pointer (some ⟨b, 0, none⟩)), (2, .slice A1 os'.length c1), (4, .slice A2 due.length c2), (21, .slice A3 kl.length c3), (22, .int .i64 (kl.length : Int)), (23, .int .i64 (i : Int))] ∧ Sat w0 w2 (pmA A1 c1 os' :: ownA .u32 31 A3 c3 kl :: ownA .u32 31 A2 c2 due :: chL b bl bm last bk bw now' bd bx K (glM bm gs' :: (gsT (gs'.eraseIdx j) ++ R)))) ?_ ?_
 rotate_left
 ·clear fr S
  rintro a w6 ⟨A1, c1, os', K, k1, k2, k3, k4, k5, k6, k7, fr, S⟩
  refine r_ rfl ?_
  repeat refine w_ oCh_ rfl fr fun a fr => ?_
  first | refine e_ ?_ | refine wpList_nil ?_
  have fr := fr.spell (d := 23) rfl (congrArg (Value.int .i64) (i64_next hlt (by omega)))
  have hg2 : K.G.g = gs'[j].2.g := by rw [k1, hG]
  refine ⟨i + 1, A1, c1, os', gs'.set j (gs'[j].1, K.G), K.m, by omega, by omega, ?_, k7, ?_, (keys_set (p := (gs'[j].1, K.G)) hj rfl hg2).trans hK, fr.sub ⟨rfl, rfl, rfl, rfl, rfl, rfl, trivial⟩, ?_⟩
  ·rw [hos2]
   show (tickG (ss0 gs' m' x D) due g, os ++ tickGO (ss0 gs' m' x D) due g) = _
   rw [k5, ← k6]
   refine Prod.ext ?_ rfl
   show putC _ _ _ = ss0 _ _ _ _
   unfold putC ss0
   rw [List.map_set]
   show Ss.mk _ _ _ _ = Ss.mk _ _ _ _
   rw [show (cs0 K).x = x from k3, show (cs0 K).D = D from k4]
   rfl
  ·intro p hp
   rcases List.mem_or_eq_of_mem_set hp with hp | rfl
   ·exact hI' p hp
   ·exact k2
  ·have h9 := unfocus_perm (R := R) (b := b) (bl := bl) (bm := bm) (last := last) (bk := bk) (bw := bw) (now := now') (bd := bd) (C := K) hj hg2
   rw [← hbx] at h9
   have S : Sat w0 _ ([pmA A1 c1 os', ownA .u32 31 A3 c3 kl, ownA .u32 31 A2 c2 due] ++ chL b bl bm last bk bw now' bd bx K (glM bm gs' :: (gsT (gs'.eraseIdx j) ++ R))) := S
   have h10 := S.perm (List.Perm.append_left _ h9)
   rw [← hbx]
   rw [k3, k4] at h10
   exact h10
 have eG : tickG (ss0 gs' m' x D) due g = if (G.ph == 1 && hasI due g) = true then putC (ss0 gs' m' x D) j ⟨abortG (gl0 G), delM m' G.g, x, D⟩ else ss0 gs' m' x D := by
  unfold tickG; rw [hfd]; rfl
 have eGO : tickGO (ss0 gs' m' x D) due g = if (G.ph == 1 && hasI due g) = true then toM 5 G.g (sites allV G) else if (G.ph == 3) = true then toM 4 G.g (sites notDone G) else [] := by
  unfold tickGO; rw [hfd]; simp only [all0, ndone0]; rfl
 have hput : putC (ss0 gs' m' x D) j (cs0 ⟨G, m', x, D⟩) = ss0 gs' m' x D := by
  unfold putC ss0
  show Ss.mk _ _ _ _ = Ss.mk _ _ _ _
  have : (gs'.map fun p => gl0 p.2).set j (gl0 G) = gs'.map fun p => gl0 p.2 := by
   have h9 : (gs'.map fun p => gl0 p.2)[j]'(by simpa using hj) = gl0 G := by rw [List.getElem_map, hG]
   rw [← h9]
   exact List.set_getElem_self _
  rw [show (cs0 ⟨G, m', x, D⟩).G = gl0 G from rfl, this]
  rfl
 refine wp_block ?_
 refine r_ rfl ?_
 (repeat (first | refine wl_run oCh_ 1 rfl fr fun a fr => ?_ | refine wl_ldf oCh_ (Sat.stAt S 0 rfl rfl) fr rfl rfl rfl rfl rfl rfl rfl fun a fr => ?_ | refine wl_ldf oCh_ (Sat.stAt S 1 rfl rfl) fr rfl rfl rfl rfl rfl rfl rfl fun a fr => ?_ | refine wl_ldf oCh_ (Sat.stAt S 2 rfl rfl) fr rfl rfl rfl rfl rfl rfl rfl fun a fr => ?_ | refine wl_ldf oCh_ (Sat.stAt S 3 rfl rfl) fr rfl rfl rfl rfl rfl rfl rfl fun a fr => ?_ | refine wl_ldf oCh_ (Sat.stAt S 4 rfl rfl) fr rfl rfl rfl rfl rfl rfl rfl fun a fr => ?_ | refine wl_ldf oCh_ (Sat.stAt S 5 rfl rfl) fr rfl rfl rfl rfl rfl rfl rfl fun a fr => ?_ | refine wl_ldf oCh_ (Sat.stAt S 6 rfl rfl) fr rfl rfl rfl rfl rfl rfl rfl fun a fr => ?_ | refine wl_ldf oCh_ (Sat.stAt S 7 rfl rfl) fr rfl rfl rfl rfl rfl rfl rfl fun a fr => ?_ | refine wl_ldf oCh_ (Sat.stAt S 8 rfl rfl) fr rfl rfl rfl rfl rfl rfl rfl fun a fr => ?_))
 refine bs 39 fr rfl (fun q1 fr => ?_) (fun q1 fr => ?_)
 ·have q1 : (G.ph == 1) = true := q1
  repeat refine w_ oCh_ rfl fr fun a fr => ?_
  have hmd := (S.frontAt 2 rfl).own.2
  refine wl_call fr rfl rfl rfl rfl enHasU32 (hasU32_call (Sat.ownAt S 2 rfl) hmd (fr.vok (d := 6) rfl)) ?_
  rintro _ w6 ⟨rfl, rfl⟩
  refine ⟨_, rfl, rfl, fun a fr => ?_⟩
  repeat refine w_ oCh_ rfl fr fun a fr => ?_
  refine bs 33 fr rfl (fun q2 fr => ?_) (fun q2 fr => ?_)
  ·have hp : (G.ph == 1 && hasI due g) = true := by rw [q1, q2]; rfl
   rw [if_pos hp] at eG eGO
   refine eq_ rfl rfl ?_
   refine cw_t fr rfl ?_
   refine r_ rfl ?_
   repeat refine w_ oCh_ rfl fr fun a fr => ?_
   have S := (((((((((S.frontAt 5 rfl).frontAt 5 rfl).frontAt 4 rfl).frontAt 4 rfl).frontAt 4 rfl).frontAt 8 rfl).frontAt 8 rfl).frontAt 8 rfl).frontAt 8 rfl)
   refine wl_call fr rfl rfl rfl rfl enAbort (abort_call h4G S) ?_
   rintro _ w7 ⟨A7, c7, rfl, hv7, S⟩
   refine ⟨_, rfl, hv7, fun a fr => ?_⟩
   have fr := fr.spell (d := 47) rfl (show Value.slice A7 (sites allV G).length (sites allV G).length = .slice A7 (toM 5 G.g (sites allV G)).length (sites allV G).length by rw [toM_len])
   have S := ((((((((((S.frontAt 4 rfl).frontAt 4 rfl).frontAt 4 rfl).frontAt 9 rfl).frontAt 9 rfl).frontAt 6 rfl).frontAt 9 rfl).frontAt 9 rfl).frontAt 8 rfl).frontAt 9 rfl)
   have hs4 := sites_short allV h4G
   refine wl_pmapp fr rfl rfl rfl rfl rfl rfl (by rw [toM_len]; omega) S ?_
   intro w8 A8 c8 S a fr
   repeat refine w_ oCh_ rfl fr fun a fr => ?_
   first | refine e_ ?_ | refine wpList_nil ?_
   (repeat (with_reducible refine blk_n ?_))
   refine ⟨rfl, A8, c8, os ++ toM 5 G.g (sites allV G), ⟨abortG G, delM m' G.g, x, D⟩, rfl, hIG.same rfl, rfl, rfl, eG, by rw [eGO], by rw [List.length_append, toM_len]; omega, fr.sub ⟨rfl, rfl, rfl, rfl, rfl, rfl, trivial⟩, S⟩
  ·have hp : (G.ph == 1 && hasI due g) = false := by rw [q1, q2]; rfl
   (
 have eG2 : tickG (ss0 gs' m' x D) due g = ss0 gs' m' x D := by rw [eG, if_neg (by rw [hp]; decide)]
 rw [if_neg (by rw [hp]; decide)] at eGO
 refine eq_ rfl rfl ?_
 refine cw_f fr rfl ?_
 refine r_ rfl ?_
 (repeat (first | refine wl_run oCh_ 1 rfl fr fun a fr => ?_ | refine wl_ldf oCh_ (Sat.stAt S 0 rfl rfl) fr rfl rfl rfl rfl rfl rfl rfl fun a fr => ?_ | refine wl_ldf oCh_ (Sat.stAt S 1 rfl rfl) fr rfl rfl rfl rfl rfl rfl rfl fun a fr => ?_ | refine wl_ldf oCh_ (Sat.stAt S 2 rfl rfl) fr rfl rfl rfl rfl rfl rfl rfl fun a fr => ?_ | refine wl_ldf oCh_ (Sat.stAt S 3 rfl rfl) fr rfl rfl rfl rfl rfl rfl rfl fun a fr => ?_ | refine wl_ldf oCh_ (Sat.stAt S 4 rfl rfl) fr rfl rfl rfl rfl rfl rfl rfl fun a fr => ?_ | refine wl_ldf oCh_ (Sat.stAt S 5 rfl rfl) fr rfl rfl rfl rfl rfl rfl rfl fun a fr => ?_ | refine wl_ldf oCh_ (Sat.stAt S 6 rfl rfl) fr rfl rfl rfl rfl rfl rfl rfl fun a fr => ?_ | refine wl_ldf oCh_ (Sat.stAt S 7 rfl rfl) fr rfl rfl rfl rfl rfl rfl rfl fun a fr => ?_ | refine wl_ldf oCh_ (Sat.stAt S 8 rfl rfl) fr rfl rfl rfl rfl rfl rfl rfl fun a fr => ?_))
 first | refine e_ ?_ | refine wpList_nil ?_
 refine bs 49 fr rfl (fun q3 fr => ?_) (fun q3 fr => ?_)
 ·rw [if_pos q3] at eGO
  refine q_ rfl ?_
  refine cw_t fr rfl ?_
  refine r_ rfl ?_
  repeat refine w_ oCh_ rfl fr fun a fr => ?_
  have S := (((((((((S.frontAt 7 rfl).frontAt 7 rfl).frontAt 7 rfl).frontAt 7 rfl).frontAt 7 rfl).frontAt 7 rfl).frontAt 7 rfl).frontAt 7 rfl).frontAt 8 rfl)
  refine wl_call fr rfl rfl rfl rfl enSites (sites_call enTick1 asks_tick h4G S) ?_
  rintro _ w6 ⟨A6, c6, rfl, hv6, S⟩
  have hm6 := S.own.2
  obtain ⟨sl, hsl⟩ : ∃ sl, sl = sites notDone G := ⟨_, rfl⟩
  have hsl4 : sl.length ≤ 4 := by rw [hsl]; exact sites_short notDone h4G
  refine ⟨_, rfl, hv6, fun a fr => ?_⟩
  rw [← hsl] at fr S hm6 eGO
  have S := S.frontAt 1 rfl
  refine wl_call fr rfl rfl rfl rfl enTo (to_call rfl (fun w' S' => Sat.ownAt S' 1 rfl) hm6 (by omega) S) ?_
  rintro _ w7 ⟨A7, c7, rfl, hv7, S⟩
  refine ⟨_, rfl, hv7, fun a fr => ?_⟩
  have S := (((((((((((S.frontAt 2 rfl).frontAt 2 rfl).frontAt 10 rfl).frontAt 10 rfl).frontAt 10 rfl).frontAt 10 rfl).frontAt 10 rfl).frontAt 10 rfl).frontAt 10 rfl).frontAt 9 rfl).frontAt 10 rfl)
  refine wl_pmapp fr rfl rfl rfl rfl rfl rfl (by rw [toM_len]; omega) S ?_
  intro w8 A8 c8 S a fr
  repeat refine w_ oCh_ rfl fr fun a fr => ?_
  first | refine e_ ?_ | refine wpList_nil ?_
  (repeat (with_reducible refine blk_n ?_))
  refine ⟨rfl, A8, c8, os ++ toM 4 G.g sl, ⟨G, m', x, D⟩, rfl, hIG, rfl, rfl, eG2.trans hput.symm, by rw [eGO], by rw [List.length_append, toM_len]; omega, fr.sub ⟨rfl, rfl, rfl, rfl, rfl, rfl, trivial⟩, ?_⟩
  have S := ((((((((((S.frontAt 9 rfl).frontAt 9 rfl).frontAt 9 rfl).frontAt 9 rfl).frontAt 9 rfl).frontAt 9 rfl).frontAt 9 rfl).frontAt 9 rfl).frontAt 9 rfl).frontAt 9 rfl)
  have S := S.frontAt 9 rfl
  exact S.tl
 rw [if_neg (by rw [show (G.ph == 3) = false from q3]; decide)] at eGO
 refine q_ rfl ?_
 refine cw_f fr rfl ?_
 refine wp_skip ?_
 (repeat (with_reducible refine blk_n ?_))
 exact ⟨rfl, A1, c1, os, ⟨G, m', x, D⟩, rfl, hIG, rfl, rfl, eG2.trans hput.symm, by rw [eGO, List.append_nil], by omega, fr.sub ⟨rfl, rfl, rfl, rfl, rfl, rfl, trivial⟩, S⟩
)
 ·have hp : (G.ph == 1 && hasI due g) = false := by rw [show (G.ph == 1) = false from q1]; rfl
  repeat refine w_ oCh_ rfl fr fun a fr => ?_
  (
 have eG2 : tickG (ss0 gs' m' x D) due g = ss0 gs' m' x D := by rw [eG, if_neg (by rw [hp]; decide)]
 rw [if_neg (by rw [hp]; decide)] at eGO
 refine eq_ rfl rfl ?_
 refine cw_f fr rfl ?_
 refine r_ rfl ?_
 (repeat (first | refine wl_run oCh_ 1 rfl fr fun a fr => ?_ | refine wl_ldf oCh_ (Sat.stAt S 0 rfl rfl) fr rfl rfl rfl rfl rfl rfl rfl fun a fr => ?_ | refine wl_ldf oCh_ (Sat.stAt S 1 rfl rfl) fr rfl rfl rfl rfl rfl rfl rfl fun a fr => ?_ | refine wl_ldf oCh_ (Sat.stAt S 2 rfl rfl) fr rfl rfl rfl rfl rfl rfl rfl fun a fr => ?_ | refine wl_ldf oCh_ (Sat.stAt S 3 rfl rfl) fr rfl rfl rfl rfl rfl rfl rfl fun a fr => ?_ | refine wl_ldf oCh_ (Sat.stAt S 4 rfl rfl) fr rfl rfl rfl rfl rfl rfl rfl fun a fr => ?_ | refine wl_ldf oCh_ (Sat.stAt S 5 rfl rfl) fr rfl rfl rfl rfl rfl rfl rfl fun a fr => ?_ | refine wl_ldf oCh_ (Sat.stAt S 6 rfl rfl) fr rfl rfl rfl rfl rfl rfl rfl fun a fr => ?_ | refine wl_ldf oCh_ (Sat.stAt S 7 rfl rfl) fr rfl rfl rfl rfl rfl rfl rfl fun a fr => ?_ | refine wl_ldf oCh_ (Sat.stAt S 8 rfl rfl) fr rfl rfl rfl rfl rfl rfl rfl fun a fr => ?_))
 first | refine e_ ?_ | refine wpList_nil ?_
 refine bs 49 fr rfl (fun q3 fr => ?_) (fun q3 fr => ?_)
 ·rw [if_pos q3] at eGO
  refine q_ rfl ?_
  refine cw_t fr rfl ?_
  refine r_ rfl ?_
  repeat refine w_ oCh_ rfl fr fun a fr => ?_
  have S := (((((((((S.frontAt 7 rfl).frontAt 7 rfl).frontAt 7 rfl).frontAt 7 rfl).frontAt 7 rfl).frontAt 7 rfl).frontAt 7 rfl).frontAt 7 rfl).frontAt 8 rfl)
  refine wl_call fr rfl rfl rfl rfl enSites (sites_call enTick1 asks_tick h4G S) ?_
  rintro _ w6 ⟨A6, c6, rfl, hv6, S⟩
  have hm6 := S.own.2
  obtain ⟨sl, hsl⟩ : ∃ sl, sl = sites notDone G := ⟨_, rfl⟩
  have hsl4 : sl.length ≤ 4 := by rw [hsl]; exact sites_short notDone h4G
  refine ⟨_, rfl, hv6, fun a fr => ?_⟩
  rw [← hsl] at fr S hm6 eGO
  have S := S.frontAt 1 rfl
  refine wl_call fr rfl rfl rfl rfl enTo (to_call rfl (fun w' S' => Sat.ownAt S' 1 rfl) hm6 (by omega) S) ?_
  rintro _ w7 ⟨A7, c7, rfl, hv7, S⟩
  refine ⟨_, rfl, hv7, fun a fr => ?_⟩
  have S := (((((((((((S.frontAt 2 rfl).frontAt 2 rfl).frontAt 10 rfl).frontAt 10 rfl).frontAt 10 rfl).frontAt 10 rfl).frontAt 10 rfl).frontAt 10 rfl).frontAt 10 rfl).frontAt 9 rfl).frontAt 10 rfl)
  refine wl_pmapp fr rfl rfl rfl rfl rfl rfl (by rw [toM_len]; omega) S ?_
  intro w8 A8 c8 S a fr
  repeat refine w_ oCh_ rfl fr fun a fr => ?_
  first | refine e_ ?_ | refine wpList_nil ?_
  (repeat (with_reducible refine blk_n ?_))
  refine ⟨rfl, A8, c8, os ++ toM 4 G.g sl, ⟨G, m', x, D⟩, rfl, hIG, rfl, rfl, eG2.trans hput.symm, by rw [eGO], by rw [List.length_append, toM_len]; omega, fr.sub ⟨rfl, rfl, rfl, rfl, rfl, rfl, trivial⟩, ?_⟩
  have S := ((((((((((S.frontAt 9 rfl).frontAt 9 rfl).frontAt 9 rfl).frontAt 9 rfl).frontAt 9 rfl).frontAt 9 rfl).frontAt 9 rfl).frontAt 9 rfl).frontAt 9 rfl).frontAt 9 rfl)
  have S := S.frontAt 9 rfl
  exact S.tl
 rw [if_neg (by rw [show (G.ph == 3) = false from q3]; decide)] at eGO
 refine q_ rfl ?_
 refine cw_f fr rfl ?_
 refine wp_skip ?_
 (repeat (with_reducible refine blk_n ?_))
 exact ⟨rfl, A1, c1, os, ⟨G, m', x, D⟩, rfl, hIG, rfl, rfl, eG2.trans hput.symm, by rw [eGO, List.append_nil], by omega, fr.sub ⟨rfl, rfl, rfl, rfl, rfl, rfl, trivial⟩, S⟩
)
end
end Go.Proofs.YticnjkdaccacaaaGreat.Sx
end
