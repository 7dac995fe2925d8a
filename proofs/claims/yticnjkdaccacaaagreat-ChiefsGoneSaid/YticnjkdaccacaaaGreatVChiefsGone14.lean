/- Texts of this work, one behind the other. -/
import Derived.Test.YticnjkdaccacaaaGreatVChiefsGone13
section
namespace Go.Proofs.YticnjkdaccacaaaGreat.Sx
open Go Go.RowKit Base _root_.Go.Proofs.YticnjkdaccacaaaGreat.Own OwnV Disk
section
variable {P : Program} {T : Orc} {ops : Array Oper} {Q : Exit → Act → World → Prop} {Df : List Deferred} {N : Nat} {a : Act} {w w0 : World} {L : Env} {R : List Asn}
theorem wl_makeb {o : Oper} {rest : List Oper} {d : Nat} {g : FuncId} {cs : Array Operand} {xs : List Value} (fr : FrD Df N a L) (hw : wantL ops L o = some true) (hd : o.dst = some d) (hlt : Nat.blt d N = true) (ho : o.op = .makeFunc (.func g) cs #[]) (hx : evs L cs.toList = some xs)
    (h : ∀ a', FrD Df N a' ((d, .func (.func g) xs.toArray #[]) :: L) → wpList P ops Q rest a' w) : wpList P ops Q (o :: rest) a w := by
  refine wl_val (v := .func (.func g) xs.toArray #[]) fr hw hd hlt ?_ rfl h
  have e : cs.map a.eval = xs.toArray := by
    apply Array.toList_inj.1
    rw [Array.toList_map, (evs_run fr hx).1]
  unfold execOp
  simp only [ho, e]
  rw [Sem.run_bind, Array.map_empty]
  rfl
theorem wl_callb {o : Oper} {rest : List Oper} {d : Nat} {g : FuncId} {x : Operand} {xs : List Value} {fb : List Value} {c : Call} {E : Ending → World → Prop} (fr : FrD Df N a L) (hw : wantL ops L o = some true) (hd : o.dst = some d) (hlt : Nat.blt d N = true) (ho : o.op = .call c) (hc : c.callee = .value x) (hx : ev L x = some (.func (.func g) fb.toArray #[])) (hxs : evs L c.args.toList = some xs) (hin : Enters P g) (hcon : Calls P g (fb ++ xs).toArray w E)
    (h : ∀ e w', E e w' → ∃ v, e = .returned v ∧ vok v = true ∧ ∀ a', FrD Df N a' ((d, v) :: L) → wpList P ops Q rest a' w') : wpList P ops Q (o :: rest) a w := by
  have e : c.args.map a.eval = xs.toArray := by
    apply Array.toList_inj.1
    rw [Array.toList_map, (evs_run fr hxs).1]
  have hrun : (execOp a.eval o).run P w = .ok (.enter g (fb ++ xs).toArray) w := by
    unfold execOp
    simp only [ho, resolve, hc, (fr.ev hx).1, Deferred.ofValue]
    rw [Sem.run_bind, Sem.run_pure, Result.andThen_ok]
    simp only [invoke]
    have e3 := hin (fb ++ xs).toArray w
    rw [e]
    simpa using e3
  refine wl_op fr hw fun K hK => wp_call hrun (hcon.mono fun e' w' hR => ?_)
  obtain ⟨v, he, hv, hk⟩ := h e' w' hR
  exact ⟨v, he, hK _ _ (by rw [hd]; exact hk _ (fr.put (blt_lt hlt) hv))⟩
end
section
variable {α : Type}
structure Ss (α : Type) where
  gs : List (Gl α)
  m : List (Int × Int)
  x : Int
  D : Dk
def partAt (G : Gl α) (k : Nat) : Bool := match G.v[k]? with | some v => v.part | none => false
def badMsg (f t g : Int) : Bool := t != 0 || (decide (f < 1) || (decide (f > 3) || g == 0))
def sayOk (s : Int) : Bool := hasI [2, 3, 6, 7] s
def asks (s : Int) : Bool := s == 2 || s == 7
def putC (C : Ss α) (j : Nat) (K : Cs α) : Ss α := { gs := C.gs.set j K.G, m := K.m, x := K.x, D := K.D }
def ofC (C : Ss α) (G : Gl α) : Cs α := ⟨G, C.m, C.x, C.D⟩
def doneC (K : Cs α) (k : Nat) : Cs α := { G := doneM K.G k, m := K.m, x := doneX K.G k K.D K.x, D := doneD K.G k K.D K.x }
def cameG (C : Ss α) (G : Gl α) (j : Nat) (s f : Int) (l : α) : Ss α :=
  if (G.kn && !partAt G f.toNat) = true then C
  else if (G.ph == 1) = true then putC C j (doingC (ofC C G) s f.toNat l)
  else if asks s then C
  else if (s == 6) = true then putC C j (doneC (ofC C G) f.toNat)
  else C
def cameGO (C : Ss α) (G : Gl α) (s f : Int) (l : α) : List PM :=
  if (G.kn && !partAt G f.toNat) = true then []
  else if (G.ph == 1) = true then doingO (ofC C G) s f.toNat l
  else if asks s then [((if G.com = true then 4 else 5), f, G.g)]
  else []
def findG (gs : List (Gl α)) (g : Int) : Option (Nat × Gl α) := (idxG gs g).bind fun j => (gs[j]?).map fun G => (j, G)
def cameS (C : Ss α) (s f t g : Int) (l : α) : Ss α :=
  if badMsg f t g then C else if !sayOk s then C
  else match findG C.gs g with
    | none => C
    | some p => cameG C p.2 p.1 s f l
def cameO (C : Ss α) (s f t g : Int) (l : α) : List PM × Int :=
  if badMsg f t g then ([], 1) else if !sayOk s then ([], 1)
  else match findG C.gs g with
    | none => (if asks s then [(5, f, g)] else [], 0)
    | some p => (cameGO C p.2 s f l, 0)
end
structure GlI (G : Gl RawV) : Prop where
  len : G.v.length = 4
  few : ∀ v ∈ G.v, ResB v.l.2.2
theorem updV_mem {α : Type} {f : Vt α → Vt α} : ∀ {k : Nat} {l : List (Vt α)} {v : Vt α}, v ∈ updV f k l → v ∈ l ∨ ∃ u ∈ l, v = f u := by
  intro k l
  induction l generalizing k with
  | nil => intro v hv; cases k <;> cases hv
  | cons u r ih =>
    intro v hv
    cases k with
    | zero =>
      rcases List.mem_cons.1 (show v ∈ f u :: r from hv) with rfl | hv
      · exact .inr ⟨u, List.mem_cons_self, rfl⟩
      · exact .inl (List.mem_cons_of_mem _ hv)
    | succ k =>
      rcases List.mem_cons.1 (show v ∈ u :: updV f k r from hv) with rfl | hv
      · exact .inl List.mem_cons_self
      · rcases ih hv with h | ⟨u', h1, h2⟩
        · exact .inl (List.mem_cons_of_mem _ h)
        · exact .inr ⟨u', List.mem_cons_of_mem _ h1, h2⟩
theorem GlI.vote {G : Gl RawV} (h : GlI G) (k : Nat) {l : RawV} (hl : ResB l.2.2) : GlI (voteG G k l) where
  len := by show (updV _ k G.v).length = 4; rw [updV_len]; exact h.len
  few := fun v hv => by
    rcases updV_mem hv with hv | ⟨u, hu, rfl⟩
    · exact h.few v hv
    · exact hl
theorem GlI.done {G : Gl RawV} (h : GlI G) (k : Nat) : GlI (doneG G k) where
  len := by show (updV _ k G.v).length = 4; rw [updV_len]; exact h.len
  few := fun v hv => by
    rcases updV_mem hv with hv | ⟨u, hu, rfl⟩
    · exact h.few v hv
    · exact h.few u hu
theorem GlI.same {G G' : Gl RawV} (h : GlI G) (e : G'.v = G.v) : GlI G' := ⟨by rw [e]; exact h.len, by rw [e]; exact h.few⟩
theorem GlI.doing {C : Cs RawV} (h : GlI C.G) (s : Int) (k : Nat) {l : RawV} (hl : ResB l.2.2) : GlI (doingC C s k l).G := by
  unfold doingC
  split
  · exact h.same rfl
  · split
    · exact h
    · split
      · exact h.vote k hl
      · refine (h.vote k hl).same ?_
        show (commitM _ _ _).v = _
        unfold commitM
        split <;> rfl
theorem GlI.doneM {G : Gl RawV} (h : GlI G) (k : Nat) : GlI (doneM G k) := by
  unfold Sx.doneM
  split
  · split
    · exact (h.done k).same rfl
    · exact h.done k
  · exact h
theorem upd0 {f : Vt RawV → Vt RawV} {f' : Vt RsT → Vt RsT} (h : ∀ v, vt0 (f v) = f' (vt0 v)) : ∀ (k : Nat) (l : List (Vt RawV)), (updV f k l).map vt0 = updV f' k (l.map vt0) := by
  intro k l
  induction l generalizing k with
  | nil => cases k <;> rfl
  | cons v r ih =>
    cases k with
    | zero => show vt0 (f v) :: r.map vt0 = f' (vt0 v) :: r.map vt0; rw [h]
    | succ k => show vt0 v :: (updV f k r).map vt0 = vt0 v :: updV f' k (r.map vt0); rw [ih]
theorem vote0 (G : Gl RawV) (k : Nat) (l : RawV) : gl0 (voteG G k l) = voteG (gl0 G) k l.2.2 := by
  have := upd0 (f := vVote l) (f' := vVote l.2.2) (fun _ => rfl) k G.v
  unfold gl0 voteG
  simp only [this]
theorem done0 (G : Gl RawV) (k : Nat) : gl0 (doneG G k) = doneG (gl0 G) k := by
  have := upd0 (f := vDone) (f' := vDone) (fun _ => rfl) k G.v
  unfold gl0 doneG
  simp only [this]
theorem at0 (G : Gl RawV) (k : Nat) : (gl0 G).v[k]? = (G.v[k]?).map vt0 := List.getElem?_map
theorem yes0 (G : Gl RawV) (k : Nat) : yesAt (gl0 G) k = yesAt G k := by
  unfold yesAt
  rw [at0]
  cases G.v[k]? <;> rfl
theorem part0 (G : Gl RawV) (k : Nat) : partAt (gl0 G) k = partAt G k := by
  unfold partAt
  rw [at0]
  cases G.v[k]? <;> rfl
theorem all0 (G : Gl RawV) : sites allV (gl0 G) = sites allV G := sites0 allV (fun _ => rfl) G
theorem nyes0 (G : Gl RawV) : sites notYes (gl0 G) = sites notYes G := sites0 notYes (fun _ => rfl) G
theorem ndone0 (G : Gl RawV) : sites notDone (gl0 G) = sites notDone G := sites0 notDone (fun _ => rfl) G
theorem comR0 (G : Gl RawV) : commitR (gl0 G) = commitR G := by unfold commitR; rw [all0]; rfl
theorem comOk0 (G : Gl RawV) (D : Dk) (x : Int) : commitOk (gl0 G) D x = commitOk G D x := by unfold commitOk; rw [comR0]
theorem comM0 (G : Gl RawV) (D : Dk) (x : Int) : gl0 (commitM G D x) = commitM (gl0 G) D x := by unfold commitM; rw [comOk0]; split <;> rfl
theorem comD0 (G : Gl RawV) (D : Dk) (x : Int) : commitD (gl0 G) D x = commitD G D x := by unfold commitD; rw [comOk0, comR0]
theorem comS0 (G : Gl RawV) (D : Dk) (x : Int) : commitS (gl0 G) D x = commitS G D x := by unfold commitS; rw [comOk0]
def cs0 (C : Cs RawV) : Cs RsT := ⟨gl0 C.G, C.m, C.x, C.D⟩
theorem doing0 (C : Cs RawV) (s : Int) (k : Nat) (l : RawV) : cs0 (doingC C s k l) = doingC (cs0 C) s k l.2.2 := by
  unfold doingC
  have e1 : (cs0 C).G = gl0 C.G := rfl
  rw [e1, yes0, ← vote0, nyes0, comR0, ← comM0, comD0]
  split
  · rfl
  · split
    · rfl
    · split <;> rfl
theorem doingO0 (C : Cs RawV) (s : Int) (k : Nat) (l : RawV) : doingO (cs0 C) s k l.2.2 = doingO C s k l := by
  unfold doingO
  have e1 : (cs0 C).G = gl0 C.G := rfl
  rw [e1, yes0, ← vote0, nyes0, comS0, all0, all0]
  rfl
theorem ends0 (G : Gl RawV) (k : Nat) : ends (gl0 G) k = ends G k := by unfold ends; rw [← done0, ndone0]; rfl
theorem doneC0 (C : Cs RawV) (k : Nat) : cs0 (doneC C k) = doneC (cs0 C) k := by
  have e1 : (cs0 C).G = gl0 C.G := rfl
  unfold doneC doneM doneX doneD cs0
  simp only [ends0, ← done0]
  have e2 : (gl0 C.G).ph = C.G.ph := rfl
  have e3 : (gl0 C.G).g = C.G.g := rfl
  rw [e2, e3]
  congr 1
  split
  · split <;> rfl
  · rfl
def ss0 (gs : Gs) (m : List (Int × Int)) (x : Int) (D : Dk) : Ss RsT := ⟨gs.map fun p => gl0 p.2, m, x, D⟩
theorem idx0 (gs : Gs) (g : Int) : idxG (gs.map fun p => gl0 p.2) g = idxG (gs.map (·.2)) g := by
  rw [show (gs.map fun p => gl0 p.2) = (gs.map (·.2)).map gl0 by rw [List.map_map]; rfl]
  exact idxG_map (f := gl0) (fun _ => rfl) _ g
def zV : Vt RawV := ⟨false, false, false, (none, 0, [])⟩
def zG (g : Int) : Gl RawV := ⟨g, 0, false, false, false, [zV, zV, zV, zV]⟩
theorem doingC_g {α : Type} (C : Cs α) (s : Int) (k : Nat) (l : α) : (doingC C s k l).G.g = C.G.g := by
  unfold doingC
  split
  · rfl
  · split
    · rfl
    · split
      · rfl
      · show (commitM _ _ _).g = _
        unfold commitM
        split <;> rfl
theorem doneM_g {α : Type} (G : Gl α) (k : Nat) : (doneM G k).g = G.g := by
  unfold doneM
  split
  · split <;> rfl
  · rfl
theorem upd_map {α β : Type} {f : α → β} {u : Vt α → Vt α} {F : Vt α → β} (h : ∀ v, F (u v) = F v) : ∀ (k : Nat) (l : List (Vt α)), (updV u k l).map F = l.map F := by
  intro k l
  induction l generalizing k with
  | nil => cases k <;> rfl
  | cons v r ih =>
    cases k with
    | zero => show F (u v) :: r.map F = F v :: r.map F; rw [h]
    | succ k => show F v :: (updV u k r).map F = F v :: r.map F; rw [ih]
theorem doneM_R (G : Gl RawV) (k bx : Nat) : glR (bx, doneM G k) = glR (bx, G) := by
  have h1 : ∀ (v : Vt RawV), resA (vDone v).l.1 (vDone v).l.2.1 (vDone v).l.2.2 = resA v.l.1 v.l.2.1 v.l.2.2 := fun _ => rfl
  have h2 : glR (bx, doneG G k) = glR (bx, G) := upd_map (f := fun (v : RawV) => resA v.1 v.2.1 v.2.2) (F := fun v => resA v.l.1 v.l.2.1 v.l.2.2) h1 k G.v
  unfold doneM
  split
  · split
    · exact h2
    · exact h2
  · rfl
theorem litSay : RowTy Tryz.prog 107 36 .u8 := ⟨Tryz.underlying107, 1, by decide, by kernel_rfl⟩
theorem enCame : Enters Tryz.prog 12 := fun _ _ => by kernel_rfl
theorem vok_t2 {B : Option Addr} {n c : Nat} {z : Int} (h : vok (.slice B n c) = true) (hz : (Lit.int .i64 z).wf = true) : vok (.tuple #[.slice B n c, .int .i64 z]) = true := by
  have h1 : vokC (.slice B n c) = true := h
  show [Value.slice B n c, .int .i64 z].all vokC = true
  simp only [List.all_cons, List.all_nil, Bool.and_true, Bool.and_eq_true]
  exact ⟨h1, hz⟩
section
variable {w w0 : World} {R : List Asn} {b bl bm bk bw bd : Nat} {last now x : Int} {m : List (Int × Int)} {gs : Gs} {D : Dk}
set_option maxRecDepth 100000 in
set_option maxHeartbeats 8000000 in
theorem came_call {s f t g : Int} {Ao Ar : Option Addr} {no co cr : Nat} {rs : List RawR} (hmg : MgW s f t g no co rs.length cr) (hR : ∀ w', Sat w0 w' R → RdRaw w' Ar rs) (hW : RawW rs) (hrb : rs.length * 24 ≤ 140737488355328) (hrr : ∀ r ∈ rs, r.2.2.length * 24 ≤ 140737488355328) (hRB : ResB (rawL rs))
    (hI : ∀ p ∈ gs, GlI p.2) (hb : (0 ≤ x ∧ x ≤ 4096) ∧ D.waits.length ≤ 100000000) (S : Sat w0 w (chW b bl bm last bk bw now bd gs m x D R)) :
    Calls Tryz.prog 12 #[.pointer (some ⟨b, 0, none⟩), .agg (mgV s f t g Ao no co Ar rs.length cr).toArray] w fun e w' => ∃ (A' : Option Addr) (c' : Nat) (gs' : Gs), e = .returned (.tuple #[.slice A' (cameO (ss0 gs m x D) s f t g (rawL rs)).1.length (cameO (ss0 gs m x D) s f t g (rawL rs)).1.length, .int .i64 (cameO (ss0 gs m x D) s f t g (rawL rs)).2]) ∧ vok (.tuple #[.slice A' (cameO (ss0 gs m x D) s f t g (rawL rs)).1.length (cameO (ss0 gs m x D) s f t g (rawL rs)).1.length, .int .i64 (cameO (ss0 gs m x D) s f t g (rawL rs)).2]) = true ∧
      (gs'.map fun p => gl0 p.2) = (cameS (ss0 gs m x D) s f t g (rawL rs)).gs ∧ (∀ p ∈ gs', GlI p.2) ∧ keysG gs' = keysG gs ∧ Sat w0 w' (pmA A' c' (cameO (ss0 gs m x D) s f t g (rawL rs)).1 :: chW b bl bm last bk bw now bd gs' (cameS (ss0 gs m x D) s f t g (rawL rs)).m (cameS (ss0 gs m x D) s f t g (rawL rs)).x (cameS (ss0 gs m x D) s f t g (rawL rs)).D R) := by
  have hf0 : 0 ≤ f := by
    have h := hmg.f
    rw [wf_int] at h
    have h1 : IntKind.u8.min = 0 := by decide
    omega
  obtain ⟨k, rfl⟩ : ∃ k : Nat, f = k := ⟨f.toNat, by omega⟩
  refine calls_start (N := 110) [.pointer (some ⟨b, 0, none⟩), .agg (mgV s k t g Ao no co Ar rs.length cr).toArray] Tryz.func12 rfl rfl rfl (vok_c rfl (vok_c (hmg.ok Ao Ar) rfl)) fun a fr => ?_
  skip; (repeat (with_reducible refine wp_seq ?_)); refine wp_region_lit ?_
  refine wl_boxs fr rfl rfl rfl rfl rfl (hmg.okv Ao Ar) S ?_
  intro w1 bg S a fr
  have S : Sat w0 w1 (stA 42 bg (mgV s k t g Ao no co Ar rs.length cr) :: chS b bl bm last bk :: logA bl bd x :: diskA bd D :: ckS bk bw now :: ckM bw m :: glM bm gs :: (gsT gs ++ R)) := S
  (repeat (refine wl_run orcCh_ok 1 rfl fr fun a fr => ?_))
  refine wpList_nil ?_; (repeat (with_reducible refine then_n ?_))
  have nope : ∀ {a : Act} {w6 : World} {L : Env} {z : Int}, FrD [] 110 a L → L.lookup 4 = some (.slice none 0 0) → L.lookup 5 = some (.int .i64 z) → (Lit.int .i64 z).wf = true → cameS (ss0 gs m x D) s k t g (rawL rs) = ss0 gs m x D → cameO (ss0 gs m x D) s k t g (rawL rs) = ([], z) → Sat w0 w6 (stA 42 bg (mgV s k t g Ao no co Ar rs.length cr) :: chS b bl bm last bk :: logA bl bd x :: diskA bd D :: ckS bk bw now :: ckM bw m :: glM bm gs :: (gsT gs ++ R)) → bodyPost Tryz.prog Tryz.f12 (fun e w' => ∃ (A' : Option Addr) (c' : Nat) (gs' : Gs), e = .returned (.tuple #[.slice A' (cameO (ss0 gs m x D) s k t g (rawL rs)).1.length (cameO (ss0 gs m x D) s k t g (rawL rs)).1.length, .int .i64 (cameO (ss0 gs m x D) s k t g (rawL rs)).2]) ∧ vok (.tuple #[.slice A' (cameO (ss0 gs m x D) s k t g (rawL rs)).1.length (cameO (ss0 gs m x D) s k t g (rawL rs)).1.length, .int .i64 (cameO (ss0 gs m x D) s k t g (rawL rs)).2]) = true ∧
      (gs'.map fun p => gl0 p.2) = (cameS (ss0 gs m x D) s k t g (rawL rs)).gs ∧ (∀ p ∈ gs', GlI p.2) ∧ keysG gs' = keysG gs ∧ Sat w0 w' (pmA A' c' (cameO (ss0 gs m x D) s k t g (rawL rs)).1 :: chW b bl bm last bk bw now bd gs' (cameS (ss0 gs m x D) s k t g (rawL rs)).m (cameS (ss0 gs m x D) s k t g (rawL rs)).x (cameS (ss0 gs m x D) s k t g (rawL rs)).D R)) .ret a w6 := by
    intro a w6 L z fr h4 h5 hz eS eO S
    rw [eS, eO]
    exact ret2 fr rfl h4 h5 ⟨none, 0, gs, rfl, vok_t2 rfl hz, rfl, hI, rfl, noPm S.tl⟩
  skip; (repeat (with_reducible refine wp_seq ?_)); refine wp_region_lit ?_
  (repeat (refine wl_run orcCh_ok 1 rfl fr fun a fr => ?_))
  refine wl_call fr rfl rfl rfl rfl enChThere (chthere_call (S.frontAt 1 rfl)) ?_
  rintro _ w2 ⟨rfl, rfl⟩
  refine ⟨_, rfl, rfl, fun a fr => ?_⟩
  (repeat (refine wl_run orcCh_ok 1 rfl fr fun a fr => ?_))
  refine wpList_nil ?_; (repeat (with_reducible refine then_n ?_))
  skip; (repeat (with_reducible refine wp_seq ?_))
  refine cw_f fr rfl ?_
  refine wp_skip ?_
  (with_reducible refine then_n ?_)
  skip; (repeat (with_reducible refine wp_seq ?_)); refine wp_region_lit ?_
  (repeat (first | refine wl_run orcCh_ok 1 rfl fr fun a fr => ?_ | refine wl_ldf orcCh_ok (Sat.stAt S 0 rfl rfl) fr rfl rfl rfl rfl rfl rfl rfl fun a fr => ?_))
  refine bs 14 fr rfl (fun q1 fr => ?_) (fun q1 fr => ?_)
  · have hq : badMsg k t g = true := by unfold badMsg; rw [q1]; rfl
    (repeat (first | refine wl_run orcCh_ok 1 rfl fr fun a fr => ?_ | refine wl_ldf orcCh_ok (Sat.stAt S 0 rfl rfl) fr rfl rfl rfl rfl rfl rfl rfl fun a fr => ?_))
    (
  refine wpList_nil ?_; (repeat (with_reducible refine then_n ?_))
  skip; (repeat (with_reducible refine wp_seq ?_))
  refine cw_t fr rfl ?_
  skip; (repeat (with_reducible refine wp_seq ?_)); refine wp_region_lit ?_
  (repeat (refine wl_run orcCh_ok 1 rfl fr fun a fr => ?_))
  refine wpList_nil ?_; (repeat (with_reducible refine then_n ?_))
  refine wp_ret ?_
  skip; (repeat (first | (with_reducible refine then_r ?_) | (with_reducible refine blk_r ?_) | (with_reducible refine ng_r ?_)))
  exact nope fr rfl rfl rfl (by unfold cameS; rw [hq]; rfl) (by unfold cameO; rw [hq]; rfl) S
)
  (repeat (first | refine wl_run orcCh_ok 1 rfl fr fun a fr => ?_ | refine wl_ldf orcCh_ok (Sat.stAt S 0 rfl rfl) fr rfl rfl rfl rfl rfl rfl rfl fun a fr => ?_))
  refine bs 19 fr rfl (fun q2 fr => ?_) (fun q2 fr => ?_)
  · have hq : badMsg k t g = true := by unfold badMsg; rw [q1, q2]; rfl
    (repeat (first | refine wl_run orcCh_ok 1 rfl fr fun a fr => ?_ | refine wl_ldf orcCh_ok (Sat.stAt S 0 rfl rfl) fr rfl rfl rfl rfl rfl rfl rfl fun a fr => ?_))
    (
  refine wpList_nil ?_; (repeat (with_reducible refine then_n ?_))
  skip; (repeat (with_reducible refine wp_seq ?_))
  refine cw_t fr rfl ?_
  skip; (repeat (with_reducible refine wp_seq ?_)); refine wp_region_lit ?_
  (repeat (refine wl_run orcCh_ok 1 rfl fr fun a fr => ?_))
  refine wpList_nil ?_; (repeat (with_reducible refine then_n ?_))
  refine wp_ret ?_
  skip; (repeat (first | (with_reducible refine then_r ?_) | (with_reducible refine blk_r ?_) | (with_reducible refine ng_r ?_)))
  exact nope fr rfl rfl rfl (by unfold cameS; rw [hq]; rfl) (by unfold cameO; rw [hq]; rfl) S
)
  (repeat (first | refine wl_run orcCh_ok 1 rfl fr fun a fr => ?_ | refine wl_ldf orcCh_ok (Sat.stAt S 0 rfl rfl) fr rfl rfl rfl rfl rfl rfl rfl fun a fr => ?_))
  refine bs 24 fr rfl (fun q3 fr => ?_) (fun q3 fr => ?_)
  · have hq : badMsg k t g = true := by unfold badMsg; rw [q1, q2, q3]; rfl
    (repeat (first | refine wl_run orcCh_ok 1 rfl fr fun a fr => ?_ | refine wl_ldf orcCh_ok (Sat.stAt S 0 rfl rfl) fr rfl rfl rfl rfl rfl rfl rfl fun a fr => ?_))
    (
  refine wpList_nil ?_; (repeat (with_reducible refine then_n ?_))
  skip; (repeat (with_reducible refine wp_seq ?_))
  refine cw_t fr rfl ?_
  skip; (repeat (with_reducible refine wp_seq ?_)); refine wp_region_lit ?_
  (repeat (refine wl_run orcCh_ok 1 rfl fr fun a fr => ?_))
  refine wpList_nil ?_; (repeat (with_reducible refine then_n ?_))
  refine wp_ret ?_
  skip; (repeat (first | (with_reducible refine then_r ?_) | (with_reducible refine blk_r ?_) | (with_reducible refine ng_r ?_)))
  exact nope fr rfl rfl rfl (by unfold cameS; rw [hq]; rfl) (by unfold cameO; rw [hq]; rfl) S
)
  (repeat (first | refine wl_run orcCh_ok 1 rfl fr fun a fr => ?_ | refine wl_ldf orcCh_ok (Sat.stAt S 0 rfl rfl) fr rfl rfl rfl rfl rfl rfl rfl fun a fr => ?_))
  refine bs 28 fr rfl (fun q4 fr => ?_) (fun q4 fr => ?_)
  · have hq : badMsg k t g = true := by unfold badMsg; rw [q1, q2, q3, q4]; rfl
    (
  refine wpList_nil ?_; (repeat (with_reducible refine then_n ?_))
  skip; (repeat (with_reducible refine wp_seq ?_))
  refine cw_t fr rfl ?_
  skip; (repeat (with_reducible refine wp_seq ?_)); refine wp_region_lit ?_
  (repeat (refine wl_run orcCh_ok 1 rfl fr fun a fr => ?_))
  refine wpList_nil ?_; (repeat (with_reducible refine then_n ?_))
  refine wp_ret ?_
  skip; (repeat (first | (with_reducible refine then_r ?_) | (with_reducible refine blk_r ?_) | (with_reducible refine ng_r ?_)))
  exact nope fr rfl rfl rfl (by unfold cameS; rw [hq]; rfl) (by unfold cameO; rw [hq]; rfl) S
)
  have hq : badMsg k t g = false := by unfold badMsg; rw [q1, q2, q3, q4]; rfl
  have hf1 : 1 ≤ (k : Int) := by have := of_decide_eq_false q2; omega
  have hf3 : (k : Int) ≤ 3 := by have := of_decide_eq_false q3; omega
  refine wpList_nil ?_; (repeat (with_reducible refine then_n ?_))
  skip; (repeat (with_reducible refine wp_seq ?_))
  refine cw_f fr rfl ?_
  refine wp_skip ?_
  (with_reducible refine then_n ?_)
  skip; (repeat (with_reducible refine wp_seq ?_))
  have S := (((((((S.frontAt 5 rfl).frontAt 5 rfl).frontAt 5 rfl).frontAt 5 rfl).frontAt 6 rfl).frontAt 6 rfl).frontAt 6 rfl)
  refine wp_region_sl [.one (0, true, some 29), .one (1, true, some 30), .one (2, true, some 31), .one (3, true, some 32), .one (4, true, some 33), .one (5, true, some 34), .one (6, true, some 35), .one (7, true, some 6)]
                [.one ⟨true, some 29, (Go.Op.move (Go.Operand.tmp 0)), 24, none⟩,
                .one ⟨true, some 30, (Go.Op.nilCheck (Go.Operand.tmp 29)), 0, none⟩,
                .one ⟨true, some 31, (Go.Op.fieldAddr 77 (Go.Operand.tmp 30) 1), 0, none⟩,
                .one ⟨true, some 32, (Go.Op.load 74 (Go.Operand.tmp 31)), 74, none⟩,
                .one ⟨true, some 33, (Go.Op.fieldAddr 42 (Go.Operand.tmp 3) 3), 0, none⟩,
                .one ⟨true, some 34, (Go.Op.load 31 (Go.Operand.tmp 33)), 31, none⟩,
                .one ⟨true, some 35, (Go.Op.lookup 74 (Go.Operand.tmp 32) (Go.Operand.tmp 34) false), 83, none⟩,
                .one ⟨true, some 6, (Go.Op.assign (Go.Operand.tmp 35)), 83, none⟩]
                (fun v => Sat w0 v [stA 42 bg (mgV s k t g Ao no co Ar rs.length cr), chS b bl bm last bk, glM bm gs]) rfl (by kernel_rfl) (by kernel_rfl) ?_ ?_
  · exact S.drew.firsts [_, _, _]
  have S := S.drew
  have hS : Sat w0 _ [stA 42 bg (mgV s k t g Ao no co Ar rs.length cr), chS b bl bm last bk, glM bm gs] := S.firsts [_, _, _]
  (repeat (first | refine sl_run orcCh_ok 1 rfl fr fun a fr => ?_ | refine sl_ldf orcCh_ok (fun _ S => Sat.stAt S 0 rfl rfl) fr rfl rfl rfl rfl rfl rfl rfl rfl (by assumption) fun a fr => ?_ | refine sl_ldf orcCh_ok (fun _ S => Sat.stAt S 1 rfl rfl) fr rfl rfl rfl rfl rfl rfl rfl rfl (by assumption) fun a fr => ?_))
  refine sl_lk (f := ptO) orcCh_ok (none : Option Nat) (fun _ => by kernel_rfl) rfl (fun _ S => Sat.mapAt S 2 rfl) fr rfl rfl rfl rfl rfl rfl rfl rfl rfl hS fun a fr => ?_
  (repeat (refine sl_run orcCh_ok 1 rfl fr fun a fr => ?_))
  refine sl_end ?_
  (repeat (with_reducible refine then_n ?_))
  have fr := fr.sub (L' := [(0, .pointer (some ⟨b, 0, none⟩)), (3, .pointer (some ⟨bg, 0, none⟩)), (6, ptO ((lkM (keysG gs) g).getD none))]) ⟨rfl, rfl, rfl, trivial⟩
  clear hS
  skip; (repeat (with_reducible refine wp_seq ?_)); refine wp_region_lit ?_
  (repeat (first | refine wl_run orcCh_ok 1 rfl fr fun a fr => ?_ | refine wl_ldf orcCh_ok (Sat.stAt S 0 rfl rfl) fr rfl rfl rfl rfl rfl rfl rfl fun a fr => ?_))
  refine wl_build (cs := glV (zG g)) (L2 := [(0, .int .u32 g)]) fr rfl rfl rfl rfl (by simpa using (fr.ev (o := .tmp 37) rfl).1) (by kernel_rfl) ?_ fun a fr => ?_
  · refine (show (glV (zG g)).all vok1 = true from ?_)
    show ((Lit.int .u32 g).wf && _) = true
    rw [hmg.g]
    rfl
  refine wl_boxs fr rfl rfl rfl rfl rfl ?_ S ?_
  · refine (show (glV (zG g)).all vok = true from ?_)
    show ((Lit.int .u32 g).wf && _) = true
    rw [hmg.g]
    rfl
  intro w3 bz S a fr
  refine wl_makeb (xs := [.pointer (some ⟨bz, 0, none⟩)]) fr rfl rfl rfl rfl rfl fun a fr => ?_
  (repeat (refine wl_run orcCh_ok 1 rfl fr fun a fr => ?_))
  refine wpList_nil ?_; (repeat (with_reducible refine then_n ?_))
  skip; (repeat (with_reducible refine wp_seq ?_))
  refine wp_block ?_
  skip; (repeat (with_reducible refine wp_seq ?_)); refine wp_region_lit ?_
  refine wl_lit (xs := [2, 3, 6, 7]) orcCh_ok litSay fr rfl rfl rfl rfl ⟨rfl, rfl, rfl, rfl, rfl, rfl, rfl, rfl, trivial⟩ rfl rfl S ?_
  intro w4 A4 c4 S a fr
  have hm4 := S.own.2
  have hk4 := Sat.ownAt S 0 rfl
  (repeat (first | refine wl_run orcCh_ok 1 rfl fr fun a fr => ?_ | refine wl_ldf orcCh_ok (Sat.stAt S 0 rfl rfl) fr rfl rfl rfl rfl rfl rfl rfl fun a fr => ?_ | refine wl_ldf orcCh_ok (Sat.stAt S 1 rfl rfl) fr rfl rfl rfl rfl rfl rfl rfl fun a fr => ?_ | refine wl_ldf orcCh_ok (Sat.stAt S 2 rfl rfl) fr rfl rfl rfl rfl rfl rfl rfl fun a fr => ?_))
  refine wl_call fr rfl rfl rfl rfl enHasSay (hasSay_call hk4 hm4 hmg.s) ?_
  rintro _ w5 ⟨rfl, rfl⟩
  refine ⟨_, rfl, rfl, fun a fr => ?_⟩
  (repeat (refine wl_run orcCh_ok 1 rfl fr fun a fr => ?_))
  refine wpList_nil ?_; (repeat (with_reducible refine then_n ?_))
  have S : Sat w0 w5 (stA 42 bg (mgV s k t g Ao no co Ar rs.length cr) :: chS b bl bm last bk :: logA bl bd x :: diskA bd D :: ckS bk bw now :: ckM bw m :: glM bm gs :: glA (bz, zG g) :: (gsT gs ++ R)) := ((((((((S.frontAt 1 rfl).frontAt 4 rfl).frontAt 8 rfl).frontAt 8 rfl).frontAt 8 rfl).frontAt 8 rfl).frontAt 8 rfl).frontAt 8 rfl).mask [true, true, true, true, true, true, true, true, false]
  refine bs 41 fr rfl (fun q5 fr => ?_) (fun q5 fr => ?_)
  · have q5 : (!sayOk s) = true := q5
    skip; (repeat (with_reducible refine wp_seq ?_))
    refine cw_t fr rfl ?_
    skip; (repeat (with_reducible refine wp_seq ?_)); refine wp_region_lit ?_
    (repeat (refine wl_run orcCh_ok 1 rfl fr fun a fr => ?_))
    refine wpList_nil ?_; (repeat (with_reducible refine then_n ?_))
    refine wp_ret ?_
    skip; (repeat (first | (with_reducible refine then_r ?_) | (with_reducible refine blk_r ?_) | (with_reducible refine ng_r ?_)))
    exact nope fr rfl rfl rfl (by unfold cameS; rw [hq, q5]; rfl) (by unfold cameO; rw [hq, q5]; rfl) (S.frontAt 7 rfl).tl
  have q5 : (!sayOk s) = false := q5
  skip; (repeat (with_reducible refine wp_seq ?_))
  refine cw_f fr rfl ?_
  have fr := fr.sub (L' := [(0, .pointer (some ⟨b, 0, none⟩)), (3, .pointer (some ⟨bg, 0, none⟩)), (6, ptO ((lkM (keysG gs) g).getD none)), (7, .func (.func 39) #[.pointer (some ⟨bz, 0, none⟩)] #[])]) ⟨rfl, rfl, rfl, rfl, trivial⟩
  cases hi : idxG (gs.map (·.2)) g with
  | none =>
    have hfd : findG (ss0 gs m x D).gs g = none := by
      show ((idxG (gs.map fun p => gl0 p.2) g).bind _) = none
      rw [idx0, hi]
      rfl
    have eS : cameS (ss0 gs m x D) s k t g (rawL rs) = ss0 gs m x D := by
      unfold cameS
      rw [hq, q5, hfd]
      rfl
    have eO : cameO (ss0 gs m x D) s k t g (rawL rs) = (if asks s then [(5, (k : Int), g)] else [], 0) := by
      unfold cameO
      rw [hq, q5, hfd]
      rfl
    rw [lkG_none hi] at fr
    have fr := fr.spell (d := 6) rfl (show ptO ((none : Option (Option Nat)).getD none) = .pointer none from rfl)
    (repeat (with_reducible refine wp_seq ?_))
    refine wp_region_sl [.one (0, true, some 48), .one (1, true, some 49), .one (2, true, some 50), .one (3, true, some 51), .one (4, true, some 52), .one (5, true, some 53), .one (6, true, some 54), .one (7, true, some 55), .one (8, true, some 56), .one (9, true, some 57), .one (10, true, some 58), .one (11, true, some 59), .one (12, true, some 60), .one (13, true, some 61), .one (14, true, some 62), .one (15, true, some 63), .one (16, true, some 64), .one (17, true, some 65), .one (18, true, some 66), .one (19, true, some 47)]
                [.one ⟨true, some 48, (Go.Op.move (Go.Operand.tmp 6)), 83, none⟩,
                .one ⟨true, some 49, (Go.Op.binOp Go.BinOp.neq 83 (Go.Operand.tmp 48) (Go.Operand.const (Go.Value.pointer none)) 83), 4, none⟩,
                .one ⟨true, some 50, (Go.Op.move (Go.Operand.tmp 49)), 4, none⟩,
                .one ⟨true, some 51, (Go.Op.move (Go.Operand.tmp 6)), 83, some (50, true)⟩,
                .one ⟨true, some 52, (Go.Op.nilCheck (Go.Operand.tmp 51)), 0, some (50, true)⟩,
                .one ⟨true, some 53, (Go.Op.fieldAddr 88 (Go.Operand.tmp 52) 3), 0, some (50, true)⟩,
                .one ⟨true, some 54, (Go.Op.load 4 (Go.Operand.tmp 53)), 4, some (50, true)⟩,
                .one ⟨true, some 55, (Go.Op.pick (Go.Operand.tmp 50) (Go.Operand.tmp 54) (Go.Operand.const (Go.Value.bool false))), 4, none⟩,
                .one ⟨true, some 56, (Go.Op.move (Go.Operand.tmp 55)), 4, none⟩,
                .one ⟨true, some 57, (Go.Op.move (Go.Operand.tmp 6)), 83, some (56, true)⟩,
                .one ⟨true, some 58, (Go.Op.fieldAddr 42 (Go.Operand.tmp 3) 1), 0, some (56, true)⟩,
                .one ⟨true, some 59, (Go.Op.load 5 (Go.Operand.tmp 58)), 5, some (56, true)⟩,
                .one ⟨true, some 60, (Go.Op.nilCheck (Go.Operand.tmp 57)), 0, some (56, true)⟩,
                .one ⟨true, some 61, (Go.Op.fieldAddr 88 (Go.Operand.tmp 60) 5), 0, some (56, true)⟩,
                .one ⟨true, some 62, (Go.Op.indexAddr 86 (Go.Operand.tmp 61) (Go.Operand.tmp 59)), 0, some (56, true)⟩,
                .one ⟨true, some 63, (Go.Op.fieldAddr 85 (Go.Operand.tmp 62) 0), 0, some (56, true)⟩,
                .one ⟨true, some 64, (Go.Op.load 4 (Go.Operand.tmp 63)), 4, some (56, true)⟩,
                .one ⟨true, some 65, (Go.Op.unOp Go.UnOp.not 4 (Go.Operand.tmp 64)), 4, some (56, true)⟩,
                .one ⟨true, some 66, (Go.Op.pick (Go.Operand.tmp 56) (Go.Operand.tmp 65) (Go.Operand.const (Go.Value.bool false))), 4, none⟩,
                .one ⟨true, some 47, (Go.Op.assign (Go.Operand.tmp 66)), 4, none⟩]
                (fun _ => True) rfl (by kernel_rfl) (by kernel_rfl) ?_ ?_
    · exact trivial
    have hS : True := trivial
    have S := S.drew
    (repeat (refine sl_run orcCh_ok 1 rfl fr fun a fr => ?_))
    refine sl_end ?_
    (repeat (with_reducible refine then_n ?_))
    skip; (repeat (with_reducible refine wp_seq ?_))
    refine cw_f fr rfl ?_
    skip; (repeat (with_reducible refine wp_seq ?_)); refine wp_region_lit ?_
    (repeat (refine wl_run orcCh_ok 1 rfl fr fun a fr => ?_))
    refine wpList_nil ?_; (repeat (with_reducible refine then_n ?_))
    skip; (repeat (with_reducible refine wp_seq ?_))
    refine cw_f fr rfl ?_
    skip; (repeat (with_reducible refine wp_seq ?_)); refine wp_region_lit ?_
    (repeat (refine wl_run orcCh_ok 1 rfl fr fun a fr => ?_))
    refine wpList_nil ?_; (repeat (with_reducible refine then_n ?_))
    skip; (repeat (with_reducible refine wp_seq ?_))
    refine cw_f fr rfl ?_
    refine wp_skip ?_
    (repeat (first | (with_reducible refine then_n ?_) | (with_reducible refine blk_n ?_)))
    have S : Sat w0 _ (stA 42 bg (mgV s k t g Ao no co Ar rs.length cr) :: glA (bz, zG g) :: chS b bl bm last bk :: logA bl bd x :: diskA bd D :: ckS bk bw now :: ckM bw m :: glM bm gs :: (gsT gs ++ R)) := (S.frontAt 7 rfl).frontAt 1 rfl
    skip; (repeat (with_reducible refine wp_seq ?_)); refine wp_region_lit ?_
    (repeat (first | refine wl_run orcCh_ok 1 rfl fr fun a fr => ?_ | refine wl_ldf orcCh_ok (Sat.stAt S 0 rfl rfl) fr rfl rfl rfl rfl rfl rfl rfl fun a fr => ?_))
    refine bs 89 fr rfl (fun q6 fr => ?_) (fun q6 fr => ?_)
    · have ha : asks s = true := by unfold asks; rw [q6]; rfl
      (repeat (first | refine wl_run orcCh_ok 1 rfl fr fun a fr => ?_ | refine wl_ldf orcCh_ok (Sat.stAt S 0 rfl rfl) fr rfl rfl rfl rfl rfl rfl rfl fun a fr => ?_))
      (
    refine wpList_nil ?_; (repeat (with_reducible refine then_n ?_))
    skip; (repeat (with_reducible refine wp_seq ?_))
    refine cw_t fr rfl ?_
    skip; (repeat (with_reducible refine wp_seq ?_)); refine wp_region_lit ?_
    (repeat (first | refine wl_run orcCh_ok 1 rfl fr fun a fr => ?_ | refine wl_ldf orcCh_ok (Sat.stAt S 0 rfl rfl) fr rfl rfl rfl rfl rfl rfl rfl fun a fr => ?_))
    refine wl_callb (fb := [.pointer (some ⟨bz, 0, none⟩)]) fr rfl rfl rfl rfl rfl rfl rfl enDecided (decided_call hmg.f (S.frontAt 1 rfl)) ?_
    rintro _ w6 ⟨A6, c6, rfl, hv6, S⟩
    refine ⟨_, rfl, hv6, fun a fr => ?_⟩
    (repeat (refine wl_run orcCh_ok 1 rfl fr fun a fr => ?_))
    refine wpList_nil ?_; (repeat (with_reducible refine then_n ?_))
    refine wp_ret ?_
    skip; (repeat (first | (with_reducible refine then_r ?_) | (with_reducible refine blk_r ?_) | (with_reducible refine ng_r ?_)))
    rw [eS, eO, ha]
    refine ret2 fr rfl rfl rfl ⟨A6, c6, gs, rfl, vok_t2 hv6 rfl, rfl, hI, rfl, ?_⟩
    exact (((((((((S.frontAt 2 rfl).frontAt 2 rfl).frontAt 8 rfl).frontAt 8 rfl).frontAt 8 rfl).frontAt 8 rfl).frontAt 8 rfl).frontAt 8 rfl).frontAt 8 rfl).mask [true, true, true, true, true, true, true, false, false]
)
    (repeat (first | refine wl_run orcCh_ok 1 rfl fr fun a fr => ?_ | refine wl_ldf orcCh_ok (Sat.stAt S 0 rfl rfl) fr rfl rfl rfl rfl rfl rfl rfl fun a fr => ?_))
    refine bs 93 fr rfl (fun q7 fr => ?_) (fun q7 fr => ?_)
    · have ha : asks s = true := by unfold asks; rw [q6, q7]; rfl
      (
    refine wpList_nil ?_; (repeat (with_reducible refine then_n ?_))
    skip; (repeat (with_reducible refine wp_seq ?_))
    refine cw_t fr rfl ?_
    skip; (repeat (with_reducible refine wp_seq ?_)); refine wp_region_lit ?_
    (repeat (first | refine wl_run orcCh_ok 1 rfl fr fun a fr => ?_ | refine wl_ldf orcCh_ok (Sat.stAt S 0 rfl rfl) fr rfl rfl rfl rfl rfl rfl rfl fun a fr => ?_))
    refine wl_callb (fb := [.pointer (some ⟨bz, 0, none⟩)]) fr rfl rfl rfl rfl rfl rfl rfl enDecided (decided_call hmg.f (S.frontAt 1 rfl)) ?_
    rintro _ w6 ⟨A6, c6, rfl, hv6, S⟩
    refine ⟨_, rfl, hv6, fun a fr => ?_⟩
    (repeat (refine wl_run orcCh_ok 1 rfl fr fun a fr => ?_))
    refine wpList_nil ?_; (repeat (with_reducible refine then_n ?_))
    refine wp_ret ?_
    skip; (repeat (first | (with_reducible refine then_r ?_) | (with_reducible refine blk_r ?_) | (with_reducible refine ng_r ?_)))
    rw [eS, eO, ha]
    refine ret2 fr rfl rfl rfl ⟨A6, c6, gs, rfl, vok_t2 hv6 rfl, rfl, hI, rfl, ?_⟩
    exact (((((((((S.frontAt 2 rfl).frontAt 2 rfl).frontAt 8 rfl).frontAt 8 rfl).frontAt 8 rfl).frontAt 8 rfl).frontAt 8 rfl).frontAt 8 rfl).frontAt 8 rfl).mask [true, true, true, true, true, true, true, false, false]
)
    have ha : asks s = false := by unfold asks; rw [q6, q7]; rfl
    refine wpList_nil ?_; (repeat (with_reducible refine then_n ?_))
    skip; (repeat (with_reducible refine wp_seq ?_))
    refine cw_f fr rfl ?_
    refine wp_skip ?_
    (repeat (first | (with_reducible refine then_n ?_) | (with_reducible refine blk_n ?_)))
    skip; (repeat (with_reducible refine wp_seq ?_)); refine wp_region_lit ?_
    (repeat (refine wl_run orcCh_ok 1 rfl fr fun a fr => ?_))
    refine wpList_nil ?_; (repeat (with_reducible refine then_n ?_))
    skip; (repeat (with_reducible refine wp_seq ?_))
    refine cw_f fr rfl ?_
    refine wp_skip ?_
    (repeat (first | (with_reducible refine then_n ?_) | (with_reducible refine blk_n ?_)))
    skip; (repeat (with_reducible refine wp_seq ?_)); refine wp_region_lit ?_
    (repeat (refine wl_run orcCh_ok 1 rfl fr fun a fr => ?_))
    refine wpList_nil ?_; (repeat (with_reducible refine then_n ?_))
    refine wp_ret ?_
    skip; (repeat (first | (with_reducible refine then_r ?_) | (with_reducible refine blk_r ?_) | (with_reducible refine ng_r ?_)))
    exact nope fr rfl rfl rfl eS (by rw [eO, ha]; rfl) (S.frontAt 1 rfl).tl
  | some j =>
    obtain ⟨hj, h1, h2⟩ := lkG_at hi
    obtain ⟨bx, hbx⟩ : ∃ bx, bx = gs[j].1 := ⟨_, rfl⟩
    obtain ⟨G, hG⟩ : ∃ G, G = gs[j].2 := ⟨_, rfl⟩
    have hIG : GlI G := by rw [hG]; exact hI _ (List.getElem_mem hj)
    have h4G := hIG.len
    have hGg : G.g = g := by rw [hG]; exact h2
    have hat : ((ss0 gs m x D).gs)[j]? = some (gl0 G) := by
      show (gs.map fun p => gl0 p.2)[j]? = _
      rw [List.getElem?_map, List.getElem?_eq_getElem hj, hG]; rfl
    have hfd : findG (ss0 gs m x D).gs g = some (j, gl0 G) := by
      show ((idxG (gs.map fun p => gl0 p.2) g).bind _) = _
      rw [idx0, hi]
      show (((ss0 gs m x D).gs)[j]?).map _ = _
      rw [hat]
      rfl
    have eS : cameS (ss0 gs m x D) s k t g (rawL rs) = cameG (ss0 gs m x D) (gl0 G) j s k (rawL rs) := by
      unfold cameS
      rw [hq, q5, hfd]
      rfl
    have eO : cameO (ss0 gs m x D) s k t g (rawL rs) = (cameGO (ss0 gs m x D) (gl0 G) s k (rawL rs), 0) := by
      unfold cameO
      rw [hq, q5, hfd]
      rfl
    rw [h1] at fr
    have fr := fr.spell (d := 6) rfl (show ptO ((some (some gs[j].1) : Option (Option Nat)).getD none) = .pointer (some ⟨bx, 0, none⟩) by rw [hbx]; rfl)
    have back : (chL b bl bm last bk bw now bd bx ⟨G, m, x, D⟩ (glM bm gs :: (gsT (gs.eraseIdx j) ++ R))).Perm (chW b bl bm last bk bw now bd gs m x D R) := by
      have := unfocus_perm (R := R) (b := b) (bl := bl) (bm := bm) (last := last) (bk := bk) (bw := bw) (now := now) (bd := bd) hj (C := ⟨G, m, x, D⟩) (by rw [hG])
      rw [show gs.set j (gs[j].1, (⟨G, m, x, D⟩ : Cs RawV).G) = gs by show gs.set j (gs[j].1, G) = gs; rw [hG]; exact List.set_getElem_self hj, ← hbx] at this
      exact this
    have S : Sat w0 w5 (stA 42 bg (mgV s k t g Ao no co Ar rs.length cr) :: chW b bl bm last bk bw now bd gs m x D R) := (S.frontAt 7 rfl).tl
    have S := S.perm (List.Perm.cons _ back.symm)
    have fin : ∀ {A' : Option Addr} {c' : Nat} {os : List PM} {K : Cs RawV} {w' : World}, K.G.g = G.g → GlI K.G → cameG (ss0 gs m x D) (gl0 G) j s k (rawL rs) = putC (ss0 gs m x D) j (cs0 K) → cameGO (ss0 gs m x D) (gl0 G) s k (rawL rs) = os → vok (.slice A' os.length os.length) = true → Sat w0 w' (pmA A' c' os :: chL b bl bm last bk bw now bd bx K (glM bm gs :: (gsT (gs.eraseIdx j) ++ R))) → ∃ (A2 : Option Addr) (c2 : Nat) (gs' : Gs), (.returned (.tuple #[.slice A' os.length os.length, .int .i64 0]) : Ending) = .returned (.tuple #[.slice A2 (cameO (ss0 gs m x D) s k t g (rawL rs)).1.length (cameO (ss0 gs m x D) s k t g (rawL rs)).1.length, .int .i64 (cameO (ss0 gs m x D) s k t g (rawL rs)).2]) ∧ vok (.tuple #[.slice A2 (cameO (ss0 gs m x D) s k t g (rawL rs)).1.length (cameO (ss0 gs m x D) s k t g (rawL rs)).1.length, .int .i64 (cameO (ss0 gs m x D) s k t g (rawL rs)).2]) = true ∧
      (gs'.map fun p => gl0 p.2) = (cameS (ss0 gs m x D) s k t g (rawL rs)).gs ∧ (∀ p ∈ gs', GlI p.2) ∧ keysG gs' = keysG gs ∧ Sat w0 w' (pmA A2 c2 (cameO (ss0 gs m x D) s k t g (rawL rs)).1 :: chW b bl bm last bk bw now bd gs' (cameS (ss0 gs m x D) s k t g (rawL rs)).m (cameS (ss0 gs m x D) s k t g (rawL rs)).x (cameS (ss0 gs m x D) s k t g (rawL rs)).D R) := by
      intro A' c' os K w' hKg hKI e1 e2 hv S
      rw [eS, eO, e1, e2]
      have hg2 : K.G.g = gs[j].2.g := by rw [hKg, hG]
      refine ⟨A', c', gs.set j (gs[j].1, K.G), rfl, vok_t2 hv rfl, ?_, ?_, keys_set hj rfl hg2, ?_⟩
      · show (gs.set j (gs[j].1, K.G)).map (fun p => gl0 p.2) = ((ss0 gs m x D).gs).set j (gl0 K.G)
        rw [List.map_set]
        rfl
      · intro p hp
        rcases List.mem_or_eq_of_mem_set hp with hp | rfl
        · exact hI p hp
        · exact hKI
      · have h9 := unfocus_perm (R := R) (b := b) (bl := bl) (bm := bm) (last := last) (bk := bk) (bw := bw) (now := now) (bd := bd) (C := K) hj hg2
        rw [← hbx] at h9
        have h10 := S.perm (List.Perm.cons _ h9)
        rw [← hbx]
        exact h10
    have S : Sat w0 _ (stA 42 bg (mgV s k t g Ao no co Ar rs.length cr) :: glA (bx, G) :: chS b bl bm last bk :: logA bl bd x :: diskA bd D :: ckS bk bw now :: ckM bw m :: (glR (bx, G) ++ (glM bm gs :: (gsT (gs.eraseIdx j) ++ R)))) := (((((((S.frontAt 5 rfl).frontAt 5 rfl).frontAt 5 rfl).frontAt 5 rfl).frontAt 5 rfl).frontAt 6 rfl).frontAt 6 rfl)
    have hR1 : ∀ w', Sat w0 w' (glM bm gs :: (gsT (gs.eraseIdx j) ++ R)) → RdRaw w' Ar rs := fun w' S' => hR w' (Sat.lastsT (glM bm gs :: gsT (gs.eraseIdx j)) S')
    generalize hRR : (glM bm gs :: (gsT (gs.eraseIdx j) ++ R)) = R1 at S hR1 back fin
    have hk4 : k < 4 := by omega
    have hkv : k < G.v.length := by omega
    have hpk : partAt G k = G.v[k].part := by unfold partAt; rw [List.getElem?_eq_getElem hkv]
    have same : cameG (ss0 gs m x D) (gl0 G) j s k (rawL rs) = ss0 gs m x D → cameS (ss0 gs m x D) s k t g (rawL rs) = ss0 gs m x D := fun h => eS.trans h
    have home : ∀ {w' : World}, Sat w0 w' (stA 42 bg (mgV s k t g Ao no co Ar rs.length cr) :: glA (bx, G) :: chS b bl bm last bk :: logA bl bd x :: diskA bd D :: ckS bk bw now :: ckM bw m :: (glR (bx, G) ++ R1)) → Sat w0 w' (stA 42 bg (mgV s k t g Ao no co Ar rs.length cr) :: chW b bl bm last bk bw now bd gs m x D R) := by
      intro w' S
      have S : Sat w0 w' (stA 42 bg (mgV s k t g Ao no co Ar rs.length cr) :: chL b bl bm last bk bw now bd bx ⟨G, m, x, D⟩ R1) := (((((((S.frontAt 1 rfl).frontAt 6 rfl).frontAt 6 rfl).frontAt 6 rfl).frontAt 6 rfl).frontAt 6 rfl).frontAt 6 rfl)
      exact S.perm (List.Perm.cons _ back)
    (repeat (with_reducible refine wp_seq ?_))
    refine cw_at (fun a w => FrD [] 110 a [(0, .pointer (some ⟨b, 0, none⟩)), (3, .pointer (some ⟨bg, 0, none⟩)), (6, .pointer (some ⟨bx, 0, none⟩)), (7, .func (.func 39) #[.pointer (some ⟨bz, 0, none⟩)] #[]), (47, .bool (G.kn && !partAt G k))] ∧ Sat w0 w (stA 42 bg (mgV s k t g Ao no co Ar rs.length cr) :: glA (bx, G) :: chS b bl bm last bk :: logA bl bd x :: diskA bd D :: ckS bk bw now :: ckM bw m :: (glR (bx, G) ++ R1))) ?_ ?_
    · refine wp_region_sl [.one (0, true, some 48), .one (1, true, some 49), .one (2, true, some 50), .one (3, true, some 51), .one (4, true, some 52), .one (5, true, some 53), .one (6, true, some 54), .one (7, true, some 55), .one (8, true, some 56), .one (9, true, some 57), .one (10, true, some 58), .one (11, true, some 59), .one (12, true, some 60), .one (13, true, some 61), .one (14, true, some 62), .one (15, true, some 63), .one (16, true, some 64), .one (17, true, some 65), .one (18, true, some 66), .one (19, true, some 47)]
                [.one ⟨true, some 48, (Go.Op.move (Go.Operand.tmp 6)), 83, none⟩,
                .one ⟨true, some 49, (Go.Op.binOp Go.BinOp.neq 83 (Go.Operand.tmp 48) (Go.Operand.const (Go.Value.pointer none)) 83), 4, none⟩,
                .one ⟨true, some 50, (Go.Op.move (Go.Operand.tmp 49)), 4, none⟩,
                .one ⟨true, some 51, (Go.Op.move (Go.Operand.tmp 6)), 83, some (50, true)⟩,
                .one ⟨true, some 52, (Go.Op.nilCheck (Go.Operand.tmp 51)), 0, some (50, true)⟩,
                .one ⟨true, some 53, (Go.Op.fieldAddr 88 (Go.Operand.tmp 52) 3), 0, some (50, true)⟩,
                .one ⟨true, some 54, (Go.Op.load 4 (Go.Operand.tmp 53)), 4, some (50, true)⟩,
                .one ⟨true, some 55, (Go.Op.pick (Go.Operand.tmp 50) (Go.Operand.tmp 54) (Go.Operand.const (Go.Value.bool false))), 4, none⟩,
                .one ⟨true, some 56, (Go.Op.move (Go.Operand.tmp 55)), 4, none⟩,
                .one ⟨true, some 57, (Go.Op.move (Go.Operand.tmp 6)), 83, some (56, true)⟩,
                .one ⟨true, some 58, (Go.Op.fieldAddr 42 (Go.Operand.tmp 3) 1), 0, some (56, true)⟩,
                .one ⟨true, some 59, (Go.Op.load 5 (Go.Operand.tmp 58)), 5, some (56, true)⟩,
                .one ⟨true, some 60, (Go.Op.nilCheck (Go.Operand.tmp 57)), 0, some (56, true)⟩,
                .one ⟨true, some 61, (Go.Op.fieldAddr 88 (Go.Operand.tmp 60) 5), 0, some (56, true)⟩,
                .one ⟨true, some 62, (Go.Op.indexAddr 86 (Go.Operand.tmp 61) (Go.Operand.tmp 59)), 0, some (56, true)⟩,
                .one ⟨true, some 63, (Go.Op.fieldAddr 85 (Go.Operand.tmp 62) 0), 0, some (56, true)⟩,
                .one ⟨true, some 64, (Go.Op.load 4 (Go.Operand.tmp 63)), 4, some (56, true)⟩,
                .one ⟨true, some 65, (Go.Op.unOp Go.UnOp.not 4 (Go.Operand.tmp 64)), 4, some (56, true)⟩,
                .one ⟨true, some 66, (Go.Op.pick (Go.Operand.tmp 56) (Go.Operand.tmp 65) (Go.Operand.const (Go.Value.bool false))), 4, none⟩,
                .one ⟨true, some 47, (Go.Op.assign (Go.Operand.tmp 66)), 4, none⟩]
                (fun v => Sat w0 v [stA 42 bg (mgV s k t g Ao no co Ar rs.length cr), glA (bx, G)]) rfl (by kernel_rfl) (by kernel_rfl) ?_ ?_
      · exact S.drew.firsts [_, _]
      have S := S.drew
      have hS : Sat w0 _ [stA 42 bg (mgV s k t g Ao no co Ar rs.length cr), glA (bx, G)] := S.firsts [_, _]
      (repeat (first | refine sl_run orcCh_ok 1 rfl fr fun a fr => ?_ | refine sl_ldf orcCh_ok (fun _ S => Sat.stAt S 0 rfl rfl) fr rfl rfl rfl rfl rfl rfl rfl rfl (by assumption) fun a fr => ?_ | refine sl_ldf orcCh_ok (fun _ S => Sat.stAt S 1 rfl rfl) fr rfl rfl rfl rfl rfl rfl rfl rfl (by assumption) fun a fr => ?_))
      refine bs 56 fr rfl (fun q8 fr => ?_) (fun q8 fr => ?_)
      · (repeat (first | refine sl_run orcCh_ok 1 rfl fr fun a fr => ?_ | refine sl_ldf orcCh_ok (fun _ S => Sat.stAt S 0 rfl rfl) fr rfl rfl rfl rfl rfl rfl rfl rfl (by assumption) fun a fr => ?_ | refine sl_ldf orcCh_ok (fun _ S => Sat.stAt S 1 rfl rfl) fr rfl rfl rfl rfl rfl rfl rfl rfl (by assumption) fun a fr => ?_))
        refine sl_ixa orcCh_ok fr rfl rfl rfl rfl rfl rfl rfl rfl rfl ⟨by omega, by omega⟩ fun a fr => ?_
        (repeat (refine sl_run orcCh_ok 1 rfl fr fun a fr => ?_))
        refine sl_ldf orcCh_ok (v := .bool G.v[k].part) (fun w9 S => ⟨(show w9.cell? ((((⟨bx, 0, none⟩ : Addr).add 5).add (k * 4)).add 0) = some (.bool G.v[k].part) by rw [vt_addr]; exact (Sat.stAt S 1 rfl (gl_at (j := 0) hkv rfl)).1), rfl⟩) fr rfl rfl rfl rfl rfl rfl rfl rfl hS fun a fr => ?_
        (repeat (refine sl_run orcCh_ok 1 rfl fr fun a fr => ?_))
        refine sl_end ?_
        (repeat (with_reducible refine then_n ?_))
        rw [hpk, q8]
        exact ⟨fr.sub ⟨rfl, rfl, rfl, rfl, rfl, trivial⟩, S⟩
      · (repeat (first | refine sl_run orcCh_ok 1 rfl fr fun a fr => ?_ | refine sl_ldf orcCh_ok (fun _ S => Sat.stAt S 0 rfl rfl) fr rfl rfl rfl rfl rfl rfl rfl rfl (by assumption) fun a fr => ?_ | refine sl_ldf orcCh_ok (fun _ S => Sat.stAt S 1 rfl rfl) fr rfl rfl rfl rfl rfl rfl rfl rfl (by assumption) fun a fr => ?_))
        refine sl_end ?_
        (repeat (with_reducible refine then_n ?_))
        rw [hpk, q8]
        exact ⟨fr.sub ⟨rfl, rfl, rfl, rfl, rfl, trivial⟩, S⟩
    clear fr S
    rintro a w6 ⟨fr, S⟩
    refine bs 47 fr rfl (fun q8 fr => ?_) (fun q8 fr => ?_)
    · skip; (repeat (with_reducible refine wp_seq ?_))
      refine cw_t fr rfl ?_
      skip; (repeat (with_reducible refine wp_seq ?_)); refine wp_region_lit ?_
      (repeat (refine wl_run orcCh_ok 1 rfl fr fun a fr => ?_))
      refine wpList_nil ?_; (repeat (with_reducible refine then_n ?_))
      refine wp_ret ?_
      skip; (repeat (first | (with_reducible refine then_r ?_) | (with_reducible refine blk_r ?_) | (with_reducible refine ng_r ?_)))
      refine nope fr rfl rfl rfl (same ?_) ?_ (home S)
      · unfold cameG; rw [part0]; exact if_pos q8
      · rw [eO]; unfold cameGO; rw [part0]; rw [if_pos (show ((gl0 G).kn && !partAt G (k : Int).toNat) = true from q8)]
    have eG : cameG (ss0 gs m x D) (gl0 G) j s k (rawL rs) = if (G.ph == 1) = true then putC (ss0 gs m x D) j (doingC (ofC (ss0 gs m x D) (gl0 G)) s k (rawL rs)) else if asks s then ss0 gs m x D else if (s == 6) = true then putC (ss0 gs m x D) j (doneC (ofC (ss0 gs m x D) (gl0 G)) k) else ss0 gs m x D := by
      unfold cameG; rw [part0, if_neg (show ¬ ((gl0 G).kn && !partAt G (k : Int).toNat) = true by rw [show ((gl0 G).kn && !partAt G (k : Int).toNat) = false from q8]; decide)]; rfl
    have eGO : cameGO (ss0 gs m x D) (gl0 G) s k (rawL rs) = if (G.ph == 1) = true then doingO (ofC (ss0 gs m x D) (gl0 G)) s k (rawL rs) else if asks s then [((if G.com = true then 4 else 5), (k : Int), G.g)] else [] := by
      unfold cameGO; rw [part0, if_neg (show ¬ ((gl0 G).kn && !partAt G (k : Int).toNat) = true by rw [show ((gl0 G).kn && !partAt G (k : Int).toNat) = false from q8]; decide)]; rfl
    skip; (repeat (with_reducible refine wp_seq ?_))
    refine cw_f fr rfl ?_
    skip; (repeat (with_reducible refine wp_seq ?_)); refine wp_region_lit ?_
    (repeat (first | refine wl_run orcCh_ok 1 rfl fr fun a fr => ?_ | refine wl_ldf orcCh_ok (Sat.stAt S 0 rfl rfl) fr rfl rfl rfl rfl rfl rfl rfl fun a fr => ?_ | refine wl_ldf orcCh_ok (Sat.stAt S 1 rfl rfl) fr rfl rfl rfl rfl rfl rfl rfl fun a fr => ?_))
    refine wpList_nil ?_; (repeat (with_reducible refine then_n ?_))
    refine bs 67 fr rfl (fun q9 fr => ?_) (fun q9 fr => ?_)
    · have q9 : (G.ph == 1) = true := q9
      rw [if_pos q9] at eG eGO
      skip; (repeat (with_reducible refine wp_seq ?_))
      refine cw_t fr rfl ?_
      skip; (repeat (with_reducible refine wp_seq ?_)); refine wp_region_lit ?_
      (repeat (refine wl_run orcCh_ok 1 rfl fr fun a fr => ?_))
      refine wl_ldsub orcCh_ok (cs := mgV s k t g Ao no co Ar rs.length cr) (fun j u hu => (Sat.stAt S 0 rfl hu).1) (hmg.ok Ao Ar) fr rfl rfl rfl rfl rfl rfl rfl rfl fun a fr => ?_
      have S : Sat w0 w6 (chL b bl bm last bk bw now bd bx ⟨G, m, x, D⟩ R1) := (((((((S.frontAt 1 rfl).frontAt 6 rfl).frontAt 6 rfl).frontAt 6 rfl).frontAt 6 rfl).frontAt 6 rfl).frontAt 6 rfl).tl
      refine wl_call fr rfl rfl rfl rfl enDoing (doing_call ⟨G, m, x, D⟩ hk4 rfl hmg hR1 hW hrb hrr h4G hb S) ?_
      rintro _ w7 ⟨A7, c7, A8, c8, rfl, hv7, S⟩
      refine ⟨_, rfl, hv7, fun a fr => ?_⟩
      (repeat (refine wl_run orcCh_ok 1 rfl fr fun a fr => ?_))
      refine wpList_nil ?_; (repeat (with_reducible refine then_n ?_))
      refine wp_ret ?_
      skip; (repeat (first | (with_reducible refine then_r ?_) | (with_reducible refine blk_r ?_) | (with_reducible refine ng_r ?_)))
      refine ret2 fr rfl rfl rfl (fin (doingC_g _ _ _ _) (hIG.doing (C := ⟨G, m, x, D⟩) s k (l := (A8, c8, rawL rs)) hRB) ?_ ?_ hv7 S)
      · rw [eG, doing0]; rfl
      · rw [eGO, ← doingO0]; rfl
    have q9 : (G.ph == 1) = false := q9
    rw [if_neg (by rw [q9]; decide)] at eG eGO
    skip; (repeat (with_reducible refine wp_seq ?_))
    refine cw_f fr rfl ?_
    skip; (repeat (with_reducible refine wp_seq ?_)); refine wp_region_lit ?_
    (repeat (refine wl_run orcCh_ok 1 rfl fr fun a fr => ?_))
    refine wpList_nil ?_; (repeat (with_reducible refine then_n ?_))
    skip; (repeat (with_reducible refine wp_seq ?_))
    refine cw_t fr rfl ?_
    skip; (repeat (with_reducible refine wp_seq ?_)); refine wp_region_lit ?_
    (repeat (refine wl_run orcCh_ok 1 rfl fr fun a fr => ?_))
    refine wl_makeb (xs := [.pointer (some ⟨bx, 0, none⟩)]) fr rfl rfl rfl rfl rfl fun a fr => ?_
    (repeat (refine wl_run orcCh_ok 1 rfl fr fun a fr => ?_))
    refine wpList_nil ?_; (repeat (with_reducible refine then_n ?_))
    (repeat (first | (with_reducible refine then_n ?_) | (with_reducible refine blk_n ?_)))
    skip; (repeat (with_reducible refine wp_seq ?_)); refine wp_region_lit ?_
    (repeat (first | refine wl_run orcCh_ok 1 rfl fr fun a fr => ?_ | refine wl_ldf orcCh_ok (Sat.stAt S 0 rfl rfl) fr rfl rfl rfl rfl rfl rfl rfl fun a fr => ?_))
    refine bs 89 fr rfl (fun q6 fr => ?_) (fun q6 fr => ?_)
    · have ha : asks s = true := by unfold asks; rw [q6]; rfl
      (repeat (first | refine wl_run orcCh_ok 1 rfl fr fun a fr => ?_ | refine wl_ldf orcCh_ok (Sat.stAt S 0 rfl rfl) fr rfl rfl rfl rfl rfl rfl rfl fun a fr => ?_))
      (
    refine wpList_nil ?_; (repeat (with_reducible refine then_n ?_))
    skip; (repeat (with_reducible refine wp_seq ?_))
    refine cw_t fr rfl ?_
    skip; (repeat (with_reducible refine wp_seq ?_)); refine wp_region_lit ?_
    (repeat (first | refine wl_run orcCh_ok 1 rfl fr fun a fr => ?_ | refine wl_ldf orcCh_ok (Sat.stAt S 0 rfl rfl) fr rfl rfl rfl rfl rfl rfl rfl fun a fr => ?_))
    refine wl_callb (fb := [.pointer (some ⟨bx, 0, none⟩)]) fr rfl rfl rfl rfl rfl rfl rfl enDecided (decided_call hmg.f (S.frontAt 1 rfl)) ?_
    rintro _ w7 ⟨A7, c7, rfl, hv7, S⟩
    refine ⟨_, rfl, hv7, fun a fr => ?_⟩
    (repeat (refine wl_run orcCh_ok 1 rfl fr fun a fr => ?_))
    refine wpList_nil ?_; (repeat (with_reducible refine then_n ?_))
    refine wp_ret ?_
    skip; (repeat (first | (with_reducible refine then_r ?_) | (with_reducible refine blk_r ?_) | (with_reducible refine ng_r ?_)))
    rw [if_pos ha] at eG eGO
    rw [eS, eO, eG, eGO]
    have S : Sat w0 w7 (stA 42 bg (mgV s k t g Ao no co Ar rs.length cr) :: pmA A7 c7 [((if G.com = true then 4 else 5), (k : Int), G.g)] :: chL b bl bm last bk bw now bd bx ⟨G, m, x, D⟩ R1) := ((((((((S.frontAt 1 rfl).frontAt 7 rfl).frontAt 7 rfl).frontAt 7 rfl).frontAt 7 rfl).frontAt 7 rfl).frontAt 6 rfl).frontAt 7 rfl)
    exact ret2 fr rfl rfl rfl ⟨A7, c7, gs, rfl, vok_t2 hv7 rfl, rfl, hI, rfl, S.tl.perm (List.Perm.cons _ back)⟩
)
    (repeat (first | refine wl_run orcCh_ok 1 rfl fr fun a fr => ?_ | refine wl_ldf orcCh_ok (Sat.stAt S 0 rfl rfl) fr rfl rfl rfl rfl rfl rfl rfl fun a fr => ?_))
    refine bs 93 fr rfl (fun q7 fr => ?_) (fun q7 fr => ?_)
    · have ha : asks s = true := by unfold asks; rw [q6, q7]; rfl
      (
    refine wpList_nil ?_; (repeat (with_reducible refine then_n ?_))
    skip; (repeat (with_reducible refine wp_seq ?_))
    refine cw_t fr rfl ?_
    skip; (repeat (with_reducible refine wp_seq ?_)); refine wp_region_lit ?_
    (repeat (first | refine wl_run orcCh_ok 1 rfl fr fun a fr => ?_ | refine wl_ldf orcCh_ok (Sat.stAt S 0 rfl rfl) fr rfl rfl rfl rfl rfl rfl rfl fun a fr => ?_))
    refine wl_callb (fb := [.pointer (some ⟨bx, 0, none⟩)]) fr rfl rfl rfl rfl rfl rfl rfl enDecided (decided_call hmg.f (S.frontAt 1 rfl)) ?_
    rintro _ w7 ⟨A7, c7, rfl, hv7, S⟩
    refine ⟨_, rfl, hv7, fun a fr => ?_⟩
    (repeat (refine wl_run orcCh_ok 1 rfl fr fun a fr => ?_))
    refine wpList_nil ?_; (repeat (with_reducible refine then_n ?_))
    refine wp_ret ?_
    skip; (repeat (first | (with_reducible refine then_r ?_) | (with_reducible refine blk_r ?_) | (with_reducible refine ng_r ?_)))
    rw [if_pos ha] at eG eGO
    rw [eS, eO, eG, eGO]
    have S : Sat w0 w7 (stA 42 bg (mgV s k t g Ao no co Ar rs.length cr) :: pmA A7 c7 [((if G.com = true then 4 else 5), (k : Int), G.g)] :: chL b bl bm last bk bw now bd bx ⟨G, m, x, D⟩ R1) := ((((((((S.frontAt 1 rfl).frontAt 7 rfl).frontAt 7 rfl).frontAt 7 rfl).frontAt 7 rfl).frontAt 7 rfl).frontAt 6 rfl).frontAt 7 rfl)
    exact ret2 fr rfl rfl rfl ⟨A7, c7, gs, rfl, vok_t2 hv7 rfl, rfl, hI, rfl, S.tl.perm (List.Perm.cons _ back)⟩
)
    have ha : asks s = false := by unfold asks; rw [q6, q7]; rfl
    rw [if_neg (by rw [ha]; decide)] at eG eGO
    refine wpList_nil ?_; (repeat (with_reducible refine then_n ?_))
    skip; (repeat (with_reducible refine wp_seq ?_))
    refine cw_f fr rfl ?_
    refine wp_skip ?_
    (repeat (first | (with_reducible refine then_n ?_) | (with_reducible refine blk_n ?_)))
    skip; (repeat (with_reducible refine wp_seq ?_)); refine wp_region_lit ?_
    (repeat (first | refine wl_run orcCh_ok 1 rfl fr fun a fr => ?_ | refine wl_ldf orcCh_ok (Sat.stAt S 0 rfl rfl) fr rfl rfl rfl rfl rfl rfl rfl fun a fr => ?_))
    refine wpList_nil ?_; (repeat (with_reducible refine then_n ?_))
    refine bs 104 fr rfl (fun q10 fr => ?_) (fun q10 fr => ?_)
    · have q10 : (s == 6) = true := q10
      rw [if_pos q10] at eG
      skip; (repeat (with_reducible refine wp_seq ?_))
      refine cw_t fr rfl ?_
      skip; (repeat (with_reducible refine wp_seq ?_)); refine wp_region_lit ?_
      (repeat (first | refine wl_run orcCh_ok 1 rfl fr fun a fr => ?_ | refine wl_ldf orcCh_ok (Sat.stAt S 0 rfl rfl) fr rfl rfl rfl rfl rfl rfl rfl fun a fr => ?_))
      have S := ((((((S.frontAt 6 rfl).frontAt 6 rfl).frontAt 3 rfl).frontAt 6 rfl).frontAt 6 rfl).frontAt 6 rfl)
      refine wl_call fr rfl rfl rfl rfl enDone (done_call hk4 h4G hb S) ?_
      rintro _ w7 ⟨rfl, S⟩
      refine ⟨_, rfl, rfl, fun a fr => ?_⟩
      (repeat (refine wl_run orcCh_ok 1 rfl fr fun a fr => ?_))
      refine wpList_nil ?_; (repeat (with_reducible refine then_n ?_))
      (repeat (first | (with_reducible refine then_n ?_) | (with_reducible refine blk_n ?_)))
      skip; (repeat (with_reducible refine wp_seq ?_)); refine wp_region_lit ?_
      (repeat (refine wl_run orcCh_ok 1 rfl fr fun a fr => ?_))
      refine wpList_nil ?_; (repeat (with_reducible refine then_n ?_))
      refine wp_ret ?_
      skip; (repeat (first | (with_reducible refine then_r ?_) | (with_reducible refine blk_r ?_) | (with_reducible refine ng_r ?_)))
      refine ret2 fr rfl rfl rfl (fin (A' := none) (c' := 0) (os := []) (K := doneC ⟨G, m, x, D⟩ k) (doneM_g _ _) (hIG.doneM k) ?_ ?_ rfl (noPm ?_))
      · rw [eG, doneC0]; rfl
      · rw [eGO]
      · have S : Sat w0 w7 (stA 42 bg (mgV s k t g Ao no co Ar rs.length cr) :: chL b bl bm last bk bw now bd bx (doneC ⟨G, m, x, D⟩ k) (glM bm gs :: (gsT (gs.eraseIdx j) ++ R))) := by
          have S := (((((((S.frontAt 3 rfl).frontAt 5 rfl).frontAt 5 rfl).frontAt 5 rfl).frontAt 5 rfl).frontAt 5 rfl).frontAt 6 rfl)
          have e1 : glR (bx, G) = glR (bx, doneM G k) := (doneM_R G k bx).symm
          rw [e1] at S
          rw [hRR]
          exact S
        rw [hRR] at S
        exact S.tl
    rw [if_neg (by rw [show (s == 6) = false from q10]; decide)] at eG
    skip; (repeat (with_reducible refine wp_seq ?_))
    refine cw_f fr rfl ?_
    refine wp_skip ?_
    (repeat (first | (with_reducible refine then_n ?_) | (with_reducible refine blk_n ?_)))
    skip; (repeat (with_reducible refine wp_seq ?_)); refine wp_region_lit ?_
    (repeat (refine wl_run orcCh_ok 1 rfl fr fun a fr => ?_))
    refine wpList_nil ?_; (repeat (with_reducible refine then_n ?_))
    refine wp_ret ?_
    skip; (repeat (first | (with_reducible refine then_r ?_) | (with_reducible refine blk_r ?_) | (with_reducible refine ng_r ?_)))
    exact nope fr rfl rfl rfl (same eG) (by rw [eO, eGO]) (home S)
end
end Go.Proofs.YticnjkdaccacaaaGreat.Sx
end
section
namespace Go.Proofs.YticnjkdaccacaaaGreat.Sx
open Go Go.RowKit Base _root_.Go.Proofs.YticnjkdaccacaaaGreat.Own OwnV Disk
section
variable {P : Program} {T : Orc} {ops : Array Oper} {Q : Exit → Act → World → Prop} {Df : List Deferred} {N : Nat} {a : Act} {w w0 : World} {L : Env} {R : List Asn}
theorem cw_any {c : Code} (M : Act → World → Prop) (hx : c.wp P (fun e a w => e = .normal ∧ M a w) a w) (hy : ∀ a w, M a w → Q .normal a w) : c.wp P Q a w :=
  wp_mono hx fun e a w h => by obtain ⟨rfl, h⟩ := h; exact hy _ _ h
end
section
variable {α : Type}
end
theorem enTickC : Enters Tryz.prog 9 := fun _ _ => by kernel_rfl
section
variable {w w0 : World} {R : List Asn} {b bl bm bk bw bd : Nat} {last now x : Int} {m : List (Int × Int)} {gs : Gs} {D : Dk}
end
end Go.Proofs.YticnjkdaccacaaaGreat.Sx
end
