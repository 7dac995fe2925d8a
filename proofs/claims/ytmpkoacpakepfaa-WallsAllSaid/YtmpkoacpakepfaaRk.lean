/- Steps for rows of rows, for literals that are made bytes, for text. -/
import Derived.Test.YtmpkoacpakepfaaRz
import Derived.Lib.SlBytesConst
namespace Go.Proofs.Ytmpkoacpakepfaa.Sx
open Go Go.RowKit Base Own Disk

section
variable {P : Program} {T : Orc} {ops : Array Oper} {Q : Exit → Act → World → Prop} {S' : World → Prop} {Df : List Deferred} {N : Nat} {a : Act} {w w0 : World} {L : Env} {R : List Asn}
theorem wl_taker (hT : T.Ok P) {β : Type} {o : Oper} {rest : List Oper} {t : TypeId} {x y : Operand} {d : Nat} {A : Option Addr} {l : List β} {n c e s : Nat} {ki : IntKind} {i : Int} (fr : FrD Df N a L) (hw : wantL ops L o = some true) (ho : o.op = .slice t x none (some y) none) (hd : o.dst = some d) (hlt : Nat.blt d N = true)
    (hx : ev L x = some (.slice A n c)) (hy : ev L y = some (.int ki i)) (ht : T.ty.lookup t = some (.slice e)) (hs : T.sz.lookup e = some s) (hn : n = l.length) (hb : 0 ≤ i ∧ i ≤ (l.length : Int))
    (h : ∀ a', FrD Df N a' ((d, .slice A (l.take i.toNat).length c) :: L) → wpList P ops Q rest a' w) : wpList P ops Q (o :: rest) a w := by
  subst hn
  have hv := (fr.ev hx).2
  have hv2 : l.length ≤ c ∧ c ≤ maxLen := by simpa [vok, vokC, vok1] using hv
  have hl : (l.take i.toNat).length = i.toNat := by rw [List.length_take]; omega
  exact wl_val fr hw hd hlt (take_run hT fr ho hx hy ht hs ⟨hb.1, by omega⟩ w) (vok_sl ⟨by omega, hv2.2⟩) fun a' fr' => h a' (by rw [hl]; exact fr')
theorem sl_taker (hT : T.Ok P) {β : Type} {s : SOp} {rest : List Itm} {t : TypeId} {x y : Operand} {d : Nat} {A : Option Addr} {l : List β} {n c e sz : Nat} {ki : IntKind} {i : Int} (fr : FrD Df N a L) (hw : wantS L s = some true) (hq : s.q = true) (ho : s.op = .slice t x none (some y) none) (hd : s.dst = some d) (hlt : Nat.blt d N = true)
    (hx : ev L x = some (.slice A n c)) (hy : ev L y = some (.int ki i)) (ht : T.ty.lookup t = some (.slice e)) (hs : T.sz.lookup e = some sz) (hn : n = l.length) (hb : 0 ≤ i ∧ i ≤ (l.length : Int))
    (h : ∀ a', FrD Df N a' ((d, .slice A (l.take i.toNat).length c) :: L) → SL P Q S' rest a' w) : SL P Q S' (.one s :: rest) a w := by
  subst hn
  have hv := (fr.ev hx).2
  have hv2 : l.length ≤ c ∧ c ≤ maxLen := by simpa [vok, vokC, vok1] using hv
  have hl : (l.take i.toNat).length = i.toNat := by rw [List.length_take]; omega
  exact sl_q fr hw hq hd hlt (fun w _ => take_run hT fr (o := s.oper) ho hx hy ht hs ⟨hb.1, by omega⟩ w) (vok_sl ⟨by omega, hv2.2⟩) fun a' fr' => h a' (by rw [hl]; exact fr')
/-- A literal that is made bytes. -/
theorem wl_litc {t e : TypeId} (RT : RowTy P t e .u8) (he : P.underlying e = some (.int .u8)) {o1 o2 : Oper} {rest : List Oper} {d1 d2 n : Nat} {ps : Array (Nat × Operand)} {xs : List Int} (fr : FrD Df N a L) (hw : wantL ops L o1 = some true) (hd1 : o1.dst = some d1) (hl1 : Nat.blt d1 N = true) (ho1 : o1.op = .buildSlice t n ps)
    (hw2 : wantL ops L o2 = some true) (hd2 : o2.dst = some d2) (hl2 : Nat.blt d2 N = true) (ho2 : o2.op = .convert t t (.tmp d1)) (hp : litOps L .u8 0 ps.toList xs) (hn : xs.length = n) (h0 : (Nat.blt 0 n && Nat.ble n 1000) = true) (hf : L.lookup d1 = none) (S : Sat w0 w R)
    (h : ∀ w' A c, Rk .u8 w' A xs → (xs.length ≤ c ∧ c ≤ maxLen) → Sat w0 w' R → ∀ a', FrD Df N a' ((d2, .slice A xs.length c) :: L) → wpList P ops Q rest a' w') : wpList P ops Q (o1 :: o2 :: rest) a w := by
  obtain ⟨e1, e2⟩ := litOps_eval fr hp
  simp only [Bool.and_eq_true] at h0
  have h1 : 0 < n := blt_lt h0.1
  have h2 : n ≤ 1000 := Nat.le_of_ble_eq_true h0.2
  have hml : n ≤ maxLen := Nat.le_trans h2 (by decide)
  have hr := lit_run (P := P) RT n xs hn h1 h2 w
  have hx1 : (execOp a.eval o1).run P w = .ok (.value (.slice (some ⟨w.heap.size, 0, none⟩) n n)) (w.alloc (.cells (xs.map (Value.int .u8)).toArray e)) := by
    unfold execOp
    simp only [ho1]
    have e3 : (ps.map fun (i, x) => (i, a.eval x)) = ((xs.zipIdx 0).map fun p => (p.2, Value.int .u8 p.1)).toArray := by
      apply Array.toList_inj.1
      rw [Array.toList_map]
      exact e1
    rw [Sem.run_bind, e3, hr]; rfl
  refine wl_val fr hw hd1 hl1 hx1 (vok_sl ⟨Nat.le_refl _, hml⟩) fun a1 fr1 => ?_
  have hx2 : (execOp a1.eval o2).run P (w.alloc (.cells (xs.map (Value.int .u8)).toArray e)) = .ok (.value (.slice (some ⟨w.heap.size, 0, none⟩) n n)) (w.alloc (.cells (xs.map (Value.int .u8)).toArray e ((xs.map (Value.int .u8)).toArray.size, (xs.map (Value.int .u8)).toArray.size + 1))) := by
    unfold execOp
    have e4 := (fr1.ev (o := .tmp d1) (by show ((d1, _) :: L).lookup d1 = _; rw [lookup_cons, if_pos rfl])).1
    simp only [ho2, e4]
    rw [Sem.run_bind, Lib.run_convert_bytes_const (P := P) w t e _ n n RT.ht he, Result.andThen_ok]
    rfl
  refine wl_val fr1 (want_skip hw2 hf) hd2 hl2 hx2 (vok_sl ⟨Nat.le_refl _, hml⟩) fun a2 fr2 => ?_
  have fr3 := fr2.skip2 hf
  rw [← hn] at fr3
  refine h _ _ _ ⟨Rd.block (heap_alloc_new _ _) (fun j hj => ?_), e2⟩ ⟨by omega, by omega⟩ (S.new ((Below.refl _ _).alloc (Nat.le_refl _) _)) a2 fr3
  simp [List.getElem?_eq_getElem hj, List.getD_eq_getElem?_getD]
/-- The whole of an array, as a slice. -/
theorem wl_slarr (hT : T.Ok P) {o : Oper} {rest : List Oper} {t e b n : Nat} {x : Operand} {d : Nat} {k : IntKind} {l : List Int} (hr : w.heap[b]? = some (.cells (l.map (Value.int k)).toArray t (0, 0)) ∧ l.length = n ∧ ∀ z ∈ l, vok (Value.int k z) = true) (fr : FrD Df N a L) (hw : wantL ops L o = some true) (ho : o.op = .slice t x none none none) (hd : o.dst = some d) (hlt : Nat.blt d N = true)
    (hx : ev L x = some (.pointer (some ⟨b, 0, none⟩))) (ht : T.ty.lookup t = some (.array n e)) (hs : T.sz.lookup e = some 1) (hm : Nat.ble n maxLen = true)
    (h : ∀ a', FrD Df N a' ((d, .slice (some ⟨b, 0, none⟩) l.length n) :: L) → wpList P ops Q rest a' w) : wpList P ops Q (o :: rest) a w := by
  have hal : P.arrayLen t = n := by unfold Program.arrayLen; rw [hT.und ht]
  refine wl_val (v := .slice (some ⟨b, 0, none⟩) l.length n) fr hw hd hlt ?_ (vok_sl ⟨by rw [hr.2.1]; exact Nat.le_refl _, Nat.le_of_ble_eq_true hm⟩) h
  unfold execOp
  simp only [ho, (fr.ev hx).1, Option.map_none]
  rw [Sem.run_bind]
  have hel : P.elem t = e := by unfold Program.elem; rw [hT.und ht]
  have hrun : (Instr.sliceAt t (.pointer (some ⟨b, 0, none⟩)) none none none).run P w = .ok (.slice (some ⟨b, 0, none⟩) n n) w := by
    rw [run_sliceAt_array_all w t ⟨b, 0, none⟩ (by rw [hal, hel]; exact hT.und ht), hal, hel, size_run hT hs, Result.andThen_ok]
    unfold slicedAt
    rw [Nat.zero_mul, addr0, ite_self]; rfl
  rw [hrun, hr.2.1]
  rfl
end
theorem arr_rk {k : IntKind} {w : World} {b e n : Nat} {l : List Int} (hr : w.heap[b]? = some (.cells (l.map (Value.int k)).toArray e (0, 0)) ∧ l.length = n ∧ ∀ z ∈ l, vok (Value.int k z) = true) : Rk k w (some ⟨b, 0, none⟩) l :=
  ⟨Rd.block hr.1 (fun j hj => by simp [List.getElem?_eq_getElem hj, List.getD_eq_getElem?_getD]), fun z hz => hr.2.2 z hz⟩
theorem rb_get {w : World} {A : Option Addr} {l : List Bool} (h : Rdr.Row Rdr.bool w A l) {i : Int} (hi : 0 ≤ i ∧ i < (l.length : Int)) : ∃ ad, A = some ad ∧ w.cell? (ad.add (i.toNat * 1)) = some (.bool (l.getD i.toNat false)) := by
  obtain ⟨j, rfl⟩ : ∃ j : Nat, i = j := ⟨i.toNat, by omega⟩
  have hj : j < l.length := by omega
  obtain ⟨ad, e, _, h2⟩ := h (by intro e; rw [e] at hj; exact absurd hj (Nat.not_lt_zero _))
  obtain ⟨c, h3, h6⟩ := h2 j _ (List.getElem?_eq_getElem hj)
  have h3 : c = [.bool l[j]] := h3
  subst h3
  have h7 := h6 0 _ rfl
  have h8 : Rdr.bool.sz = 1 := rfl
  rw [h8, Nat.add_zero] at h7
  rw [Int.toNat_natCast, List.getD_eq_getElem?_getD, List.getElem?_eq_getElem hj]
  exact ⟨ad, e, h7⟩
theorem vok1_c {v : Value} {vs : List Value} (h : vok1 v = true) (h2 : vs.all vok1 = true) : (v :: vs).all vok1 = true := by rw [List.all_cons, h, h2]; rfl
theorem vok1_ag {vs : List Value} (h : vs.all vok1 = true) : vok (.agg vs.toArray) = true := h
/-! ### What a log does, by whole numbers -/
def addEI (D : Dk) (x : Int) (l : List Int) : Int := addE D x.toNat l
def addXI (D : Dk) (x : Int) (l : List Int) : Int := (addX D x.toNat l : Nat)
def addDI (D : Dk) (x : Int) (l : List Int) : Dk := addD D x.toNat l
section
variable {w w0 : World} {g d : Nat} {x : Int} {D : Dk} {R : List Asn}
theorem addE_range (D : Dk) (x : Nat) (l : List Int) : 0 ≤ addE D x l ∧ addE D x l ≤ 5 := by unfold addE; split; decide; split <;> decide
theorem add_callI (S : Sat w0 w (logA g d x :: diskA d D :: R)) {A : Option Addr} {c : Nat} {l : List Int} (rk : Rk .u8 w A l) (hm : l.length ≤ c ∧ c ≤ maxLen) (hb : (0 ≤ x ∧ x ≤ 4096) ∧ D.waits.length ≤ 100000000 ∧ l.length ≤ 1000000000) :
    Calls Try.prog 11 #[.pointer (some ⟨g, 0, none⟩), .slice A l.length c] w fun e w' => e = .returned (.int .i64 (addEI D x l)) ∧ vok (.int .i64 (addEI D x l)) = true ∧ Sat w0 w' (logA g d (addXI D x l) :: diskA d (addDI D x l) :: R) := by
  obtain ⟨n, rfl⟩ : ∃ n : Nat, x = n := ⟨x.toNat, by omega⟩
  have hr := addE_range D n l
  refine (add_call S rk hm hb.2.2 (by omega) hb.2.1).mono fun e w' ⟨h1, h2⟩ => ⟨h1, vok_i ?_, h2⟩
  show 0 ≤ addE D n l ∧ addE D n l ≤ _
  omega
end
end Go.Proofs.Ytmpkoacpakepfaa.Sx
