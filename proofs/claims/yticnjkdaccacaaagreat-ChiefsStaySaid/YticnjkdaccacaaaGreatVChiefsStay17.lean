/- Texts of this work, one behind the other. -/
import Derived.Test.YticnjkdaccacaaaGreatVChiefsStay16
set_option maxRecDepth 100000
set_option maxHeartbeats 16000000
section
namespace Go.Proofs.YticnjkdaccacaaaGreat.Sx
open Go Go.RowKit Base Oq OwnV Disk
section
variable {P : Program} {T : Orc} {Q : Exit → Act → World → Prop} {S' : World → Prop} {Df : List Deferred} {N : Nat} {a : Act} {w : World} {L : Env}
theorem sl_slen (hT : T.Ok P) {s : SOp} {rest : List Itm} {x : Operand} {t : TypeId} {d : Nat} {u : ByteArray} (fr : FrD Df N a L) (hw : wantS L s = some true) (hq : s.q = true) (ho : s.op = .call { callee := .builtin .len, args := #[x], argTypes := #[t] }) (hd : s.dst = some d) (hlt : Nat.blt d N = true) (hx : ev L x = some (.string u)) (ht : T.ty.lookup t = some .string) (hs : u.size ≤ maxLen)
  (h : ∀ a', FrD Df N a' ((d, .int .i64 (u.size : Int)) :: L) → SL P Q S' rest a' w) : SL P Q S' (.one s :: rest) a w := by
 refine sl_q (v := .int .i64 (u.size : Int)) fr hw hq hd hlt (fun w' _ => ?_) (vok_len hs) h
 unfold execOp
 simp only [SOp.oper, ho, resolve]
 rw [Sem.run_bind, Sem.run_pure, Result.andThen_ok]
 have e : (#[x] : Array Operand).map a.eval = #[Value.string u] := by simp [(fr.ev hx).1]
 simp only [invoke, e]
 show (do pure (Next.value (← Builtin.len_ #[t] s.type #[.string u])) : Sem Next).run P w' = _
 have e2 : (Builtin.len_ #[t] s.type #[Value.string u]).run P w' = .ok (.int .i64 (u.size : Int)) w' := by
  simp only [Builtin.len_, List.getElem?_toArray, List.getElem?_cons_zero]
  rw [Sem.run_bind, run_underlying (hT.und ht), Result.andThen_ok]
  rfl
 rw [Sem.run_bind, e2]; rfl
end
theorem row_at {w : World} {A : Option Addr} {l : List RowT} (hn : A = none → l = []) (hc : ∀ ad, A = some ad → ∀ j u, (l.flatMap rowV)[j]? = some u → w.cell? (ad.add j) = some u) {i : Nat} (hi : i < l.length) : ∃ ad, A = some ad ∧ ∀ j u, (rowV l[i])[j]? = some u → w.cell? (ad.add (i * 2 + j)) = some u := by
 cases A with
 | none => have := hn rfl; rw [this] at hi; simp at hi
 | some ad => exact ⟨ad, rfl, fun j u hu => hc ad rfl _ u (el_get (f := rowV) (z := 2) (fun _ => rfl) l i j u hi hu)⟩
theorem enOpsSize : Enters Tryz.prog 80 := fun _ _ => by kernel_rfl
theorem enRowsSize : Enters Tryz.prog 117 := fun _ _ => by kernel_rfl
theorem enResultSize : Enters Tryz.prog 97 := fun _ _ => by kernel_rfl
theorem enResultsSize : Enters Tryz.prog 81 := fun _ _ => by kernel_rfl
theorem enPartSize : Enters Tryz.prog 79 := fun _ _ => by kernel_rfl
theorem enPartsSize : Enters Tryz.prog 46 := fun _ _ => by kernel_rfl
theorem enMsgSize : Enters Tryz.prog 47 := fun _ _ => by kernel_rfl
theorem enGreat : Enters Tryz.prog 16 := fun _ _ => by kernel_rfl
def orcSz : Orc := ⟨[(3, .int .i64), (4, .bool), (5, .int .u8), (31, .int .u32), (58, .int .u64), (9, .string), (104, .struct #[Go.Field.mk "Kind" 102 0 false "" "" 0, Go.Field.mk "Key" 9 1 false "" "" 8, Go.Field.mk "To" 9 2 false "" "" 24, Go.Field.mk "Value" 31 3 false "" "" 40]), (37, .slice 104), (160, .struct #[Go.Field.mk "Key" 9 0 false "" "" 0, Go.Field.mk "Value" 31 1 false "" "" 16]), (155, .slice 160), (157, .struct #[Go.Field.mk "Rows" 155 0 false "" "" 0]), (40, .slice 157), (39, .struct #[Go.Field.mk "Site" 5 0 false "" "" 0, Go.Field.mk "Ops" 37 1 false "" "" 8]), (22, .slice 39), (42, .struct #[Go.Field.mk "Say" 36 0 false "" "" 0, Go.Field.mk "From" 5 1 false "" "" 1, Go.Field.mk "To" 5 2 false "" "" 2, Go.Field.mk "G" 31 3 false "" "" 4, Go.Field.mk "Ops" 37 4 false "" "" 8, Go.Field.mk "Results" 40 5 false "" "" 32]), (27, .slice 42), (36, .int .u8), (28, .int .i64), (60, .struct #[Go.Field.mk "Kind" 5 0 false "" "" 0, Go.Field.mk "L" 22 1 false "" "" 8, Go.Field.mk "M" 42 2 false "" "" 32, Go.Field.mk "Keep" 58 8 false "" "" 88, Go.Field.mk "Torn" 3 9 false "" "" 96]), (52, .slice 60)],
 [(3, 1), (4, 1), (5, 1), (31, 1), (58, 1), (9, 1), (104, 4), (37, 1), (160, 2), (155, 1), (157, 1), (40, 1), (39, 2), (22, 1), (42, 6), (27, 1), (36, 1), (28, 1), (60, 10), (52, 1)]⟩
theorem oSz_ : orcSz.Ok Tryz.prog := ⟨⟨Tryz.underlying3, Tryz.underlying4, Tryz.underlying5, Tryz.underlying31, Tryz.underlying58, Tryz.underlying9, Tryz.underlying104, Tryz.underlying37, Tryz.underlying160, Tryz.underlying155, Tryz.underlying157, Tryz.underlying40, Tryz.underlying39, Tryz.underlying22, Tryz.underlying42, Tryz.underlying27, Tryz.underlying36, Tryz.underlying28, Tryz.underlying60, Tryz.underlying52, trivial⟩, ⟨by kernel_rfl, by kernel_rfl, by kernel_rfl, by kernel_rfl, by kernel_rfl, by kernel_rfl, by kernel_rfl, by kernel_rfl, by kernel_rfl, by kernel_rfl, by kernel_rfl, by kernel_rfl, by kernel_rfl, by kernel_rfl, by kernel_rfl, by kernel_rfl, by kernel_rfl, by kernel_rfl, by kernel_rfl, by kernel_rfl, trivial⟩⟩
section
variable {w w0 : World} {R : List Asn}
abbrev SizeEnd (w0 : World) (R : List Asn) (e : Ending) (w' : World) : Prop := ∃ z : Int, e = .returned (.int .i64 z) ∧ vok (.int .i64 z) = true ∧ Sat w0 w' R
theorem opsSize_call {A : Option Addr} {c : Nat} {l : List OpT} (hR : ∀ w', Sat w0 w' R → RdOps w' A l) (hW : ∀ x ∈ l, OpW x) (hm : l.length ≤ c ∧ c ≤ maxLen) (S : Sat w0 w R) :
  Calls Tryz.prog 80 #[.slice A l.length c] w (SizeEnd w0 R) := by
 refine calls_start (N := 33) [.slice A l.length c] Tryz.func80 rfl rfl rfl (vok_c (vok_sl hm) rfl) fun a fr => ?_
 refine r_ rfl ?_
 repeat refine w_ oSz_ rfl fr fun a fr => ?_
 refine er_ rfl rfl ?_
 repeat refine w_ oSz_ rfl fr fun a fr => ?_
 refine er_ rfl rfl ?_
 repeat refine w_ oSz_ rfl fr fun a fr => ?_
 first | refine e_ ?_ | refine wpList_nil ?_
 have hm2 := hm.2
 unfold maxLen at hm2
 refine q_ rfl ?_
 refine wp_block ?_
 refine cw_loop (fun q a w2 => ∃ (i : Nat) (z : Int), i + q = l.length + 1 ∧ i ≤ l.length ∧ vok (.int .i64 z) = true ∧ Fr 33 a [(0, .slice A l.length c), (3, .int .i64 z), (4, .int .i64 (i : Int))] ∧ Sat w0 w2 R) (l.length + 1)
  ⟨0, _, by omega, by omega, vok_len (Nat.le_trans hm.1 hm.2), fr.sub ⟨rfl, rfl, rfl, trivial⟩, S⟩ ?_ ?_
 ·rintro a w2 ⟨i, z, h, h', -⟩
  omega
 clear fr S
 rintro q a w2 ⟨i, z, hi, hi', hz, fr, S⟩
 refine r_ rfl ?_
 repeat refine w_ oSz_ rfl fr fun a fr => ?_
 refine bs 11 fr rfl (fun q1 fr => ?_) (fun q1 fr => ?_)
 ·repeat refine w_ oSz_ rfl fr fun a fr => ?_
  first | refine e_ ?_ | refine wpList_nil ?_
  have hlt : i < l.length := by have := of_decide_eq_true q1; omega
  refine bs 14 fr rfl (fun q2 fr => ?_) (fun q2 fr => ?_)
  ·refine q_ rfl ?_
   refine cw_t fr rfl ?_
   refine wp_skip ?_
   with_reducible refine then_n ?_
   obtain ⟨ad, hA, -⟩ := ops_at (hR _ S) hlt
   have hc : ∀ w', Sat w0 w' R → ∀ j u, (opV l[i])[j]? = some u → w'.cell? (ad.add (i * 4 + j)) = some u := fun w' S' => by
    obtain ⟨ad', h1, h2⟩ := ops_at (hR w' S') hlt
    rw [hA] at h1; injection h1 with h1; subst h1
    exact h2
   have hw := hW _ (List.getElem_mem hlt)
   obtain ⟨x, hx⟩ : ∃ x, x = l[i] := ⟨_, rfl⟩
   rw [← hx] at hc hw
   obtain ⟨k, s1, s2, v, u0⟩ := x
   refine q_ rfl ?_
   refine wp_block ?_
   refine wp_region_sl [u_ 0 17, u_ 1 18, u_ 2 19, u_ 3 20, u_ 4 21, u_ 5 22, u_ 6 23, u_ 7 24, u_ 8 25, u_ 9 26, u_ 10 27, u_ 11 28, u_ 12 29, u_ 13 30, u_ 14 31, u_ 15 3]
        [m_ 17 3 3,
        m_ 18 0 37,
        m_ 19 4 3,
        i_ 20 37 18 19,
        f_ 21 104 20 1,
        l_ 22 9 21,
        .one ⟨true, some 23, (.call { callee := (.builtin Go.Builtin.len), args := #[(.tmp 22)], argTypes := #[9] }), 3, none⟩,
        .one ⟨true, some 24, (.binOp .add 3 (.tmp 17) (.tmp 23) 3), 3, none⟩,
        m_ 25 0 37,
        m_ 26 4 3,
        i_ 27 37 25 26,
        f_ 28 104 27 2,
        l_ 29 9 28,
        .one ⟨true, some 30, (.call { callee := (.builtin Go.Builtin.len), args := #[(.tmp 29)], argTypes := #[9] }), 3, none⟩,
        .one ⟨true, some 31, (.binOp .add 3 (.tmp 24) (.tmp 30) 3), 3, none⟩,
        .one ⟨true, some 3, (.assign (.tmp 31)), 3, none⟩]
        (fun v => Sat w0 v R) rfl (by kernel_rfl) (by kernel_rfl) ?_ ?_
   ·exact S.drew
   have S := S.drew
   repeat refine sl_run oSz_ 1 rfl fr fun a fr => ?_
   refine sl_ixe oSz_ hA fr rfl rfl rfl rfl rfl rfl rfl rfl rfl ⟨by omega, by omega⟩ fun a fr => ?_
   repeat refine sl_run oSz_ 1 rfl fr fun a fr => ?_
   refine sl_ldf oSz_ (v := .string s1) (fun w' S' => ⟨(show w'.cell? ((ad.add (i * 4)).add 1) = some (.string s1) by rw [add_add]; exact hc w' S' 1 _ rfl), rfl⟩) fr rfl rfl rfl rfl rfl rfl rfl rfl S fun a fr => ?_
   refine sl_slen oSz_ fr rfl rfl rfl rfl rfl rfl rfl hw.a fun a fr => ?_
   repeat refine sl_run oSz_ 1 rfl fr fun a fr => ?_
   refine sl_ixe oSz_ hA fr rfl rfl rfl rfl rfl rfl rfl rfl rfl ⟨by omega, by omega⟩ fun a fr => ?_
   repeat refine sl_run oSz_ 1 rfl fr fun a fr => ?_
   refine sl_ldf oSz_ (v := .string s2) (fun w' S' => ⟨(show w'.cell? ((ad.add (i * 4)).add 2) = some (.string s2) by rw [add_add]; exact hc w' S' 2 _ rfl), rfl⟩) fr rfl rfl rfl rfl rfl rfl rfl rfl S fun a fr => ?_
   refine sl_slen oSz_ fr rfl rfl rfl rfl rfl rfl rfl hw.b fun a fr => ?_
   repeat refine sl_run oSz_ 1 rfl fr fun a fr => ?_
   refine sl_end ?_
   repeat first | with_reducible refine then_n ?_ | with_reducible refine blk_n ?_
   have hv3 := fr.vok (d := 3) rfl
   refine r_ rfl ?_
   repeat refine w_ oSz_ rfl fr fun a fr => ?_
   first | refine e_ ?_ | refine wpList_nil ?_
   have fr := fr.spell (d := 4) rfl (congrArg (Value.int .i64) (i64_next hlt (by omega)))
   exact ⟨i + 1, _, by omega, by omega, hv3, fr.sub ⟨rfl, rfl, rfl, trivial⟩, S⟩
  ·refine q_ rfl ?_
   refine cw_f fr rfl ?_
   refine wp_exit ?_
   refine xr_ rfl rfl ?_
   repeat refine w_ oSz_ rfl fr fun a fr => ?_
   first | refine e_ ?_ | refine wpList_nil ?_
   refine wp_ret ?_
   exact ret1 fr rfl rfl ⟨_, rfl, hz, S⟩
 ·repeat refine w_ oSz_ rfl fr fun a fr => ?_
  refine eq_ rfl rfl ?_
  refine cw_f fr rfl ?_
  refine wp_exit ?_
  refine xr_ rfl rfl ?_
  repeat refine w_ oSz_ rfl fr fun a fr => ?_
  first | refine e_ ?_ | refine wpList_nil ?_
  refine wp_ret ?_
  exact ret1 fr rfl rfl ⟨_, rfl, hz, S⟩
theorem rowsSize_call {A : Option Addr} {c : Nat} {l : List RowT} (hR : ∀ w', Sat w0 w' R → (A = none → l = []) ∧ ∀ ad, A = some ad → ∀ j u, (l.flatMap rowV)[j]? = some u → w'.cell? (ad.add j) = some u) (hW : ∀ x ∈ l, RowW x) (hm : l.length ≤ c ∧ c ≤ maxLen) (S : Sat w0 w R) :
  Calls Tryz.prog 117 #[.slice A l.length c] w (SizeEnd w0 R) := by
 refine calls_start (N := 26) [.slice A l.length c] Tryz.func117 rfl rfl rfl (vok_c (vok_sl hm) rfl) fun a fr => ?_
 refine r_ rfl ?_
 repeat refine w_ oSz_ rfl fr fun a fr => ?_
 refine er_ rfl rfl ?_
 repeat refine w_ oSz_ rfl fr fun a fr => ?_
 refine er_ rfl rfl ?_
 repeat refine w_ oSz_ rfl fr fun a fr => ?_
 first | refine e_ ?_ | refine wpList_nil ?_
 have hm2 := hm.2
 unfold maxLen at hm2
 refine q_ rfl ?_
 refine wp_block ?_
 refine cw_loop (fun q a w2 => ∃ (i : Nat) (z : Int), i + q = l.length + 1 ∧ i ≤ l.length ∧ vok (.int .i64 z) = true ∧ Fr 26 a [(0, .slice A l.length c), (3, .int .i64 z), (4, .int .i64 (i : Int))] ∧ Sat w0 w2 R) (l.length + 1)
  ⟨0, _, by omega, by omega, vok_len (Nat.le_trans hm.1 hm.2), fr.sub ⟨rfl, rfl, rfl, trivial⟩, S⟩ ?_ ?_
 ·rintro a w2 ⟨i, z, h, h', -⟩
  omega
 clear fr S
 rintro q a w2 ⟨i, z, hi, hi', hz, fr, S⟩
 refine r_ rfl ?_
 repeat refine w_ oSz_ rfl fr fun a fr => ?_
 refine bs 11 fr rfl (fun q1 fr => ?_) (fun q1 fr => ?_)
 ·repeat refine w_ oSz_ rfl fr fun a fr => ?_
  first | refine e_ ?_ | refine wpList_nil ?_
  have hlt : i < l.length := by have := of_decide_eq_true q1; omega
  refine bs 14 fr rfl (fun q2 fr => ?_) (fun q2 fr => ?_)
  ·refine q_ rfl ?_
   refine cw_t fr rfl ?_
   refine wp_skip ?_
   with_reducible refine then_n ?_
   obtain ⟨ad, hA, -⟩ := row_at (hR _ S).1 (hR _ S).2 hlt
   have hc : ∀ w', Sat w0 w' R → ∀ j u, (rowV l[i])[j]? = some u → w'.cell? (ad.add (i * 2 + j)) = some u := fun w' S' => by
    obtain ⟨ad', h1, h2⟩ := row_at (hR w' S').1 (hR w' S').2 hlt
    rw [hA] at h1; injection h1 with h1; subst h1
    exact h2
   have hw := hW _ (List.getElem_mem hlt)
   obtain ⟨x, hx⟩ : ∃ x, x = l[i] := ⟨_, rfl⟩
   rw [← hx] at hc hw
   obtain ⟨s1, v, u0⟩ := x
   have hcS := hc _ S 0 _ rfl
   refine q_ rfl ?_
   refine wp_block ?_
   refine r_ rfl ?_
   repeat refine w_ oSz_ rfl fr fun a fr => ?_
   refine wl_ixe oSz_ hA fr rfl rfl rfl rfl rfl rfl rfl rfl ⟨by omega, by omega⟩ fun a fr => ?_
   repeat refine w_ oSz_ rfl fr fun a fr => ?_
   refine wl_ldf oSz_ (v := .string s1) ⟨(show World.cell? _ ((ad.add (i * 2)).add 0) = some (.string s1) by rw [add_add]; exact hcS), rfl⟩ fr rfl rfl rfl rfl rfl rfl rfl fun a fr => ?_
   refine wl_slen oSz_ fr rfl rfl rfl rfl rfl rfl hw.k fun a fr => ?_
   repeat refine w_ oSz_ rfl fr fun a fr => ?_
   first | refine e_ ?_ | refine wpList_nil ?_
   repeat first | with_reducible refine then_n ?_ | with_reducible refine blk_n ?_
   have hv3 := fr.vok (d := 3) rfl
   refine r_ rfl ?_
   repeat refine w_ oSz_ rfl fr fun a fr => ?_
   first | refine e_ ?_ | refine wpList_nil ?_
   have fr := fr.spell (d := 4) rfl (congrArg (Value.int .i64) (i64_next hlt (by omega)))
   exact ⟨i + 1, _, by omega, by omega, hv3, fr.sub ⟨rfl, rfl, rfl, trivial⟩, S⟩
  ·refine q_ rfl ?_
   refine cw_f fr rfl ?_
   refine wp_exit ?_
   refine xr_ rfl rfl ?_
   repeat refine w_ oSz_ rfl fr fun a fr => ?_
   first | refine e_ ?_ | refine wpList_nil ?_
   refine wp_ret ?_
   exact ret1 fr rfl rfl ⟨_, rfl, hz, S⟩
 ·repeat refine w_ oSz_ rfl fr fun a fr => ?_
  refine eq_ rfl rfl ?_
  refine cw_f fr rfl ?_
  refine wp_exit ?_
  refine xr_ rfl rfl ?_
  repeat refine w_ oSz_ rfl fr fun a fr => ?_
  first | refine e_ ?_ | refine wpList_nil ?_
  refine wp_ret ?_
  exact ret1 fr rfl rfl ⟨_, rfl, hz, S⟩
theorem resultSize_call {A : Option Addr} {c : Nat} {l : List RowT} (hR : ∀ w', Sat w0 w' R → (A = none → l = []) ∧ ∀ ad, A = some ad → ∀ j u, (l.flatMap rowV)[j]? = some u → w'.cell? (ad.add j) = some u) (hW : ∀ x ∈ l, RowW x) (hm : l.length ≤ c ∧ c ≤ maxLen) (S : Sat w0 w R) :
  Calls Tryz.prog 97 #[.agg #[.slice A l.length c]] w (SizeEnd w0 R) := by
 refine calls_start (N := 12) [.agg #[.slice A l.length c]] Tryz.func97 rfl rfl rfl (vok_c (show [Value.slice A l.length c].all vok1 = true by simp only [List.all_cons, List.all_nil, Bool.and_true]; exact vok_sl (A := A) hm) rfl) fun a fr => ?_
 refine r_ rfl ?_
 refine wl_boxs (cs := [.slice A l.length c]) fr rfl rfl rfl rfl rfl (by simp only [List.all_cons, List.all_nil, Bool.and_true]; exact vok_sl (A := A) hm) S ?_
 intro w1 g S a fr
 repeat refine w_ oSz_ rfl fr fun a fr => ?_
 refine er_ rfl rfl ?_
 repeat refine w_ oSz_ rfl fr fun a fr => ?_
 refine er_ rfl rfl ?_
 repeat refine w_ oSz_ rfl fr fun a fr => ?_
 refine eq_ rfl rfl ?_
 refine cw_t fr rfl ?_
 refine r_ rfl ?_
 (repeat (first | refine wl_run oSz_ 1 rfl fr fun a fr => ?_ | refine wl_ldf oSz_ (Sat.stAt S 0 rfl rfl) fr rfl rfl rfl rfl rfl rfl rfl fun a fr => ?_))
 refine wl_call fr rfl rfl rfl rfl enRowsSize (rowsSize_call (fun w' S' => hR w' S'.tl) hW hm S) ?_
 rintro _ w2 ⟨z, rfl, hz, S⟩
 refine ⟨_, rfl, hz, fun a fr => ?_⟩
 repeat refine w_ oSz_ rfl fr fun a fr => ?_
 first | refine e_ ?_ | refine wpList_nil ?_
 repeat first | with_reducible refine then_n ?_ | with_reducible refine blk_n ?_
 have hv3 := fr.vok (d := 3) rfl
 refine r_ rfl ?_
 repeat refine w_ oSz_ rfl fr fun a fr => ?_
 first | refine e_ ?_ | refine wpList_nil ?_
 refine wp_ret ?_
 exact ret1 fr rfl rfl ⟨_, rfl, hv3, S.tl⟩
theorem resultsSize_call {A : Option Addr} {c : Nat} {l : List RawR} (hR : ∀ w', Sat w0 w' R → RdRaw w' A l) (hW : RawW l) (hm : l.length ≤ c ∧ c ≤ maxLen) (S : Sat w0 w R) :
  Calls Tryz.prog 81 #[.slice A l.length c] w (SizeEnd w0 R) := by
 refine calls_start (N := 25) [.slice A l.length c] Tryz.func81 rfl rfl rfl (vok_c (vok_sl hm) rfl) fun a fr => ?_
 refine r_ rfl ?_
 repeat refine w_ oSz_ rfl fr fun a fr => ?_
 refine er_ rfl rfl ?_
 repeat refine w_ oSz_ rfl fr fun a fr => ?_
 refine er_ rfl rfl ?_
 repeat refine w_ oSz_ rfl fr fun a fr => ?_
 first | refine e_ ?_ | refine wpList_nil ?_
 have hm2 := hm.2
 unfold maxLen at hm2
 refine q_ rfl ?_
 refine wp_block ?_
 refine cw_loop (fun q a w2 => ∃ (i : Nat) (z : Int), i + q = l.length + 1 ∧ i ≤ l.length ∧ vok (.int .i64 z) = true ∧ Fr 25 a [(0, .slice A l.length c), (3, .int .i64 z), (4, .int .i64 (i : Int))] ∧ Sat w0 w2 R) (l.length + 1)
  ⟨0, _, by omega, by omega, vok_len (Nat.le_trans hm.1 hm.2), fr.sub ⟨rfl, rfl, rfl, trivial⟩, S⟩ ?_ ?_
 ·rintro a w2 ⟨i, z, h, h', -⟩
  omega
 clear fr S
 rintro q a w2 ⟨i, z, hi, hi', hz, fr, S⟩
 refine r_ rfl ?_
 repeat refine w_ oSz_ rfl fr fun a fr => ?_
 refine bs 11 fr rfl (fun q1 fr => ?_) (fun q1 fr => ?_)
 rotate_left
 ·repeat refine w_ oSz_ rfl fr fun a fr => ?_
  refine eq_ rfl rfl ?_
  refine cw_f fr rfl ?_
  refine wp_exit ?_
  refine xr_ rfl rfl ?_
  repeat refine w_ oSz_ rfl fr fun a fr => ?_
  first | refine e_ ?_ | refine wpList_nil ?_
  refine wp_ret ?_
  exact ret1 fr rfl rfl ⟨_, rfl, hz, S⟩
 ·repeat refine w_ oSz_ rfl fr fun a fr => ?_
  first | refine e_ ?_ | refine wpList_nil ?_
  have hlt : i < l.length := by have := of_decide_eq_true q1; omega
  refine bs 14 fr rfl (fun q2 fr => ?_) (fun q2 fr => ?_)
  rotate_left
  ·refine q_ rfl ?_
   refine cw_f fr rfl ?_
   refine wp_exit ?_
   refine xr_ rfl rfl ?_
   repeat refine w_ oSz_ rfl fr fun a fr => ?_
   first | refine e_ ?_ | refine wpList_nil ?_
   refine wp_ret ?_
   exact ret1 fr rfl rfl ⟨_, rfl, hz, S⟩
  ·refine q_ rfl ?_
   refine cw_t fr rfl ?_
   refine wp_skip ?_
   with_reducible refine then_n ?_
   obtain ⟨ad, hA, hc⟩ := (hR _ S).cell i hlt
   have hmem := List.getElem_mem hlt
   have hlen := hW.len _ hmem
   have hwf := hW.wf _ hmem
   have hrow : ∀ w', Sat w0 w' R → (l[i].1 = none → l[i].2.2 = []) ∧ ∀ ad, l[i].1 = some ad → ∀ j u, (l[i].2.2.flatMap rowV)[j]? = some u → w'.cell? (ad.add j) = some u := fun w' S' => ⟨(hR w' S').none _ hmem, (hR w' S').row _ hmem⟩
   generalize l[i] = r at hc hlen hwf hrow
   obtain ⟨A', c', rl⟩ := r
   have hlen : rl.length ≤ c' ∧ c' ≤ maxLen := hlen
   refine q_ rfl ?_
   refine wp_block ?_
   refine r_ rfl ?_
   repeat refine w_ oSz_ rfl fr fun a fr => ?_
   refine wl_ldrs (cs := [.slice A' rl.length c']) oSz_ (i := (i : Int)) (z := 1) ⟨ad, hA, fun j u hu => by
    cases j with
    | zero => injection hu with hu; subst hu; exact hc
    | succ j => cases hu⟩ (by show [Value.slice A' rl.length c'].all vok1 = true; simp only [List.all_cons, List.all_nil, Bool.and_true]; exact vok_sl (A := A') hlen) fr rfl rfl rfl rfl rfl rfl rfl rfl rfl rfl rfl rfl rfl rfl rfl rfl ⟨by omega, by omega⟩ fun a fr => ?_
   refine wl_call fr rfl rfl rfl rfl enResultSize (resultSize_call hrow hwf hlen S) ?_
   rintro _ w3 ⟨z2, rfl, hz2, S⟩
   refine ⟨_, rfl, hz2, fun a fr => ?_⟩
   repeat refine w_ oSz_ rfl fr fun a fr => ?_
   first | refine e_ ?_ | refine wpList_nil ?_
   repeat first | with_reducible refine then_n ?_ | with_reducible refine blk_n ?_
   have hv3 := fr.vok (d := 3) rfl
   refine r_ rfl ?_
   repeat refine w_ oSz_ rfl fr fun a fr => ?_
   first | refine e_ ?_ | refine wpList_nil ?_
   have fr := fr.spell (d := 4) rfl (congrArg (Value.int .i64) (i64_next hlt (by omega)))
   exact ⟨i + 1, _, by omega, by omega, hv3, fr.sub ⟨rfl, rfl, rfl, trivial⟩, S⟩
theorem partSize_call {k : Int} {A : Option Addr} {c : Nat} {l : List OpT} (hk : (Lit.int .u8 k).wf = true) (hR : ∀ w', Sat w0 w' R → RdOps w' A l) (hW : ∀ x ∈ l, OpW x) (hm : l.length ≤ c ∧ c ≤ maxLen) (S : Sat w0 w R) :
  Calls Tryz.prog 79 #[.agg #[.int .u8 k, .slice A l.length c]] w (SizeEnd w0 R) := by
 have hv2 : [Value.int .u8 k, .slice A l.length c].all vok1 = true := by simp only [List.all_cons, List.all_nil, Bool.and_true, Bool.and_eq_true]; exact ⟨hk, vok_sl (A := A) hm⟩
 have hv2' : [Value.int .u8 k, .slice A l.length c].all vok = true := by simp only [List.all_cons, List.all_nil, Bool.and_true, Bool.and_eq_true]; exact ⟨hk, vok_sl (A := A) hm⟩
 refine calls_start (N := 12) [.agg #[.int .u8 k, .slice A l.length c]] Tryz.func79 rfl rfl rfl (vok_c hv2 rfl) fun a fr => ?_
 refine r_ rfl ?_
 refine wl_boxs (cs := [.int .u8 k, .slice A l.length c]) fr rfl rfl rfl rfl rfl hv2' S ?_
 intro w1 g S a fr
 repeat refine w_ oSz_ rfl fr fun a fr => ?_
 refine er_ rfl rfl ?_
 repeat refine w_ oSz_ rfl fr fun a fr => ?_
 refine er_ rfl rfl ?_
 repeat refine w_ oSz_ rfl fr fun a fr => ?_
 refine eq_ rfl rfl ?_
 refine cw_t fr rfl ?_
 refine r_ rfl ?_
 (repeat (first | refine wl_run oSz_ 1 rfl fr fun a fr => ?_ | refine wl_ldf oSz_ (Sat.stAt S 0 rfl rfl) fr rfl rfl rfl rfl rfl rfl rfl fun a fr => ?_))
 refine wl_call fr rfl rfl rfl rfl enOpsSize (opsSize_call (fun w' S' => hR w' S'.tl) hW hm S) ?_
 rintro _ w2 ⟨z, rfl, hz, S⟩
 refine ⟨_, rfl, hz, fun a fr => ?_⟩
 repeat refine w_ oSz_ rfl fr fun a fr => ?_
 first | refine e_ ?_ | refine wpList_nil ?_
 repeat first | with_reducible refine then_n ?_ | with_reducible refine blk_n ?_
 have hv3 := fr.vok (d := 3) rfl
 refine r_ rfl ?_
 repeat refine w_ oSz_ rfl fr fun a fr => ?_
 first | refine e_ ?_ | refine wpList_nil ?_
 refine wp_ret ?_
 exact ret1 fr rfl rfl ⟨_, rfl, hv3, S.tl⟩
theorem partsSize_call {A : Option Addr} {c : Nat} {l : List RawP} (hR : ∀ w', Sat w0 w' R → RdParts w' A l) (hW : PartsW l) (hm : l.length ≤ c ∧ c ≤ maxLen) (S : Sat w0 w R) :
  Calls Tryz.prog 46 #[.slice A l.length c] w (SizeEnd w0 R) := by
 refine calls_start (N := 25) [.slice A l.length c] Tryz.func46 rfl rfl rfl (vok_c (vok_sl hm) rfl) fun a fr => ?_
 refine r_ rfl ?_
 repeat refine w_ oSz_ rfl fr fun a fr => ?_
 refine er_ rfl rfl ?_
 repeat refine w_ oSz_ rfl fr fun a fr => ?_
 refine er_ rfl rfl ?_
 repeat refine w_ oSz_ rfl fr fun a fr => ?_
 first | refine e_ ?_ | refine wpList_nil ?_
 have hm2 := hm.2
 unfold maxLen at hm2
 refine q_ rfl ?_
 refine wp_block ?_
 refine cw_loop (fun q a w2 => ∃ (i : Nat) (z : Int), i + q = l.length + 1 ∧ i ≤ l.length ∧ vok (.int .i64 z) = true ∧ Fr 25 a [(0, .slice A l.length c), (3, .int .i64 z), (4, .int .i64 (i : Int))] ∧ Sat w0 w2 R) (l.length + 1)
  ⟨0, _, by omega, by omega, vok_len (Nat.le_trans hm.1 hm.2), fr.sub ⟨rfl, rfl, rfl, trivial⟩, S⟩ ?_ ?_
 ·rintro a w2 ⟨i, z, h, h', -⟩
  omega
 clear fr S
 rintro q a w2 ⟨i, z, hi, hi', hz, fr, S⟩
 refine r_ rfl ?_
 repeat refine w_ oSz_ rfl fr fun a fr => ?_
 refine bs 11 fr rfl (fun q1 fr => ?_) (fun q1 fr => ?_)
 rotate_left
 ·repeat refine w_ oSz_ rfl fr fun a fr => ?_
  refine eq_ rfl rfl ?_
  refine cw_f fr rfl ?_
  refine wp_exit ?_
  refine xr_ rfl rfl ?_
  repeat refine w_ oSz_ rfl fr fun a fr => ?_
  first | refine e_ ?_ | refine wpList_nil ?_
  refine wp_ret ?_
  exact ret1 fr rfl rfl ⟨_, rfl, hz, S⟩
 ·repeat refine w_ oSz_ rfl fr fun a fr => ?_
  first | refine e_ ?_ | refine wpList_nil ?_
  have hlt : i < l.length := by have := of_decide_eq_true q1; omega
  refine bs 14 fr rfl (fun q2 fr => ?_) (fun q2 fr => ?_)
  rotate_left
  ·refine q_ rfl ?_
   refine cw_f fr rfl ?_
   refine wp_exit ?_
   refine xr_ rfl rfl ?_
   repeat refine w_ oSz_ rfl fr fun a fr => ?_
   first | refine e_ ?_ | refine wpList_nil ?_
   refine wp_ret ?_
   exact ret1 fr rfl rfl ⟨_, rfl, hz, S⟩
  ·refine q_ rfl ?_
   refine cw_t fr rfl ?_
   refine wp_skip ?_
   with_reducible refine then_n ?_
   obtain ⟨ad, hA⟩ := (hR _ S).some hlt
   have hc := (hR _ S).cell i hlt ad hA
   have hmem := List.getElem_mem hlt
   have hk := hW.k _ hmem
   have hlen := hW.m _ hmem
   have hwf := hW.o _ hmem
   have hrow : ∀ w', Sat w0 w' R → RdOps w' l[i].2.1 l[i].2.2.2 := fun w' S' => (hR w' S').ops _ hmem
   generalize l[i] = r at hc hk hlen hwf hrow
   obtain ⟨k, A', c', rl⟩ := r
   have hlen : rl.length ≤ c' ∧ c' ≤ maxLen := hlen
   have hk : (Lit.int .u8 k).wf = true := hk
   refine q_ rfl ?_
   refine wp_block ?_
   refine r_ rfl ?_
   repeat refine w_ oSz_ rfl fr fun a fr => ?_
   refine wl_ldrs (cs := [.int .u8 k, .slice A' rl.length c']) oSz_ (i := (i : Int)) (z := 2) ⟨ad, hA, fun j u hu => hc j u hu⟩ (by show [Value.int .u8 k, .slice A' rl.length c'].all vok1 = true; simp only [List.all_cons, List.all_nil, Bool.and_true, Bool.and_eq_true]; exact ⟨hk, vok_sl (A := A') hlen⟩) fr rfl rfl rfl rfl rfl rfl rfl rfl rfl rfl rfl rfl rfl rfl rfl rfl ⟨by omega, by omega⟩ fun a fr => ?_
   refine wl_call fr rfl rfl rfl rfl enPartSize (partSize_call hk hrow hwf hlen S) ?_
   rintro _ w3 ⟨z2, rfl, hz2, S⟩
   refine ⟨_, rfl, hz2, fun a fr => ?_⟩
   repeat refine w_ oSz_ rfl fr fun a fr => ?_
   first | refine e_ ?_ | refine wpList_nil ?_
   repeat first | with_reducible refine then_n ?_ | with_reducible refine blk_n ?_
   have hv3 := fr.vok (d := 3) rfl
   refine r_ rfl ?_
   repeat refine w_ oSz_ rfl fr fun a fr => ?_
   first | refine e_ ?_ | refine wpList_nil ?_
   have fr := fr.spell (d := 4) rfl (congrArg (Value.int .i64) (i64_next hlt (by omega)))
   exact ⟨i + 1, _, by omega, by omega, hv3, fr.sub ⟨rfl, rfl, rfl, trivial⟩, S⟩
theorem msgSize_call {s f t g : Int} {Ao Ar : Option Addr} {co cr : Nat} {ops : List OpT} {rs : List RawR} (hmg : MgW s f t g ops.length co rs.length cr) (hO : ∀ w', Sat w0 w' R → RdOps w' Ao ops) (hOW : ∀ x ∈ ops, OpW x) (hR : ∀ w', Sat w0 w' R → RdRaw w' Ar rs) (hW : RawW rs) (S : Sat w0 w R) :
  Calls Tryz.prog 47 #[.agg (mgV s f t g Ao ops.length co Ar rs.length cr).toArray] w (SizeEnd w0 R) := by
 refine calls_start (N := 19) [.agg (mgV s f t g Ao ops.length co Ar rs.length cr).toArray] Tryz.func47 rfl rfl rfl (vok_c (hmg.ok Ao Ar) rfl) fun a fr => ?_
 refine r_ rfl ?_
 refine wl_boxs (cs := mgV s f t g Ao ops.length co Ar rs.length cr) fr rfl rfl rfl rfl rfl (hmg.okv Ao Ar) S ?_
 intro w1 gb S a fr
 repeat refine w_ oSz_ rfl fr fun a fr => ?_
 refine er_ rfl rfl ?_
 repeat refine w_ oSz_ rfl fr fun a fr => ?_
 refine er_ rfl rfl ?_
 repeat refine w_ oSz_ rfl fr fun a fr => ?_
 refine eq_ rfl rfl ?_
 refine cw_t fr rfl ?_
 refine r_ rfl ?_
 (repeat (first | refine wl_run oSz_ 1 rfl fr fun a fr => ?_ | refine wl_ldf oSz_ (Sat.stAt S 0 rfl rfl) fr rfl rfl rfl rfl rfl rfl rfl fun a fr => ?_))
 refine wl_call fr rfl rfl rfl rfl enOpsSize (opsSize_call (fun w' S' => hO w' S'.tl) hOW hmg.o S) ?_
 rintro _ w2 ⟨z, rfl, hz, S⟩
 refine ⟨_, rfl, hz, fun a fr => ?_⟩
 repeat refine w_ oSz_ rfl fr fun a fr => ?_
 first | refine e_ ?_ | refine wpList_nil ?_
 repeat first | with_reducible refine then_n ?_ | with_reducible refine blk_n ?_
 have hv3 := fr.vok (d := 3) rfl
 obtain ⟨z1, hz1⟩ : ∃ z1, z1 = IntKind.wrap .i64 (1 + z) := ⟨_, rfl⟩
 have fr := fr.sub (L' := [(1, .pointer (some ⟨gb, 0, none⟩)), (3, .int .i64 z1)]) (by rw [hz1]; exact ⟨rfl, rfl, trivial⟩)
 rw [← hz1] at hv3
 refine r_ rfl ?_
 repeat refine w_ oSz_ rfl fr fun a fr => ?_
 first | refine e_ ?_ | refine wpList_nil ?_
 refine bs 12 fr rfl (fun q1 fr => ?_) (fun q1 fr => ?_)
 ·refine q_ rfl ?_
  refine cw_t fr rfl ?_
  refine r_ rfl ?_
  (repeat (first | refine wl_run oSz_ 1 rfl fr fun a fr => ?_ | refine wl_ldf oSz_ (Sat.stAt S 0 rfl rfl) fr rfl rfl rfl rfl rfl rfl rfl fun a fr => ?_))
  refine wl_call fr rfl rfl rfl rfl enResultsSize (resultsSize_call (fun w' S' => hR w' S'.tl) hW hmg.r S) ?_
  rintro _ w3 ⟨z, rfl, hz, S⟩
  refine ⟨_, rfl, hz, fun a fr => ?_⟩
  repeat refine w_ oSz_ rfl fr fun a fr => ?_
  first | refine e_ ?_ | refine wpList_nil ?_
  repeat first | with_reducible refine then_n ?_ | with_reducible refine blk_n ?_
  have hv3 := fr.vok (d := 3) rfl
  refine r_ rfl ?_
  repeat refine w_ oSz_ rfl fr fun a fr => ?_
  first | refine e_ ?_ | refine wpList_nil ?_
  refine wp_ret ?_
  exact ret1 fr rfl rfl ⟨_, rfl, hv3, S.tl⟩
 ·refine q_ rfl ?_
  refine cw_f fr rfl ?_
  refine wp_skip ?_
  refine r_ rfl ?_
  repeat refine w_ oSz_ rfl fr fun a fr => ?_
  first | refine e_ ?_ | refine wpList_nil ?_
  refine wp_ret ?_
  exact ret1 fr rfl rfl ⟨_, rfl, hv3, S.tl⟩
end
abbrev ActT := Int × List PartT × MsgT × Int × Int × Unit
abbrev actR : Rdr ActT := Rdr.pair (Rdr.int .u8) (Rdr.pair (Rdr.sl partR) (Rdr.pair msgR (Rdr.pair (Rdr.int .u64) (Rdr.pair (Rdr.int .i64) Rdr.unit))))
structure RawA where
 kd : Int
 Ap : Option Addr
 cp : Nat
 ps : List RawP
 s : Int
 f : Int
 t : Int
 g : Int
 Ao : Option Addr
 co : Nat
 ops : List OpT
 Ar : Option Addr
 cr : Nat
 rs : List RawR
 keep : Int
 torn : Int
def acV (r : RawA) : List Value := .int .u8 r.kd :: .slice r.Ap r.ps.length r.cp :: (mgV r.s r.f r.t r.g r.Ao r.ops.length r.co r.Ar r.rs.length r.cr ++ [.int .u64 r.keep, .int .i64 r.torn])
structure RdAct (w : World) (r : RawA) : Prop where
 parts : RdParts w r.Ap r.ps
 ops : RdOps w r.Ao r.ops
 res : RdRaw w r.Ar r.rs
structure ActW (r : RawA) : Prop where
 kd : (Lit.int .u8 r.kd).wf = true
 pw : PartsW r.ps
 pm : r.ps.length ≤ r.cp ∧ r.cp ≤ maxLen
 mg : MgW r.s r.f r.t r.g r.ops.length r.co r.rs.length r.cr
 ow : ∀ x ∈ r.ops, OpW x
 rw : RawW r.rs
 keep : (Lit.int .u64 r.keep).wf = true
 torn : (Lit.int .i64 r.torn).wf = true
structure RdActs (w : World) (A : Option Addr) (l : List RawA) : Prop where
 cell : ∀ i (hi : i < l.length), ∃ ad, A = some ad ∧ ∀ j u, (acV l[i])[j]? = some u → w.cell? (ad.add (i * 10 + j)) = some u
 rd : ∀ r ∈ l, RdAct w r
theorem RdOps.below {w w' : World} {A : Option Addr} {l : List OpT} (h : RdOps w A l) (hb : Below w.heap.size w w') : RdOps w' A l :=
 ⟨h.none, fun ad hA j u hu => RR.cellAt hb (h.cell ad hA j u hu)⟩
theorem RdActs.below {w w' : World} {A : Option Addr} {l : List RawA} (h : RdActs w A l) (hb : Below w.heap.size w w') : RdActs w' A l :=
 ⟨fun i hi => by
  obtain ⟨ad, h1, h2⟩ := h.cell i hi
  exact ⟨ad, h1, fun j u hu => RR.cellAt hb (h2 j u hu)⟩, fun r hr => ⟨(h.rd r hr).parts.below hb, (h.rd r hr).ops.below hb, (h.rd r hr).res.below hb⟩⟩
theorem acV_ok {r : RawA} (h : ActW r) : (acV r).all vok1 = true := by
 have h2 := h.mg.ok r.Ao r.Ar
 unfold acV
 rw [List.all_cons, List.all_cons, List.all_append, h2]
 simp only [List.all_cons, List.all_nil, Bool.and_true, Bool.and_eq_true, Bool.true_and]
 exact ⟨h.kd, vok_sl (A := r.Ap) h.pm, h.keep, h.torn⟩
theorem rdops_of {w : World} {A : Option Addr} {l : List OpT} (h : Rdr.Row opR w A l) : RdOps w A l ∧ ∀ x ∈ l, OpW x := by
 refine ⟨⟨fun hA => ?_, flat_cells (r := opR) (z := 4) rfl (by decide) (fun _ => rfl) (fun w cs x hx => (op_of hx).1) h⟩, fun x hx => ?_⟩
 ·rw [hA] at h; exact row_none h
 ·obtain ⟨i, hi, rfl⟩ := List.mem_iff_getElem.1 hx
  obtain ⟨cs, h1, _⟩ := row_get h hi
  exact (op_of h1).2
theorem acts_of {w : World} {A : Option Addr} {l : List ActT} (h : Rdr.Row actR w A l) : ∃ ax : List RawA, ax.length = l.length ∧ RdActs w A ax ∧ (∀ r ∈ ax, ActW r) ∧ ∀ i (hi : i < ax.length) (hi' : i < l.length), rawL ax[i].rs = l[i].2.2.1.2.2.2.2.2.1 := by
 obtain ⟨ax, h1, h2⟩ := choose_list (n := l.length) (p := fun i (r : RawA) => ∃ hi : i < l.length, rawL r.rs = l[i].2.2.1.2.2.2.2.2.1 ∧ ActW r ∧ RdAct w r ∧ ∃ ad, A = some ad ∧ ∀ j u, (acV r)[j]? = some u → w.cell? (ad.add (i * 10 + j)) = some u) (fun i hi => by
  obtain ⟨cs, hr, ad, hA, hc⟩ := row_get h hi
  obtain ⟨x, hx⟩ : ∃ x, x = l[i] := ⟨_, rfl⟩
  rw [← hx] at hr
  obtain ⟨b1, e1, rfl, ⟨rfl, k1⟩, b2, e2, rfl, ⟨Ap, cp, rfl, k2, k2', k2''⟩, b3, e3, rfl, hmsg, b4, e4, rfl, ⟨rfl, k4⟩, b5, e5, rfl, ⟨rfl, k5⟩, k6⟩ := hr
  have k6 : e5 = [] := k6
  subst k6
  obtain ⟨c1, d1, rfl, ⟨rfl, h1⟩, c2, d2, rfl, ⟨rfl, h2⟩, c3, d3, rfl, ⟨rfl, h3⟩, c4, d4, rfl, ⟨rfl, h4⟩, c5, d5, rfl, ⟨Ao, co, rfl, h5, h5', h5''⟩, c6, d6, rfl, ⟨Ar, cr, rfl, h6, h6', h6''⟩, h7⟩ := hmsg
  have h7 : d6 = [] := h7
  subst h7
  obtain ⟨rs, f1, f2, f3⟩ := raw_of h6''
  obtain ⟨ps, g1, g2, g3⟩ := parts_of k2''
  obtain ⟨o1, o2⟩ := rdops_of h5''
  have hl : rs.length = x.2.2.1.2.2.2.2.2.1.length := by rw [← f1]; simp [rawL]
  have hp : ps.length = x.2.1.length := by rw [← g1]; simp
  refine ⟨⟨x.1, Ap, cp, ps, x.2.2.1.1, x.2.2.1.2.1, x.2.2.1.2.2.1, x.2.2.1.2.2.2.1, Ao, co, x.2.2.1.2.2.2.2.1, Ar, cr, rs, x.2.2.2.1, x.2.2.2.2.1⟩, hi, ?_, ⟨k1, g2, by rw [hp]; exact ⟨k2, k2'⟩, ⟨h1, h2, h3, h4, ⟨h5, h5'⟩, by rw [hl]; exact ⟨h6, h6'⟩⟩, o2, f3, k4, k5⟩, ⟨g3, o1, f2⟩, ad, hA, fun j u hu => hc j u ?_⟩
  ·rw [← hx]; exact f1
  ·unfold acV at hu
   simp only [hl, hp] at hu
   exact hu)
 refine ⟨ax, h1, ⟨fun i hi => ?_, fun r hr => ?_⟩, fun r hr => ?_, fun i hi hi' => ?_⟩
 ·exact (h2 i hi).2.2.2.2
 ·obtain ⟨i, hi, rfl⟩ := List.mem_iff_getElem.1 hr
  exact (h2 i hi).2.2.2.1
 ·obtain ⟨i, hi, rfl⟩ := List.mem_iff_getElem.1 hr
  exact (h2 i hi).2.2.1
 ·exact (h2 i hi).2.1
section
variable {w w0 : World} {R : List Asn}
theorem great_call {A : Option Addr} {c : Nat} {l : List RawA} (hR : ∀ w', Sat w0 w' R → RdActs w' A l) (hW : ∀ r ∈ l, ActW r) (hm : l.length ≤ c ∧ c ≤ maxLen) (S : Sat w0 w R) :
  Calls Tryz.prog 16 #[.slice A l.length c] w fun e w' => ∃ b : Bool, e = .returned (.bool b) ∧ (b = false → l.length ≤ 200) ∧ Sat w0 w' R := by
 refine calls_start (N := 34) [.slice A l.length c] Tryz.func16 rfl rfl rfl (vok_c (vok_sl hm) rfl) fun a fr => ?_
 refine r_ rfl ?_
 repeat refine w_ oSz_ rfl fr fun a fr => ?_
 refine er_ rfl rfl ?_
 repeat refine w_ oSz_ rfl fr fun a fr => ?_
 refine er_ rfl rfl ?_
 repeat refine w_ oSz_ rfl fr fun a fr => ?_
 first | refine e_ ?_ | refine wpList_nil ?_
 have hm2 := hm.2
 unfold maxLen at hm2
 refine q_ rfl ?_
 refine wp_block ?_
 refine cw_loop (fun q a w2 => ∃ (i : Nat) (z : Int), i + q = l.length + 1 ∧ i ≤ l.length ∧ vok (.int .i64 z) = true ∧ Fr 34 a [(0, .slice A l.length c), (3, .int .i64 z), (4, .int .i64 (i : Int))] ∧ Sat w0 w2 R) (l.length + 1)
  ⟨0, 0, by omega, by omega, rfl, fr.sub ⟨rfl, rfl, rfl, trivial⟩, S⟩ ?_ ?_
 ·rintro a w2 ⟨i, z, h, h', -⟩
  omega
 clear fr S
 rintro q a w2 ⟨i, z, hi, hi', hz, fr, S⟩
 refine r_ rfl ?_
 repeat refine w_ oSz_ rfl fr fun a fr => ?_
 first | refine e_ ?_ | refine wpList_nil ?_
 by_cases hlt : i < l.length
 rotate_left
 ·have fr := fr.bool (d := 8) rfl (decide_eq_false (show ¬ (i : Int) < (l.length : Int) by omega))
  refine q_ rfl ?_
  refine cw_f fr rfl ?_
  refine wp_exit ?_
  refine xr_ rfl rfl ?_
  repeat refine w_ oSz_ rfl fr fun a fr => ?_
  refine bs 29 fr rfl (fun q1 fr => ?_) (fun q1 fr => ?_)
  ·repeat refine w_ oSz_ rfl fr fun a fr => ?_
   first | refine e_ ?_ | refine wpList_nil ?_
   refine wp_ret ?_
   exact ret1 fr rfl rfl ⟨true, rfl, fun h => (by cases h), S⟩
  ·repeat refine w_ oSz_ rfl fr fun a fr => ?_
   first | refine e_ ?_ | refine wpList_nil ?_
   refine wp_ret ?_
   exact ret1 fr rfl rfl ⟨_, rfl, fun h => by have := of_decide_eq_false h; omega, S⟩
 have fr := fr.bool (d := 8) rfl (decide_eq_true (show (i : Int) < (l.length : Int) by omega))
 refine q_ rfl ?_
 refine cw_t fr rfl ?_
 refine wp_skip ?_
 with_reducible refine then_n ?_
 obtain ⟨ad, hA, -⟩ := (hR _ S).cell i hlt
 have hmem := List.getElem_mem hlt
 have hw := hW _ hmem
 have hc : ∀ w', Sat w0 w' R → ∀ j u, (acV l[i])[j]? = some u → w'.cell? (ad.add (i * 10 + j)) = some u := fun w' S' => by
  obtain ⟨ad', h1, h2⟩ := (hR w' S').cell i hlt
  rw [hA] at h1; injection h1 with h1; subst h1
  exact h2
 have hrd : ∀ w', Sat w0 w' R → RdAct w' l[i] := fun w' S' => (hR w' S').rd _ hmem
 generalize l[i] = r at hw hc hrd
 refine q_ rfl ?_
 refine wp_block ?_
 refine wp_region_sl [u_ 0 11, u_ 1 12, u_ 2 13, u_ 3 14, u_ 4 15, u_ 5 16, u_ 6 17, u_ 9 20, u_ 10 21, u_ 11 22, u_ 12 23, u_ 13 24, .one (7, false, some 18), u_ 8 19, .one (14, false, some 25), u_ 15 26, u_ 16 3]
        [m_ 11 3 3,
        .one ⟨true, some 12, (.binOp .add 3 (.tmp 11) (.const (.int .i64 1)) 3), 3, none⟩,
        m_ 13 0 52,
        m_ 14 4 3,
        i_ 15 52 13 14,
        f_ 16 60 15 1,
        l_ 17 22 16,
        m_ 20 0 52,
        m_ 21 4 3,
        i_ 22 52 20 21,
        f_ 23 60 22 2,
        l_ 24 42 23,
        .one ⟨false, some 18, (.call { callee := (.value (.func 46)), args := #[(.tmp 17)], argTypes := #[22] }), 3, none⟩,
        .one ⟨true, some 19, (.binOp .add 3 (.tmp 12) (.tmp 18) 3), 3, none⟩,
        .one ⟨false, some 25, (.call { callee := (.value (.func 47)), args := #[(.tmp 24)], argTypes := #[42] }), 3, none⟩,
        .one ⟨true, some 26, (.binOp .add 3 (.tmp 19) (.tmp 25) 3), 3, none⟩,
        .one ⟨true, some 3, (.assign (.tmp 26)), 3, none⟩]
        (fun v => Sat w0 v R) rfl (by kernel_rfl) (by kernel_rfl) ?_ ?_
 ·exact S.drew
 have S := S.drew
 repeat refine sl_run oSz_ 1 rfl fr fun a fr => ?_
 refine sl_ixe oSz_ hA fr rfl rfl rfl rfl rfl rfl rfl rfl rfl ⟨by omega, by omega⟩ fun a fr => ?_
 repeat refine sl_run oSz_ 1 rfl fr fun a fr => ?_
 refine sl_ldf oSz_ (v := .slice r.Ap r.ps.length r.cp) (fun w' S' => ⟨(show w'.cell? ((ad.add (i * 10)).add 1) = some (.slice r.Ap r.ps.length r.cp) by rw [add_add]; exact hc w' S' 1 _ rfl), vok_sl hw.pm⟩) fr rfl rfl rfl rfl rfl rfl rfl rfl S fun a fr => ?_
 repeat refine sl_run oSz_ 1 rfl fr fun a fr => ?_
 refine sl_ixe oSz_ hA fr rfl rfl rfl rfl rfl rfl rfl rfl rfl ⟨by omega, by omega⟩ fun a fr => ?_
 repeat refine sl_run oSz_ 1 rfl fr fun a fr => ?_
 refine sl_ldsub oSz_ (cs := mgV r.s r.f r.t r.g r.Ao r.ops.length r.co r.Ar r.rs.length r.cr) (fun w' S' j u hu => (show w'.cell? (((ad.add (i * 10)).add 2).add j) = some u by
  rw [add_add, add_add]
  exact hc w' S' (2 + j) u (by
   rw [show (acV r)[2 + j]? = (mgV r.s r.f r.t r.g r.Ao r.ops.length r.co r.Ar r.rs.length r.cr ++ [.int .u64 r.keep, .int .i64 r.torn])[j]? by rw [Nat.add_comm]; rfl]
   rw [List.getElem?_append_left (List.getElem?_eq_some_iff.1 hu).1]; exact hu))) (hw.mg.ok r.Ao r.Ar) fr rfl rfl rfl rfl rfl rfl rfl rfl rfl fun a fr => ?_
 refine sl_call fr rfl rfl rfl rfl rfl enPartsSize (partsSize_call (fun w' S' => (hrd w' S').parts) hw.pw hw.pm S) ?_
 rintro _ w3 ⟨z1, rfl, hz1, S⟩
 refine ⟨_, rfl, hz1, S, fun a fr => ?_⟩
 repeat refine sl_run oSz_ 1 rfl fr fun a fr => ?_
 refine sl_call fr rfl rfl rfl rfl rfl enMsgSize (msgSize_call hw.mg (fun w' S' => (hrd w' S').ops) hw.ow (fun w' S' => (hrd w' S').res) hw.rw S) ?_
 rintro _ w4 ⟨z2, rfl, hz2, S⟩
 refine ⟨_, rfl, hz2, S, fun a fr => ?_⟩
 repeat refine sl_run oSz_ 1 rfl fr fun a fr => ?_
 refine sl_end ?_
 repeat first | with_reducible refine then_n ?_ | with_reducible refine blk_n ?_
 have hv3 := fr.vok (d := 3) rfl
 refine r_ rfl ?_
 repeat refine w_ oSz_ rfl fr fun a fr => ?_
 first | refine e_ ?_ | refine wpList_nil ?_
 have fr := fr.spell (d := 4) rfl (congrArg (Value.int .i64) (i64_next hlt (by omega)))
 exact ⟨i + 1, _, by omega, by omega, hv3, fr.sub ⟨rfl, rfl, rfl, trivial⟩, S⟩
end
theorem wrap_u32 {z : Int} (h : 0 ≤ z ∧ z ≤ 4294967295) : IntKind.wrap .u32 z = z := by
 have e1 : (2 : Int) ^ IntKind.u32.bits = 4294967296 := by decide
 unfold IntKind.wrap
 rw [e1]
 have e2 : z % 4294967296 = z := Int.emod_eq_of_lt h.1 (by omega)
 rw [e2]
 rfl
theorem wrap_u8m (z : Int) : IntKind.wrap .u8 z = z % 256 := by
 have e1 : (2 : Int) ^ IntKind.u8.bits = 256 := by decide
 unfold IntKind.wrap
 rw [e1]
 rfl
theorem or_add {a b i : Nat} (hb : b < 2 ^ i) (hlt : 2 ^ i * a + b < 4294967296) : bitv .or .u32 ((2 ^ i * a : Nat) : Int) (b : Int) = ((2 ^ i * a + b : Nat) : Int) := by
 show IntKind.wrap .u32 ((BitVec.ofInt 32 ((2 ^ i * a : Nat) : Int) ||| BitVec.ofInt 32 (b : Int)).toNat : Nat) = _
 have e1 : (BitVec.ofInt 32 ((2 ^ i * a : Nat) : Int)) = BitVec.ofNat 32 (2 ^ i * a) := BitVec.ofInt_natCast ..
 have e2 : (BitVec.ofInt 32 (b : Int)) = BitVec.ofNat 32 b := BitVec.ofInt_natCast ..
 rw [e1, e2, BitVec.toNat_or, BitVec.toNat_ofNat, BitVec.toNat_ofNat, Nat.mod_eq_of_lt (by omega), Nat.mod_eq_of_lt (by omega), ← Nat.two_pow_add_eq_or_of_lt hb]
 exact wrap_u32 (by omega)
theorem four_back {g : Int} (h : 0 ≤ g ∧ g ≤ 4294967295) : bitv .or .u32 (bitv .or .u32 (bitv .or .u32 (IntKind.wrap .u32 (IntKind.wrap .u8 (Int.fdiv g (2 ^ 24)) * 2 ^ 24)) (IntKind.wrap .u32 (IntKind.wrap .u8 (Int.fdiv g (2 ^ 16)) * 2 ^ 16))) (IntKind.wrap .u32 (IntKind.wrap .u8 (Int.fdiv g (2 ^ 8)) * 2 ^ 8))) (IntKind.wrap .u8 g) = g := by
 obtain ⟨n, rfl⟩ : ∃ n : Nat, g = n := ⟨g.toNat, by omega⟩
 have f1 : Int.fdiv (n : Int) (2 ^ 24) = ((n / 16777216 : Nat) : Int) := by rw [Int.fdiv_eq_ediv_of_nonneg _ (by decide)]; omega
 have f2 : Int.fdiv (n : Int) (2 ^ 16) = ((n / 65536 : Nat) : Int) := by rw [Int.fdiv_eq_ediv_of_nonneg _ (by decide)]; omega
 have f3 : Int.fdiv (n : Int) (2 ^ 8) = ((n / 256 : Nat) : Int) := by rw [Int.fdiv_eq_ediv_of_nonneg _ (by decide)]; omega
 rw [f1, f2, f3, wrap_u8m, wrap_u8m, wrap_u8m, wrap_u8m]
 have g1 : ((n / 16777216 : Nat) : Int) % 256 = ((n / 16777216 : Nat) : Int) := by omega
 rw [g1]
 have t1 : IntKind.wrap .u32 (((n / 16777216 : Nat) : Int) * 2 ^ 24) = ((2 ^ 24 * (n / 16777216) : Nat) : Int) := by rw [wrap_u32 (by omega)]; omega
 have t2 : IntKind.wrap .u32 ((((n / 65536 : Nat) : Int) % 256) * 2 ^ 16) = ((n / 65536 % 256 * 65536 : Nat) : Int) := by rw [wrap_u32 (by omega)]; omega
 have t3 : IntKind.wrap .u32 ((((n / 256 : Nat) : Int) % 256) * 2 ^ 8) = ((n / 256 % 256 * 256 : Nat) : Int) := by rw [wrap_u32 (by omega)]; omega
 have t4 : ((n : Nat) : Int) % 256 = ((n % 256 : Nat) : Int) := by omega
 rw [t1, t2, t3, t4, or_add (by omega) (by omega)]
 rw [show 2 ^ 24 * (n / 16777216) + n / 65536 % 256 * 65536 = 2 ^ 16 * (n / 65536) by omega, or_add (by omega) (by omega)]
 rw [show 2 ^ 16 * (n / 65536) + n / 256 % 256 * 256 = 2 ^ 8 * (n / 256) by omega, or_add (by omega) (by omega)]
 omega
theorem four_back2 {g : Int} (h : 0 ≤ g ∧ g ≤ 4294967295) : bitv .or .u32 (bitv .or .u32 (bitv .or .u32 (IntKind.wrap .u32 (IntKind.wrap .u32 (IntKind.wrap .u8 (Int.fdiv g (2 ^ 24))) * 2 ^ min (Int.toNat 24) IntKind.u32.bits)) (IntKind.wrap .u32 (IntKind.wrap .u32 (IntKind.wrap .u8 (Int.fdiv g (2 ^ 16))) * 2 ^ min (Int.toNat 16) IntKind.u32.bits))) (IntKind.wrap .u32 (IntKind.wrap .u32 (IntKind.wrap .u8 (Int.fdiv g (2 ^ 8))) * 2 ^ min (Int.toNat 8) IntKind.u32.bits))) (IntKind.wrap .u32 (IntKind.wrap .u8 g)) = g := by
 have e : ∀ z, IntKind.wrap .u32 (IntKind.wrap .u8 z) = IntKind.wrap .u8 z := fun z => wrap_u32 (by rw [wrap_u8m]; omega)
 rw [e, e, e, e]
 exact four_back h
theorem enLearns : Enters Tryz.prog 52 := fun _ _ => by kernel_rfl
def ovG (g : Int) : Gl RawV := ⟨g, 4, false, false, false, [zV, zV, zV, zV]⟩
section
variable {w w0 : World} {R : List Asn} {b bl bm bk bw bd : Nat} {last now x : Int} {m : List (Int × Int)} {gs : Gs} {D : Dk}
theorem learns_begin {A : Option Addr} {c : Nat} {g : Int} (hg : 1 ≤ g ∧ g ≤ 4294967295) (hR : ∀ w', Sat w0 w' R → Rk .u8 w' A (beginR g)) (hm : (beginR g).length ≤ c ∧ c ≤ maxLen) (hnew : ∀ p ∈ gs, p.2.g ≠ g) (S : Sat w0 w (chW b bl bm last bk bw now bd gs m x D R)) :
  Calls Tryz.prog 52 #[.pointer (some ⟨b, 0, none⟩), .slice A (beginR g).length c] w fun e w' => ∃ bn, e = .returned (.bool true) ∧ Sat w0 w' (chW b bl bm (max last g) bk bw now bd (gs ++ [(bn, ovG g)]) m x D R) := by
 refine calls_start (N := 149) [.pointer (some ⟨b, 0, none⟩), .slice A (beginR g).length c] Tryz.func52 rfl rfl rfl (vok_c rfl (vok_c (vok_sl hm) rfl)) fun a fr => ?_
 have hrk : ∀ {w'}, Sat w0 w' (chW b bl bm last bk bw now bd gs m x D R) → Rk .u8 w' A (beginR g) := fun S' => hR _ (Sat.past S')
 have hback := four_back2 (g := g) (by omega)
 have fr := fr.spell (d := 1) rfl (show Value.slice A (beginR g).length c = .slice A 5 c from rfl)
 refine r_ rfl ?_
 repeat refine w_ oCh_ rfl fr fun a fr => ?_
 refine er_ rfl rfl ?_
 repeat refine w_ oCh_ rfl fr fun a fr => ?_
 refine wl_ld oCh_ (hrk S) fr rfl rfl rfl rfl rfl rfl rfl rfl rfl rfl rfl rfl rfl rfl rfl rfl ⟨by decide, by show (0 : Int) < 5; decide⟩ fun a fr => ?_
 have fr := fr.spell (d := 15) rfl (show Value.int .u8 ((beginR g).getD (0 : Int).toNat 0) = .int .u8 98 from rfl)
 repeat refine w_ oCh_ rfl fr fun a fr => ?_
 refine eq_ rfl rfl ?_
 refine cw_f fr rfl ?_
 refine wp_skip ?_
 refine q_ rfl ?_
 refine wp_region_sl [u_ 0 27, u_ 1 28, u_ 2 29, u_ 3 30, u_ 4 31, u_ 5 32, u_ 6 33, u_ 7 34, u_ 8 35, u_ 9 36, u_ 10 37, u_ 11 38, u_ 12 39, u_ 13 40, u_ 14 41, u_ 15 42, u_ 16 43, u_ 17 44, u_ 18 45, u_ 19 46, u_ 20 47, u_ 21 48, u_ 22 5]
        [m_ 27 1 92,
        .one ⟨true, some 28, (.indexAddr 92 (.tmp 27) (.const (.int .i64 1))), 0, none⟩,
        l_ 29 5 28,
        .one ⟨true, some 30, (.convert 5 31 (.tmp 29)), 31, none⟩,
        .one ⟨true, some 31, (.binOp .shl 31 (.tmp 30) (.const (.int .u64 24)) 152), 31, none⟩,
        m_ 32 1 92,
        .one ⟨true, some 33, (.indexAddr 92 (.tmp 32) (.const (.int .i64 2))), 0, none⟩,
        l_ 34 5 33,
        .one ⟨true, some 35, (.convert 5 31 (.tmp 34)), 31, none⟩,
        .one ⟨true, some 36, (.binOp .shl 31 (.tmp 35) (.const (.int .u64 16)) 152), 31, none⟩,
        .one ⟨true, some 37, (.binOp .or 31 (.tmp 31) (.tmp 36) 31), 31, none⟩,
        m_ 38 1 92,
        .one ⟨true, some 39, (.indexAddr 92 (.tmp 38) (.const (.int .i64 3))), 0, none⟩,
        l_ 40 5 39,
        .one ⟨true, some 41, (.convert 5 31 (.tmp 40)), 31, none⟩,
        .one ⟨true, some 42, (.binOp .shl 31 (.tmp 41) (.const (.int .u64 8)) 152), 31, none⟩,
        .one ⟨true, some 43, (.binOp .or 31 (.tmp 37) (.tmp 42) 31), 31, none⟩,
        m_ 44 1 92,
        .one ⟨true, some 45, (.indexAddr 92 (.tmp 44) (.const (.int .i64 4))), 0, none⟩,
        l_ 46 5 45,
        .one ⟨true, some 47, (.convert 5 31 (.tmp 46)), 31, none⟩,
        .one ⟨true, some 48, (.binOp .or 31 (.tmp 43) (.tmp 47) 31), 31, none⟩,
        .one ⟨true, some 5, (.assign (.tmp 48)), 31, none⟩]
        (fun v => Sat w0 v R) rfl (by kernel_rfl) (by kernel_rfl) ?_ ?_
 ·exact Sat.past S.drew
 have S := S.drew
 have hS : Sat w0 _ R := Sat.past S
 repeat refine sl_run oCh_ 1 rfl fr fun a fr => ?_
 refine sl_ld oCh_ (fun w' S' => hR w' S') fr rfl rfl rfl rfl rfl rfl rfl rfl rfl rfl rfl rfl rfl rfl rfl rfl rfl rfl ⟨by decide, by show (1 : Int) < 5; decide⟩ hS fun a fr => ?_
 repeat refine sl_run oCh_ 1 rfl fr fun a fr => ?_
 refine sl_ld oCh_ (fun w' S' => hR w' S') fr rfl rfl rfl rfl rfl rfl rfl rfl rfl rfl rfl rfl rfl rfl rfl rfl rfl rfl ⟨by decide, by show (2 : Int) < 5; decide⟩ hS fun a fr => ?_
 repeat refine sl_run oCh_ 1 rfl fr fun a fr => ?_
 refine sl_ld oCh_ (fun w' S' => hR w' S') fr rfl rfl rfl rfl rfl rfl rfl rfl rfl rfl rfl rfl rfl rfl rfl rfl rfl rfl ⟨by decide, by show (3 : Int) < 5; decide⟩ hS fun a fr => ?_
 repeat refine sl_run oCh_ 1 rfl fr fun a fr => ?_
 refine sl_ld oCh_ (fun w' S' => hR w' S') fr rfl rfl rfl rfl rfl rfl rfl rfl rfl rfl rfl rfl rfl rfl rfl rfl rfl rfl ⟨by decide, by show (4 : Int) < 5; decide⟩ hS fun a fr => ?_
 repeat refine sl_run oCh_ 1 rfl fr fun a fr => ?_
 refine sl_end ?_
 repeat with_reducible refine then_n ?_
 have fr := fr.spell (d := 5) rfl (show _ = Value.int .u32 g from congrArg (Value.int .u32) hback)
 have S : Sat w0 _ (chS b bl bm last bk :: logA bl bd x :: diskA bd D :: ckS bk bw now :: ckM bw m :: glM bm gs :: (gsT gs ++ R)) := S
 clear hS
 refine r_ rfl ?_
 (repeat (first | refine wl_run oCh_ 1 rfl fr fun a fr => ?_ | refine wl_ldf oCh_ (Sat.stAt S 0 rfl rfl) fr rfl rfl rfl rfl rfl rfl rfl fun a fr => ?_))
 refine wl_lk (f := ptO) oCh_ (none : Option Nat) (fun _ => by kernel_rfl) rfl (Sat.mapAt S 5 rfl) fr rfl rfl rfl rfl rfl rfl rfl rfl fun a fr => ?_
 have hln : lkM (keysG gs) g = none := by
  cases hi : idxG (gs.map (·.2)) g with
  | none => exact lkG_none hi
  | some j =>
   obtain ⟨hj, -, h2⟩ := lkG_at hi
   exact absurd h2 (hnew _ (List.getElem_mem hj))
 rw [hln] at fr
 have fr := fr.spell (d := 54) rfl (show ptO ((none : Option (Option Nat)).getD none) = .pointer none from rfl)
 repeat refine w_ oCh_ rfl fr fun a fr => ?_
 refine er_ rfl rfl ?_
 repeat refine w_ oCh_ rfl fr fun a fr => ?_
 have fr := fr.bool (d := 57) rfl (show (g == 0) = false by simp; omega)
 repeat refine w_ oCh_ rfl fr fun a fr => ?_
 refine wl_ld oCh_ (hrk S) fr rfl rfl rfl rfl rfl rfl rfl rfl rfl rfl rfl rfl rfl rfl rfl rfl ⟨by decide, by show (0 : Int) < 5; decide⟩ fun a fr => ?_
 have fr := fr.spell (d := 62) rfl (show Value.int .u8 ((beginR g).getD (0 : Int).toNat 0) = .int .u8 98 from rfl)
 repeat refine w_ oCh_ rfl fr fun a fr => ?_
 refine eq_ rfl rfl ?_
 refine cw_f fr rfl ?_
 refine wp_skip ?_
 refine r_ rfl ?_
 repeat refine w_ oCh_ rfl fr fun a fr => ?_
 refine wl_ld oCh_ (hrk S) fr rfl rfl rfl rfl rfl rfl rfl rfl rfl rfl rfl rfl rfl rfl rfl rfl ⟨by decide, by show (0 : Int) < 5; decide⟩ fun a fr => ?_
 have fr := fr.spell (d := 68) rfl (show Value.int .u8 ((beginR g).getD (0 : Int).toNat 0) = .int .u8 98 from rfl)
 refine eq_ rfl rfl ?_
 refine wp_block ?_
 refine r_ rfl ?_
 repeat refine w_ oCh_ rfl fr fun a fr => ?_
 refine eq_ rfl rfl ?_
 refine cw_t fr rfl ?_
 have hgw : (Lit.int .u32 g).wf = true := by
  rw [wf_int]
  have e1 : IntKind.u32.min = 0 := by decide
  have e2 : IntKind.u32.max = 4294967295 := by decide
  omega
 refine r_ rfl ?_
 (repeat (first | refine wl_run oCh_ 1 rfl fr fun a fr => ?_ | refine wl_ldf oCh_ (Sat.stAt S 0 rfl rfl) fr rfl rfl rfl rfl rfl rfl rfl fun a fr => ?_))
 refine wl_build (cs := glV (ovG g)) (L2 := [(0, .int .u32 g), (1, .int .u8 4)]) fr rfl rfl rfl rfl (by simp; exact ⟨(fr.ev (o := .tmp 76) rfl).1, rfl⟩) (by kernel_rfl) ?_ fun a fr => ?_
 ·refine (show (glV (ovG g)).all vok1 = true from ?_)
  show ((Lit.int .u32 g).wf && _) = true
  rw [hgw]
  rfl
 refine wl_boxs fr rfl rfl rfl rfl rfl ?_ S ?_
 ·refine (show (glV (ovG g)).all vok = true from ?_)
  show ((Lit.int .u32 g).wf && _) = true
  rw [hgw]
  rfl
 intro w10 bn S a fr
 have S : Sat w0 w10 (glA (bn, ovG g) :: chS b bl bm last bk :: logA bl bd x :: diskA bd D :: ckS bk bw now :: ckM bw m :: glM bm gs :: (gsT gs ++ R)) := S
 have S := (((((((S.frontAt 5 rfl).frontAt 5 rfl).frontAt 5 rfl).frontAt 5 rfl).frontAt 5 rfl).frontAt 5 rfl).frontAt 6 rfl)
 refine wl_up (f := ptO) oCh_ (some bn) fr rfl rfl (.inl rfl) rfl rfl rfl rfl rfl S ?_
 intro w11 S
 have hup : upM (keysG gs) g (some bn) = keysG (gs ++ [(bn, ovG g)]) := by
  rw [upM_new (fun p hp => by
   obtain ⟨q, hq, rfl⟩ := List.mem_map.1 hp
   exact hnew q hq)]
  unfold keysG
  rw [List.map_append]
  rfl
 rw [hup] at S
 first | refine e_ ?_ | refine wpList_nil ?_
 have S : Sat w0 w11 (chS b bl bm last bk :: glM bm (gs ++ [(bn, ovG g)]) :: glA (bn, ovG g) :: logA bl bd x :: diskA bd D :: ckS bk bw now :: ckM bw m :: (gsT gs ++ R)) := (((((((S.frontAt 6 rfl).frontAt 6 rfl).frontAt 6 rfl).frontAt 6 rfl).frontAt 5 rfl).frontAt 5 rfl).frontAt 6 rfl)
 refine r_ rfl ?_
 (repeat (first | refine wl_run oCh_ 1 rfl fr fun a fr => ?_ | refine wl_ldf oCh_ (Sat.stAt S 0 rfl rfl) fr rfl rfl rfl rfl rfl rfl rfl fun a fr => ?_))
 refine wl_stfA oCh_ 2 fr rfl rfl rfl rfl rfl rfl rfl rfl rfl S (by show 2 < 4; decide) ?_
 intro w12 S
 first | refine e_ ?_ | refine wpList_nil ?_
 repeat first | with_reducible refine then_n ?_ | with_reducible refine blk_n ?_
 have hmx : (if g > last then g else last) = max last g := by split <;> omega
 have S : Sat w0 w12 (chS b bl bm (if g > last then g else last) bk :: glM bm (gs ++ [(bn, ovG g)]) :: glA (bn, ovG g) :: logA bl bd x :: diskA bd D :: ckS bk bw now :: ckM bw m :: (gsT gs ++ R)) := S
 rw [hmx] at S
 have S : Sat w0 w12 (chS b bl bm (max last g) bk :: glM bm (gs ++ [(bn, ovG g)]) :: glA (bn, ovG g) :: logA bl bd x :: diskA bd D :: ckS bk bw now :: ckM bw m :: (gsT gs ++ R)) := S
 have hrk3 : ∀ {w'}, Sat w0 w' (chS b bl bm (max last g) bk :: glM bm (gs ++ [(bn, ovG g)]) :: glA (bn, ovG g) :: logA bl bd x :: diskA bd D :: ckS bk bw now :: ckM bw m :: (gsT gs ++ R)) → Rk .u8 w' A (beginR g) := fun S' => hR _ (Sat.lastsT (chS b bl bm (max last g) bk :: glM bm (gs ++ [(bn, ovG g)]) :: glA (bn, ovG g) :: logA bl bd x :: diskA bd D :: ckS bk bw now :: ckM bw m :: gsT gs) S')
 refine r_ rfl ?_
 repeat refine w_ oCh_ rfl fr fun a fr => ?_
 refine wl_ld oCh_ (hrk3 S) fr rfl rfl rfl rfl rfl rfl rfl rfl rfl rfl rfl rfl rfl rfl rfl rfl ⟨by decide, by show (0 : Int) < 5; decide⟩ fun a fr => ?_
 have fr := fr.spell (d := 135) rfl (show Value.int .u8 ((beginR g).getD (0 : Int).toNat 0) = .int .u8 98 from rfl)
 repeat refine w_ oCh_ rfl fr fun a fr => ?_
 first | refine e_ ?_ | refine wpList_nil ?_
 refine wp_ret ?_
 have S := (((((((S.frontAt 1 rfl).frontAt 6 rfl).frontAt 6 rfl).frontAt 6 rfl).frontAt 6 rfl).frontAt 5 rfl).frontAt 6 rfl)
 have S := Sat.noGlR (p := (bn, ovG g)) (fun v hv => by
  have : v = zV := by simpa [ovG] using hv
  rw [this]; rfl) S
 have hp := gs_new_perm (gs := gs) (R := R) (bn := bn) (G := ovG g) (A0 := chS b bl bm (max last g) bk) (rows := []) (X := [logA bl bd x, diskA bd D, ckS bk bw now, ckM bw m, glM bm (gs ++ [(bn, ovG g)])])
 have S : Sat w0 w12 (glR (bn, ovG g) ++ (glA (bn, ovG g) :: chS b bl bm (max last g) bk :: logA bl bd x :: diskA bd D :: ckS bk bw now :: ckM bw m :: glM bm (gs ++ [(bn, ovG g)]) :: (gsT gs ++ R))) := S
 have S := S.perm (List.Perm.append_left _ (List.Perm.swap _ _ _))
 exact ret1 fr rfl rfl ⟨bn, rfl, S.perm hp⟩
theorem learns_end {A : Option Addr} {c : Nat} {g : Int} (hg : 1 ≤ g ∧ g ≤ 4294967295) (hR : ∀ w', Sat w0 w' R → Rk .u8 w' A (endR g)) (hm : (endR g).length ≤ c ∧ c ≤ maxLen) {j : Nat} (hi : idxG (gs.map (·.2)) g = some j) (hj : j < gs.length) (S : Sat w0 w (chW b bl bm last bk bw now bd gs m x D R)) :
  Calls Tryz.prog 52 #[.pointer (some ⟨b, 0, none⟩), .slice A (endR g).length c] w fun e w' => e = .returned (.bool true) ∧ Sat w0 w' (chW b bl bm last bk bw now bd (gs.set j (gs[j].1, { gs[j].2 with ph := 4 })) m x D R) := by
 refine calls_start (N := 149) [.pointer (some ⟨b, 0, none⟩), .slice A (endR g).length c] Tryz.func52 rfl rfl rfl (vok_c rfl (vok_c (vok_sl hm) rfl)) fun a fr => ?_
 have hrk : ∀ {w'}, Sat w0 w' (chW b bl bm last bk bw now bd gs m x D R) → Rk .u8 w' A (endR g) := fun S' => hR _ (Sat.past S')
 have hback := four_back2 (g := g) (by omega)
 have fr := fr.spell (d := 1) rfl (show Value.slice A (endR g).length c = .slice A 5 c from rfl)
 refine r_ rfl ?_
 repeat refine w_ oCh_ rfl fr fun a fr => ?_
 refine er_ rfl rfl ?_
 repeat refine w_ oCh_ rfl fr fun a fr => ?_
 refine wl_ld oCh_ (hrk S) fr rfl rfl rfl rfl rfl rfl rfl rfl rfl rfl rfl rfl rfl rfl rfl rfl ⟨by decide, by show (0 : Int) < 5; decide⟩ fun a fr => ?_
 have fr := fr.spell (d := 15) rfl (show Value.int .u8 ((endR g).getD (0 : Int).toNat 0) = .int .u8 101 from rfl)
 repeat refine w_ oCh_ rfl fr fun a fr => ?_
 refine eq_ rfl rfl ?_
 refine cw_f fr rfl ?_
 refine wp_skip ?_
 refine q_ rfl ?_
 refine wp_region_sl [u_ 0 27, u_ 1 28, u_ 2 29, u_ 3 30, u_ 4 31, u_ 5 32, u_ 6 33, u_ 7 34, u_ 8 35, u_ 9 36, u_ 10 37, u_ 11 38, u_ 12 39, u_ 13 40, u_ 14 41, u_ 15 42, u_ 16 43, u_ 17 44, u_ 18 45, u_ 19 46, u_ 20 47, u_ 21 48, u_ 22 5]
        [m_ 27 1 92,
        .one ⟨true, some 28, (.indexAddr 92 (.tmp 27) (.const (.int .i64 1))), 0, none⟩,
        l_ 29 5 28,
        .one ⟨true, some 30, (.convert 5 31 (.tmp 29)), 31, none⟩,
        .one ⟨true, some 31, (.binOp .shl 31 (.tmp 30) (.const (.int .u64 24)) 152), 31, none⟩,
        m_ 32 1 92,
        .one ⟨true, some 33, (.indexAddr 92 (.tmp 32) (.const (.int .i64 2))), 0, none⟩,
        l_ 34 5 33,
        .one ⟨true, some 35, (.convert 5 31 (.tmp 34)), 31, none⟩,
        .one ⟨true, some 36, (.binOp .shl 31 (.tmp 35) (.const (.int .u64 16)) 152), 31, none⟩,
        .one ⟨true, some 37, (.binOp .or 31 (.tmp 31) (.tmp 36) 31), 31, none⟩,
        m_ 38 1 92,
        .one ⟨true, some 39, (.indexAddr 92 (.tmp 38) (.const (.int .i64 3))), 0, none⟩,
        l_ 40 5 39,
        .one ⟨true, some 41, (.convert 5 31 (.tmp 40)), 31, none⟩,
        .one ⟨true, some 42, (.binOp .shl 31 (.tmp 41) (.const (.int .u64 8)) 152), 31, none⟩,
        .one ⟨true, some 43, (.binOp .or 31 (.tmp 37) (.tmp 42) 31), 31, none⟩,
        m_ 44 1 92,
        .one ⟨true, some 45, (.indexAddr 92 (.tmp 44) (.const (.int .i64 4))), 0, none⟩,
        l_ 46 5 45,
        .one ⟨true, some 47, (.convert 5 31 (.tmp 46)), 31, none⟩,
        .one ⟨true, some 48, (.binOp .or 31 (.tmp 43) (.tmp 47) 31), 31, none⟩,
        .one ⟨true, some 5, (.assign (.tmp 48)), 31, none⟩]
        (fun v => Sat w0 v R) rfl (by kernel_rfl) (by kernel_rfl) ?_ ?_
 ·exact Sat.past S.drew
 have S := S.drew
 have hS : Sat w0 _ R := Sat.past S
 repeat refine sl_run oCh_ 1 rfl fr fun a fr => ?_
 refine sl_ld oCh_ (fun w' S' => hR w' S') fr rfl rfl rfl rfl rfl rfl rfl rfl rfl rfl rfl rfl rfl rfl rfl rfl rfl rfl ⟨by decide, by show (1 : Int) < 5; decide⟩ hS fun a fr => ?_
 repeat refine sl_run oCh_ 1 rfl fr fun a fr => ?_
 refine sl_ld oCh_ (fun w' S' => hR w' S') fr rfl rfl rfl rfl rfl rfl rfl rfl rfl rfl rfl rfl rfl rfl rfl rfl rfl rfl ⟨by decide, by show (2 : Int) < 5; decide⟩ hS fun a fr => ?_
 repeat refine sl_run oCh_ 1 rfl fr fun a fr => ?_
 refine sl_ld oCh_ (fun w' S' => hR w' S') fr rfl rfl rfl rfl rfl rfl rfl rfl rfl rfl rfl rfl rfl rfl rfl rfl rfl rfl ⟨by decide, by show (3 : Int) < 5; decide⟩ hS fun a fr => ?_
 repeat refine sl_run oCh_ 1 rfl fr fun a fr => ?_
 refine sl_ld oCh_ (fun w' S' => hR w' S') fr rfl rfl rfl rfl rfl rfl rfl rfl rfl rfl rfl rfl rfl rfl rfl rfl rfl rfl ⟨by decide, by show (4 : Int) < 5; decide⟩ hS fun a fr => ?_
 repeat refine sl_run oCh_ 1 rfl fr fun a fr => ?_
 refine sl_end ?_
 repeat with_reducible refine then_n ?_
 have fr := fr.spell (d := 5) rfl (show _ = Value.int .u32 g from congrArg (Value.int .u32) hback)
 have S : Sat w0 _ (chS b bl bm last bk :: logA bl bd x :: diskA bd D :: ckS bk bw now :: ckM bw m :: glM bm gs :: (gsT gs ++ R)) := S
 clear hS
 refine r_ rfl ?_
 (repeat (first | refine wl_run oCh_ 1 rfl fr fun a fr => ?_ | refine wl_ldf oCh_ (Sat.stAt S 0 rfl rfl) fr rfl rfl rfl rfl rfl rfl rfl fun a fr => ?_))
 refine wl_lk (f := ptO) oCh_ (none : Option Nat) (fun _ => by kernel_rfl) rfl (Sat.mapAt S 5 rfl) fr rfl rfl rfl rfl rfl rfl rfl rfl fun a fr => ?_
 obtain ⟨_, h1, h2⟩ := lkG_at hi
 rw [h1] at fr
 have fr := fr.spell (d := 54) rfl (show ptO ((some (some gs[j].1) : Option (Option Nat)).getD none) = .pointer (some ⟨gs[j].1, 0, none⟩) from rfl)
 repeat refine w_ oCh_ rfl fr fun a fr => ?_
 refine er_ rfl rfl ?_
 repeat refine w_ oCh_ rfl fr fun a fr => ?_
 have fr := fr.bool (d := 57) rfl (show (g == 0) = false by simp; omega)
 repeat refine w_ oCh_ rfl fr fun a fr => ?_
 refine wl_ld oCh_ (hrk S) fr rfl rfl rfl rfl rfl rfl rfl rfl rfl rfl rfl rfl rfl rfl rfl rfl ⟨by decide, by show (0 : Int) < 5; decide⟩ fun a fr => ?_
 have fr := fr.spell (d := 62) rfl (show Value.int .u8 ((endR g).getD (0 : Int).toNat 0) = .int .u8 101 from rfl)
 repeat refine w_ oCh_ rfl fr fun a fr => ?_
 refine eq_ rfl rfl ?_
 refine cw_f fr rfl ?_
 refine wp_skip ?_
 refine r_ rfl ?_
 repeat refine w_ oCh_ rfl fr fun a fr => ?_
 refine wl_ld oCh_ (hrk S) fr rfl rfl rfl rfl rfl rfl rfl rfl rfl rfl rfl rfl rfl rfl rfl rfl ⟨by decide, by show (0 : Int) < 5; decide⟩ fun a fr => ?_
 have fr := fr.spell (d := 68) rfl (show Value.int .u8 ((endR g).getD (0 : Int).toNat 0) = .int .u8 101 from rfl)
 refine eq_ rfl rfl ?_
 refine wp_block ?_
 refine r_ rfl ?_
 repeat refine w_ oCh_ rfl fr fun a fr => ?_
 refine eq_ rfl rfl ?_
 refine cw_f fr rfl ?_
 refine r_ rfl ?_
 repeat refine w_ oCh_ rfl fr fun a fr => ?_
 refine eq_ rfl rfl ?_
 refine cw_f fr rfl ?_
 refine r_ rfl ?_
 repeat refine w_ oCh_ rfl fr fun a fr => ?_
 refine eq_ rfl rfl ?_
 refine cw_t fr rfl ?_
 have S : Sat w0 _ (chW b bl bm last bk bw now bd gs m x D R) := S
 have S := Sat.focus hj S
 have S : Sat w0 _ (chS b bl bm last bk :: logA bl bd x :: diskA bd D :: ckS bk bw now :: ckM bw m :: glA (gs[j].1, gs[j].2) :: (glR (gs[j].1, gs[j].2) ++ (glM bm gs :: (gsT (gs.eraseIdx j) ++ R)))) := S
 have S := S.frontAt 5 rfl
 refine r_ rfl ?_
 repeat refine w_ oCh_ rfl fr fun a fr => ?_
 refine wl_stfA oCh_ 1 fr rfl rfl rfl rfl rfl rfl rfl rfl rfl S (by simp [glV]) ?_
 intro w12 S
 have S : Sat w0 w12 (glA (gs[j].1, { gs[j].2 with ph := 4 }) :: chS b bl bm last bk :: logA bl bd x :: diskA bd D :: ckS bk bw now :: ckM bw m :: (glR (gs[j].1, gs[j].2) ++ (glM bm gs :: (gsT (gs.eraseIdx j) ++ R)))) := S
 first | refine e_ ?_ | refine wpList_nil ?_
 repeat first | with_reducible refine then_n ?_ | with_reducible refine blk_n ?_
 have S : Sat w0 w12 (chL b bl bm last bk bw now bd gs[j].1 ⟨{ gs[j].2 with ph := 4 }, m, x, D⟩ (glM bm gs :: (gsT (gs.eraseIdx j) ++ R))) := (((((S.frontAt 5 rfl).frontAt 5 rfl).frontAt 5 rfl).frontAt 5 rfl).frontAt 5 rfl)
 have S := Sat.unfocus hj (C := ⟨{ gs[j].2 with ph := 4 }, m, x, D⟩) rfl S
 have hrk3 : ∀ {w'}, Sat w0 w' (chW b bl bm last bk bw now bd (gs.set j (gs[j].1, { gs[j].2 with ph := 4 })) m x D R) → Rk .u8 w' A (endR g) := fun S' => hR _ (Sat.past S')
 refine r_ rfl ?_
 repeat refine w_ oCh_ rfl fr fun a fr => ?_
 refine wl_ld oCh_ (hrk3 S) fr rfl rfl rfl rfl rfl rfl rfl rfl rfl rfl rfl rfl rfl rfl rfl rfl ⟨by decide, by show (0 : Int) < 5; decide⟩ fun a fr => ?_
 have fr := fr.spell (d := 135) rfl (show Value.int .u8 ((endR g).getD (0 : Int).toNat 0) = .int .u8 101 from rfl)
 repeat refine w_ oCh_ rfl fr fun a fr => ?_
 refine wl_ld oCh_ (hrk3 S) fr rfl rfl rfl rfl rfl rfl rfl rfl rfl rfl rfl rfl rfl rfl rfl rfl ⟨by decide, by show (0 : Int) < 5; decide⟩ fun a fr => ?_
 have fr := fr.spell (d := 140) rfl (show Value.int .u8 ((endR g).getD (0 : Int).toNat 0) = .int .u8 101 from rfl)
 repeat refine w_ oCh_ rfl fr fun a fr => ?_
 refine wl_ld oCh_ (hrk3 S) fr rfl rfl rfl rfl rfl rfl rfl rfl rfl rfl rfl rfl rfl rfl rfl rfl ⟨by decide, by show (0 : Int) < 5; decide⟩ fun a fr => ?_
 have fr := fr.spell (d := 146) rfl (show Value.int .u8 ((endR g).getD (0 : Int).toNat 0) = .int .u8 101 from rfl)
 repeat refine w_ oCh_ rfl fr fun a fr => ?_
 first | refine e_ ?_ | refine wpList_nil ?_
 refine wp_ret ?_
 exact ret1 fr rfl rfl ⟨rfl, S⟩
end
end Go.Proofs.YticnjkdaccacaaaGreat.Sx
end
section
namespace Go.Proofs.YticnjkdaccacaaaGreat.Sx
open Go Go.RowKit Base Oq Disk Bytes
theorem short_fsec {r : List Int} (h : r.length ≤ 24) : fsec r = [Frames.put r] ∧ (Frames.put r).length = 64 ∧ (Frames.put r).drop 32 = List.replicate 32 0 := by
 have hn : Frames.nsec r.length = 1 := by unfold Frames.nsec; omega
 have hl : (Frames.put r).length = 64 := by rw [Frames.put_length, hn]
 refine ⟨?_, hl, ?_⟩
 ·unfold fsec
  rw [hn, chunks, chunks, List.take_of_length_le (by omega)]
 ·obtain ⟨z, h1⟩ : ∃ z, Frames.put r = Frames.head r.length ++ (Frames.head z ++ (r ++ List.replicate (Frames.nsec r.length * 64 - 8 - r.length) 0)) := ⟨_, Frames.put_eq r⟩
  obtain ⟨a, ha⟩ : ∃ a, a = Frames.head r.length := ⟨_, rfl⟩
  obtain ⟨b, hb⟩ : ∃ b, b = Frames.head z := ⟨_, rfl⟩
  have la : a.length = 4 := by rw [ha]; rfl
  have lb : b.length = 4 := by rw [hb]; rfl
  rw [← hb, ← ha] at h1
  rw [h1, List.drop_append, List.drop_append, List.drop_append, List.drop_eq_nil_of_le (by omega), List.drop_eq_nil_of_le (by omega), List.drop_eq_nil_of_le (by omega), List.nil_append, List.nil_append, List.nil_append, List.drop_replicate, hn]
  congr 1
  omega
theorem mixS_short {r : List Int} (h : r.length ≤ 24) (keep torn : Int) (i : Nat) : mixS keep torn i (Frames.put r) (List.replicate 64 0) = if Disk.kept keep i = true then Frames.put r else List.replicate 64 0 := by
 obtain ⟨-, h1, h2⟩ := short_fsec h
 unfold mixS
 split
 ·unfold Disk.part
  split
  ·rw [show (List.replicate 64 (0 : Int)).drop 32 = List.replicate 32 0 from rfl, ← h2, List.take_append_drop]
  ·rw [List.take_of_length_le (by omega), List.drop_eq_nil_of_le (by simp), List.append_nil]
 ·rfl
def lead (keep : Int) : Nat → Nat → Nat
 | _, 0 => 0
 | i, k + 1 => if Disk.kept keep i = true then lead keep (i + 1) k + 1 else 0
theorem parse_short {keep torn : Int} : ∀ (B : List (List Int)) (i q k : Nat), (∀ r ∈ B, r.length ≤ 24) → lenS B ≤ q → B.length ≤ k → (parse k (mixes keep torn i (fsecs B) (zs q)).flatten).map (·.1) = B.take (lead keep i B.length) := by
 intro B
 induction B with
 | nil =>
  intro i q k _ _ _
  have : parse k (mixes keep torn i (fsecs []) (zs q)).flatten = [] := by
   show parse k (zs q).flatten = []
   cases k with
   | zero => rfl
   | succ k => rw [zs_flat, parse, get_zeros]
  rw [this]
  rfl
 | cons r B ih =>
  intro i q k hr hq hk
  have hr0 := hr r List.mem_cons_self
  obtain ⟨f1, f2, f3⟩ := short_fsec hr0
  have hn : Frames.nsec r.length = 1 := by unfold Frames.nsec; omega
  have e2 : lenS (r :: B) = Frames.nsec r.length + lenS B := by simp [lenS]
  rw [hn] at e2
  obtain ⟨k, rfl⟩ : ∃ k', k = k' + 1 := ⟨k - 1, by simp only [List.length_cons] at hk; omega⟩
  obtain ⟨q, rfl⟩ : ∃ q', q = q' + 1 := ⟨q - 1, by omega⟩
  have hm : mixes keep torn i (fsecs (r :: B)) (zs (q + 1)) = mixS keep torn i (Frames.put r) (List.replicate 64 0) :: mixes keep torn (i + 1) (fsecs B) (zs q) := by
   rw [show fsecs (r :: B) = fsec r ++ fsecs B by simp [fsecs], f1]
   rfl
  obtain ⟨M, hM⟩ : ∃ M, M = mixes keep torn (i + 1) (fsecs B) (zs q) := ⟨_, rfl⟩
  rw [hm, ← hM, List.flatten_cons, mixS_short hr0, List.length_cons]
  unfold lead
  by_cases hkp : Disk.kept keep i = true
  ·rw [if_pos hkp, if_pos hkp, parse, Frames.get_put r _ (by omega)]
   simp only
   rw [hn, show (Frames.put r ++ M.flatten).drop (1 * 64) = M.flatten by rw [show 1 * 64 = (Frames.put r).length by omega, List.drop_left], List.map_cons, hM, ih (i + 1) q k (fun x hx => hr x (List.mem_cons_of_mem _ hx)) (by omega) (by simp only [List.length_cons] at hk; omega), List.take_succ_cons]
  ·rw [if_neg hkp, if_neg hkp, parse, get_zero64' (by rw [List.take_append_of_le_length (by simp), List.take_of_length_le (by simp)])]
   rfl
theorem crash_short {D : Dk} {n : Nat} {A B : List (List Int)} (keep torn : Int) (hA : ∀ r ∈ A, r.length ≤ 16384) (hB : ∀ r ∈ B, r.length ≤ 24) (hn : lenS A + lenS B ≤ n) (hs : D.sure = fsecs A ++ zs (n - lenS A)) (hw : D.waits = wl (lenS A) (fsecs B)) :
  (∀ p ∈ (Dk.fail D keep torn).seen, p.length = 64) ∧ (Dk.fail D keep torn).seen.length = n ∧ recsD (Dk.fail D keep torn) = A ++ B.take (lead keep 0 B.length) := by
 obtain ⟨h64, hlen, -, -⟩ := crash keep torn hA (fun r hr => Nat.le_trans (hB r hr) (by decide)) hn hs hw
 refine ⟨h64, hlen, ?_⟩
 have hsl : D.sure.length = n := by rw [hs, List.length_append, fsecs_len, zs, List.length_replicate]; omega
 have hseen : (Dk.fail D keep torn).seen = fsecs A ++ mixes keep torn 0 (fsecs B) (zs (n - lenS A)) := by
  show failK keep torn D.sure D.waits D.waits.length = _
  rw [hw, wl_len, failK_mix D.sure (fsecs B) (lenS A) (by rw [hsl, fsecs_len]; exact hn) _ (Nat.le_refl _), List.take_length, hs, ← fsecs_len, List.take_left, List.drop_left]
 have hfl := flat_len64' _ h64
 have hgeA := lenS_ge A
 have hgeB := lenS_ge B
 obtain ⟨k, hk⟩ : ∃ k, (Dk.fail D keep torn).seen.flatten.length + 1 = A.length + k := ⟨(Dk.fail D keep torn).seen.flatten.length + 1 - A.length, by omega⟩
 have hf : found (Dk.fail D keep torn) = (A.map fun r => (r, Frames.nsec r.length)) ++ parse k (mixes keep torn 0 (fsecs B) (zs (n - lenS A))).flatten := by
  unfold Sx.found
  rw [hk, hseen, List.flatten_append]
  exact parse_pre A _ k hA
 unfold recsD
 rw [hf, List.map_append, List.map_map, parse_short B 0 (n - lenS A) k hB (by omega) (by omega)]
 congr 1
 show A.map (fun r => r) = A
 exact List.map_id' A
end Go.Proofs.YticnjkdaccacaaaGreat.Sx
end
section
namespace Go.Proofs.YticnjkdaccacaaaGreat.Sx
open Go Go.RowKit Base Oq OwnV Disk
section
variable {α : Type} {gs : List (Gl α)}
def Num (gs : List (Gl α)) : Prop := ∀ i (h : i < gs.length), gs[i].g = (i : Int) + 1
theorem Num.idx (h : Num gs) {j : Nat} (hj : j < gs.length) : idxG gs ((j : Int) + 1) = some j := by
 cases hi : idxG gs ((j : Int) + 1) with
 | none => exact absurd (h j hj) (idxG_none hi _ (List.getElem_mem hj))
 | some i =>
  obtain ⟨h1, h2⟩ := idxG_some hi
  have := h i h1
  rw [h2] at this
  have : i = j := by omega
  rw [this]
theorem Num.no (h : Num gs) {g : Int} (hg : g < 1 ∨ (gs.length : Int) < g) : idxG gs g = none := by
 cases hi : idxG gs g with
 | none => rfl
 | some i =>
  obtain ⟨h1, h2⟩ := idxG_some hi
  have := h i h1
  omega
theorem Num.find (h : Num gs) {j : Nat} (hj : j < gs.length) : findG gs ((j : Int) + 1) = some (j, gs[j]) := by
 unfold findG
 rw [h.idx hj, Option.bind_some, List.getElem?_eq_getElem hj]
 rfl
theorem Num.findN (h : Num gs) {g : Int} (hg : g < 1 ∨ (gs.length : Int) < g) : findG gs g = none := by
 unfold findG
 rw [h.no hg]
 rfl
theorem Num.cases (h : Num gs) (g : Int) : ((g < 1 ∨ (gs.length : Int) < g) ∧ findG gs g = none) ∨ ∃ j, ∃ hj : j < gs.length, g = (j : Int) + 1 ∧ findG gs g = some (j, gs[j]) := by
 by_cases hg : g < 1 ∨ (gs.length : Int) < g
 ·exact .inl ⟨hg, h.findN hg⟩
 ·refine .inr ⟨(g - 1).toNat, by omega, by omega, ?_⟩
  have e : g = (((g - 1).toNat : Nat) : Int) + 1 := by omega
  have h2 := h.find (j := (g - 1).toNat) (by omega)
  rw [← e] at h2
  exact h2
theorem Num.set (h : Num gs) {j : Nat} {G' : Gl α} (hg : ∀ hj : j < gs.length, G'.g = gs[j].g) : Num (gs.set j G') := by
 intro i hi
 rw [List.length_set] at hi
 rw [List.getElem_set]
 split
 ·rename_i hij
  subst hij
  rw [hg hi]; exact h j hi
 ·exact h i hi
theorem Num.snoc (h : Num gs) {G' : Gl α} (hg : G'.g = (gs.length : Int) + 1) : Num (gs ++ [G']) := by
 intro i hi
 rw [List.length_append, List.length_singleton] at hi
 by_cases hl : i < gs.length
 ·rw [List.getElem_append_left hl]; exact h i hl
 ·have : i = gs.length := by omega
  subst this
  rw [List.getElem_append_right (Nat.le_refl _)]
  simpa using hg
theorem Num.nil : Num ([] : List (Gl α)) := fun i h => absurd h (Nat.not_lt_zero _)
end
abbrev Rc := Int × Int × List Int
def rcB (r : Rc) : List Int := r.1 :: (fourL r.2.1 ++ r.2.2)
def cmG {α : Type} (G : Gl α) (ss : List Int) : Gl α := { G with ph := 3, com := true, kn := true, v := beginV ss G.v }
def endG {α : Type} (G : Gl α) : Gl α := { G with ph := 4 }
def ov0 (g : Int) : Gl RsT := ⟨g, 4, false, false, false, [hz0, hz0, hz0, hz0]⟩
def lrnG (r : Rc) (G : Gl RsT) : Gl RsT := if r.1 = 99 then cmG G r.2.2 else endG G
def lrn1 (gs : List (Gl RsT)) (r : Rc) : List (Gl RsT) :=
 if r.1 = 98 then gs ++ [ov0 r.2.1] else match findG gs r.2.1 with | none => gs | some p => gs.set p.1 (lrnG r p.2)
def lrn (A : List Rc) : List (Gl RsT) := A.foldl lrn1 []
def lastR (l : Int) (r : Rc) : Int := if r.1 = 98 then max l r.2.1 else l
def lastL (A : List Rc) : Int := A.foldl lastR 0
def Ok1 (gs : List (Gl RsT)) (r : Rc) : Prop :=
 (1 ≤ r.2.1 ∧ r.2.1 ≤ 4294967295) ∧ ((r.1 = 98 ∧ r.2.2 = [] ∧ ∀ G ∈ gs, G.g ≠ r.2.1) ∨ ∃ j G, findG gs r.2.1 = some (j, G) ∧ ((r.1 = 101 ∧ r.2.2 = []) ∨ (r.1 = 99 ∧ r.2.2 ∈ seven ∧ G.v = [hz0, hz0, hz0, hz0])))
def OkL (A : List Rc) : Prop := ∀ i (h : i < A.length), Ok1 (lrn (A.take i)) A[i]
theorem lrn_snoc (A : List Rc) (r : Rc) : lrn (A ++ [r]) = lrn1 (lrn A) r := by
 unfold lrn
 rw [List.foldl_append]
 rfl
theorem lastL_snoc (A : List Rc) (r : Rc) : lastL (A ++ [r]) = lastR (lastL A) r := by
 unfold lastL
 rw [List.foldl_append]
 rfl
theorem OkL.snoc {A : List Rc} (h : OkL A) {r : Rc} (hr : Ok1 (lrn A) r) : OkL (A ++ [r]) := by
 intro i hi
 rw [List.length_append, List.length_singleton] at hi
 by_cases hl : i < A.length
 ·rw [List.getElem_append_left hl, List.take_append_of_le_length (Nat.le_of_lt hl)]; exact h i hl
 ·have : i = A.length := by omega
  subst this
  rw [List.getElem_append_right (Nat.le_refl _), List.take_append_of_le_length (Nat.le_refl _), List.take_length]
  simpa using hr
theorem OkL.nil : OkL [] := fun i h => absurd h (Nat.not_lt_zero _)
theorem seven_len {L : List Int} (h : L ∈ seven) : 1 ≤ L.length ∧ L.length ≤ 3 := by
 simp only [seven, List.mem_cons, List.not_mem_nil, or_false] at h
 rcases h with rfl | rfl | rfl | rfl | rfl | rfl | rfl <;> decide
structure LrI (G : Gl RsT) : Prop where
 c : G.com = true → G.kn = true ∧ (G.ph = 3 ∨ G.ph = 4) ∧ G.told = false ∧ ∃ ss, ss ∈ seven ∧ G.v = beginV ss [hz0, hz0, hz0, hz0]
 o : G.com = false → G = ov0 G.g
structure RelG (GA G : Gl RsT) : Prop where
 g : GA.g = G.g
 com : GA.com = G.com
 pt : G.com = true → GA.v.map (·.part) = G.v.map (·.part)
structure Good (A : List Rc) (gs : List (Gl RsT)) : Prop where
 ok : OkL A
 len : (lrn A).length = gs.length
 rel : ∀ i (h1 : i < (lrn A).length) (h2 : i < gs.length), RelG (lrn A)[i] gs[i]
 lr : ∀ i (h : i < (lrn A).length), LrI (lrn A)[i]
 num : Num gs
 few : gs.length < 4294967295
 last : lastL A = gs.length
section
variable {A : List Rc} {gs : List (Gl RsT)}
theorem Good.numA (h : Good A gs) : Num (lrn A) := fun i hi => by
 have h2 : i < gs.length := by rw [← h.len]; exact hi
 rw [(h.rel i hi h2).g]
 exact h.num i h2
theorem Good.start : Good [] [] := ⟨OkL.nil, rfl, fun _ h => absurd h (Nat.not_lt_zero _), fun _ h => absurd h (Nat.not_lt_zero _), Num.nil, by decide, rfl⟩
theorem Good.end_ (h : Good A gs) {j : Nat} (hj : j < gs.length) (hc : gs[j].com = true) : Good (A ++ [(101, (j : Int) + 1, [])]) gs := by
 have hjA : j < (lrn A).length := by rw [h.len]; exact hj
 have hf := h.numA.find hjA
 have e : lrn (A ++ [(101, (j : Int) + 1, [])]) = (lrn A).set j (endG (lrn A)[j]) := by
  rw [lrn_snoc]
  unfold lrn1
  rw [if_neg (show ¬ (101 : Int) = 98 by decide)]
  simp only [hf]
  rfl
 have hr := h.rel j hjA hj
 have hl := h.lr j hjA
 have hf2 := h.few
 refine ⟨h.ok.snoc ⟨⟨by show (1 : Int) ≤ (j : Int) + 1; omega, by show (j : Int) + 1 ≤ 4294967295; omega⟩, .inr ⟨j, _, hf, .inl ⟨rfl, rfl⟩⟩⟩, by rw [e, List.length_set]; exact h.len, ?_, ?_, h.num, h.few, by rw [lastL_snoc]; exact h.last⟩
 ·intro i h1 h2
  simp only [e, List.getElem_set]
  split
  ·rename_i hij
   subst hij
   exact ⟨hr.g, hr.com, hr.pt⟩
  ·exact h.rel i (by rw [h.len]; exact h2) h2
 ·intro i h1
  simp only [e, List.getElem_set]
  split
  ·have hcA : (lrn A)[j].com = true := by rw [hr.com]; exact hc
   obtain ⟨c1, -, c3, c4⟩ := hl.c hcA
   refine ⟨fun _ => ⟨c1, .inr rfl, c3, c4⟩, fun h0 => ?_⟩
   have h0 : (lrn A)[j].com = false := h0
   rw [hcA] at h0
   cases h0
  ·exact h.lr i (by rw [e, List.length_set] at h1; exact h1)
def EndsOf (gs : List (Gl RsT)) (B : List Rc) : Prop := ∀ r ∈ B, ∃ j, ∃ h : j < gs.length, r = (101, (j : Int) + 1, []) ∧ gs[j].com = true
theorem Good.ends (h : Good A gs) : ∀ {B : List Rc}, EndsOf gs B → Good (A ++ B) gs := by
 intro B
 induction B generalizing A with
 | nil => intro _; rw [List.append_nil]; exact h
 | cons r B ih =>
  intro hB
  obtain ⟨j, hj, rfl, hc⟩ := hB _ List.mem_cons_self
  have := ih (h.end_ hj hc) fun r hr => hB r (List.mem_cons_of_mem _ hr)
  rw [List.append_assoc] at this
  exact this
theorem Good.begin_ (h : Good A gs) (hf : gs.length < 4294967294) {G' : Gl RsT} (hg : G'.g = (gs.length : Int) + 1) (hc : G'.com = false) : Good (A ++ [(98, (gs.length : Int) + 1, [])]) (gs ++ [G']) := by
 have e : lrn (A ++ [(98, (gs.length : Int) + 1, [])]) = lrn A ++ [ov0 ((gs.length : Int) + 1)] := by
  rw [lrn_snoc]
  rfl
 have hla := h.len
 refine ⟨h.ok.snoc ⟨⟨by show (1 : Int) ≤ (gs.length : Int) + 1; omega, by show (gs.length : Int) + 1 ≤ 4294967295; omega⟩, .inl ⟨rfl, rfl, fun G hG => ?_⟩⟩, by rw [e, List.length_append, List.length_append, hla]; rfl, ?_, ?_, h.num.snoc hg, by rw [List.length_append, List.length_singleton]; omega, by rw [lastL_snoc, h.last, List.length_append, List.length_singleton]; show max (gs.length : Int) ((gs.length : Int) + 1) = _; omega⟩
 ·obtain ⟨i, hi, rfl⟩ := List.mem_iff_getElem.1 hG
  have := h.numA i hi
  show (lrn A)[i].g ≠ (gs.length : Int) + 1
  omega
 ·intro i h1 h2
  rw [List.length_append, List.length_singleton] at h2
  simp only [e]
  by_cases hl : i < gs.length
  ·rw [List.getElem_append_left (by omega), List.getElem_append_left hl]; exact h.rel i (by omega) hl
  ·have : i = gs.length := by omega
   subst this
   rw [List.getElem_append_right (by omega), List.getElem_append_right (Nat.le_refl _)]
   refine ⟨?_, ?_, fun h0 => ?_⟩
   ·simp only [List.getElem_singleton]; rw [hg]; rfl
   ·simp only [List.getElem_singleton]; rw [hc]; rfl
   ·simp only [List.getElem_singleton] at h0; rw [hc] at h0; cases h0
 ·intro i h1
  simp only [e]
  by_cases hl : i < (lrn A).length
  ·rw [List.getElem_append_left hl]; exact h.lr i hl
  ·rw [List.getElem_append_right (by omega)]
   simp only [List.getElem_singleton]
   exact ⟨fun h0 => (by cases h0), fun _ => rfl⟩
theorem Good.set (h : Good A gs) {j : Nat} {G' : Gl RsT} (hg : ∀ hj : j < gs.length, G'.g = gs[j].g ∧ G'.com = gs[j].com ∧ (G'.com = true → G'.v.map (·.part) = gs[j].v.map (·.part))) : Good A (gs.set j G') := by
 refine ⟨h.ok, by rw [List.length_set]; exact h.len, ?_, h.lr, h.num.set fun hj => (hg hj).1, by rw [List.length_set]; exact h.few, by rw [List.length_set]; exact h.last⟩
 intro i h1 h2
 rw [List.length_set] at h2
 have hr := h.rel i h1 h2
 rw [List.getElem_set]
 split
 ·rename_i hij
  subst hij
  obtain ⟨e1, e2, e3⟩ := hg h2
  exact ⟨hr.g.trans e1.symm, hr.com.trans e2.symm, fun h0 => (hr.pt (e2.symm.trans h0)).trans (e3 h0).symm⟩
 ·exact hr
theorem Good.commit (h : Good A gs) {j : Nat} (hj : j < gs.length) (hc : gs[j].com = false) {ss : List Int} (hs : ss ∈ seven) {G' : Gl RsT} (e1 : G'.g = gs[j].g) (e2 : G'.com = true) (e3 : G'.v.map (·.part) = parts4 ss) : Good (A ++ [(99, (j : Int) + 1, ss)]) (gs.set j G') := by
 have hjA : j < (lrn A).length := by rw [h.len]; exact hj
 have hf := h.numA.find hjA
 have e : lrn (A ++ [(99, (j : Int) + 1, ss)]) = (lrn A).set j (cmG (lrn A)[j] ss) := by
  rw [lrn_snoc]
  unfold lrn1
  rw [if_neg (show ¬ (99 : Int) = 98 by decide)]
  simp only [hf]
  rfl
 have hr := h.rel j hjA hj
 have hl := h.lr j hjA
 have hov := hl.o (hr.com.trans hc)
 have hv : (lrn A)[j].v = [hz0, hz0, hz0, hz0] := by rw [hov]; rfl
 have ht : (lrn A)[j].told = false := by rw [hov]; rfl
 have hf2 := h.few
 refine ⟨h.ok.snoc ⟨⟨by show (1 : Int) ≤ (j : Int) + 1; omega, by show (j : Int) + 1 ≤ 4294967295; omega⟩, .inr ⟨j, _, hf, .inr ⟨rfl, hs, hv⟩⟩⟩, by rw [e, List.length_set, List.length_set]; exact h.len, ?_, ?_, h.num.set fun _ => e1, by rw [List.length_set]; exact h.few, by rw [lastL_snoc, List.length_set]; exact h.last⟩
 ·intro i h1 h2
  rw [List.length_set] at h2
  simp only [e, List.getElem_set]
  split
  ·refine ⟨hr.g.trans e1.symm, e2.symm, fun _ => ?_⟩
   rw [e3]
   show (beginV ss (lrn A)[j].v).map (·.part) = _
   rw [hv]; rfl
  ·exact h.rel i (by rw [h.len]; exact h2) h2
 ·intro i h1
  simp only [e, List.getElem_set]
  split
  ·exact ⟨fun _ => ⟨rfl, .inl rfl, ht, ss, hs, by show beginV ss (lrn A)[j].v = _; rw [hv]⟩, fun h0 => (by cases h0)⟩
  ·exact h.lr i (by rw [e, List.length_set] at h1; exact h1)
theorem Good.self (h : Good A gs) : Good A (lrn A) := ⟨h.ok, rfl, fun i h1 h2 => ⟨rfl, rfl, fun _ => rfl⟩, h.lr, h.numA, by rw [h.len]; exact h.few, by rw [h.len]; exact h.last⟩
end
structure LgS (A B : List Rc) (D : Dk) (x : Int) : Prop where
 lg : Lg D 4096 ((A ++ B).map rcB)
 x : x = ((A ++ B).length : Nat)
 sure : D.sure = fsecs (A.map rcB) ++ zs (4096 - A.length)
 waits : D.waits = wl A.length (fsecs (B.map rcB))
 sz : ∀ r ∈ A ++ B, (rcB r).length ≤ 24
theorem lenS_rc {A : List Rc} (h : ∀ r ∈ A, (rcB r).length ≤ 24) : lenS (A.map rcB) = A.length := by
 induction A with
 | nil => rfl
 | cons r A ih =>
  have h1 := ih fun r hr => h r (List.mem_cons_of_mem _ hr)
  have h2 := h r List.mem_cons_self
  have hn : Frames.nsec (rcB r).length = 1 := by unfold Frames.nsec; omega
  show Frames.nsec (rcB r).length + lenS (A.map rcB) = A.length + 1
  omega
theorem LgS.start : LgS [] [] D0 0 := by
 have h := Lg.start 4096
 obtain ⟨h1, h2, h3⟩ := h.open_
 refine ⟨h1, rfl, ?_, h2, fun r hr => by cases hr⟩
 show (openD (Disk.blank 4096)).sure = _
 rw [h3]
 exact h1.seen
theorem LgS.add {A B : List Rc} {D : Dk} {x : Int} (h : LgS A B D x) {r : Rc} (hr : (rcB r).length ≤ 24) (hk : A.length + B.length < 4096) : addEI D x (rcB r) = 0 ∧ LgS A (B ++ [r]) (addDI D x (rcB r)) (addXI D x (rcB r)) := by
 have hn : Frames.nsec (rcB r).length = 1 := by unfold Frames.nsec; omega
 have hl := lenS_rc h.sz
 have hx : x = (lenS ((A ++ B).map rcB) : Nat) := by rw [hl]; exact h.x
 subst hx
 obtain ⟨a1, a2, a3, a4, a5⟩ := h.lg.addI (l := rcB r) (by omega) (by rw [hn, hl, List.length_append]; omega)
 have e : (A ++ (B ++ [r])).map rcB = (A ++ B).map rcB ++ [rcB r] := by simp
 have hsz : ∀ q ∈ A ++ (B ++ [r]), (rcB q).length ≤ 24 := by
  intro q hq
  rw [← List.append_assoc] at hq
  rcases List.mem_append.1 hq with hq | hq
  ·exact h.sz q hq
  ·rw [List.mem_singleton] at hq; rw [hq]; exact hr
 refine ⟨a1, by rw [e]; exact a3, ?_, by rw [a4]; exact h.sure, ?_, hsz⟩
 ·rw [a2, ← e, lenS_rc hsz]
 ·have hlB : (fsecs (B.map rcB)).length = B.length := by rw [fsecs_len]; exact lenS_rc fun q hq => h.sz q (List.mem_append_right _ hq)
  rw [a5, h.waits, show (B ++ [r]).map rcB = B.map rcB ++ [rcB r] by simp, fsecs_snoc, wlq_app, hlB, hl, List.length_append]
theorem LgS.sync {A B : List Rc} {D : Dk} {x : Int} (h : LgS A B D x) : LgS (A ++ B) [] D.sync x := by
 have hl := lenS_rc h.sz
 refine ⟨by rw [List.append_nil]; exact h.lg.sync, by rw [List.append_nil]; exact h.x, ?_, rfl, by rw [List.append_nil]; exact h.sz⟩
 show D.seen = _
 rw [← hl]
 exact h.lg.seen
theorem LgS.fail {A B : List Rc} {D : Dk} {x : Int} (h : LgS A B D x) (hk : A.length + B.length ≤ 4096) (keep torn : Int) :
  recsD (Dk.fail D keep torn) = (A ++ B.take (lead keep 0 B.length)).map rcB ∧ LgS (A ++ B.take (lead keep 0 B.length)) [] (openD (Dk.fail D keep torn)) (atD (Dk.fail D keep torn)) := by
 have hA : lenS (A.map rcB) = A.length := lenS_rc fun q hq => h.sz q (List.mem_append_left _ hq)
 have hB : lenS (B.map rcB) = B.length := lenS_rc fun q hq => h.sz q (List.mem_append_right _ hq)
 obtain ⟨c1, c2, c3⟩ := crash_short (D := D) (n := 4096) (A := A.map rcB) (B := B.map rcB) keep torn (fun r hr => by
  obtain ⟨q, hq, rfl⟩ := List.mem_map.1 hr
  have := h.sz q (List.mem_append_left _ hq)
  omega) (fun r hr => by
  obtain ⟨q, hq, rfl⟩ := List.mem_map.1 hr
  exact h.sz q (List.mem_append_right _ hq)) (by rw [hA, hB]; exact hk) (by rw [hA]; exact h.sure) (by rw [hA]; exact h.waits)
 rw [List.length_map, ← List.map_take, ← List.map_append] at c3
 obtain ⟨o1, o2, o3, o4, o5, o6⟩ := opened_lg c1
 rw [c2, c3] at o3
 have hsz : ∀ r ∈ A ++ B.take (lead keep 0 B.length), (rcB r).length ≤ 24 := fun r hr => by
  rcases List.mem_append.1 hr with hr | hr
  ·exact h.sz r (List.mem_append_left _ hr)
  ·exact h.sz r (List.mem_append_right _ (List.mem_of_mem_take hr))
 have hl := lenS_rc hsz
 refine ⟨c3, by rw [List.append_nil]; exact o3, ?_, ?_, o4, by rw [List.append_nil]; exact hsz⟩
 ·rw [List.append_nil, ← o1, c3, hl]
 ·rw [o5, ← hl]
  exact o3.seen
end Go.Proofs.YticnjkdaccacaaaGreat.Sx
end
