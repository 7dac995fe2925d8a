/- Texts of this work, one behind the other. -/
import Derived.Test.YticnjkdaccacaaaGreatDoorVWallsPlay2
import Derived.KernelRfl
import Derived.OpenShut
import Derived.Scope
import Derived.Deep.MidRow
import Derived.Great.BuildSlice
section
namespace Go.Proofs.YticnjkdaccacaaaGreatDoor.Sx
open Go Go.RowKit Base _root_.Go.Proofs.YticnjkdaccacaaaGreatDoor.Own
abbrev Env := List (Nat × Value)
def vok1 : Value → Bool
  | .int k x => (Lit.int k x).wf
  | .slice _ n c => decide (n ≤ c) && decide (c ≤ maxLen)
  | _ => true
def vokC : Value → Bool
  | .agg cs => cs.toList.all vok1
  | v => vok1 v
def vok : Value → Bool
  | .tuple vs => vs.toList.all vokC
  | v => vokC v
structure FrD (Df : List Deferred) (N : Nat) (a : Act) (L : Env) : Prop where
  size : a.tmps.size = N
  defers : a.defers = Df
  get : ∀ d v, L.lookup d = some v → a.tmps[d]? = some v ∧ vok v = true
abbrev Fr (N : Nat) (a : Act) (L : Env) : Prop := FrD [] N a L
def ev (L : Env) : Operand → Option Value
  | .tmp t => L.lookup t
  | .const v => if vok v then some v else none
  | .func f => some (.func (.func f) #[] #[])
  | .global g => some (.pointer (some ⟨g, 0, none⟩))
section
variable {Df : List Deferred} {N : Nat} {a : Act} {L L' : Env} {d : Nat} {v : Value}
theorem lookup_cons (L : Env) (d e : Nat) (v : Value) : ((d, v) :: L).lookup e = if e = d then some v else L.lookup e := by
  rw [List.lookup_cons]
  by_cases h : e = d
  · subst h; simp
  · have : (e == d) = false := by simpa using h
    simp [this, h]
theorem FrD.put (h : FrD Df N a L) (hd : d < N) (hv : vok v = true) : FrD Df N (a.put (some d) v) ((d, v) :: L) := by
  refine ⟨by simp [Act.put, h.size], h.defers, fun e u he => ?_⟩
  rw [lookup_cons] at he
  simp only [Act.put]
  rw [Array.getElem?_setIfInBounds]
  by_cases hed : e = d
  · subst hed
    rw [if_pos rfl] at he
    injection he with he
    subst he
    rw [if_pos rfl, if_pos (by rw [h.size]; exact hd)]
    exact ⟨rfl, hv⟩
  · rw [if_neg hed] at he
    rw [if_neg (fun e => hed e.symm)]
    exact h.get e u he
def Subs (L : Env) : Env → Prop
  | [] => True
  | p :: r => L.lookup p.1 = some p.2 ∧ Subs L r
theorem Subs.mem : ∀ {L' : Env}, Subs L L' → ∀ d v, L'.lookup d = some v → L.lookup d = some v := by
  intro L'
  induction L' with
  | nil => intro _ d v h; cases h
  | cons p r ih =>
    intro h d v hd
    obtain ⟨e, u⟩ := p
    rw [lookup_cons] at hd
    by_cases hed : d = e
    · subst hed; rw [if_pos rfl] at hd; injection hd with hd; subst hd; exact h.1
    · rw [if_neg hed] at hd; exact ih h.2 d v hd
theorem FrD.sub (h : FrD Df N a L) (hs : Subs L L') : FrD Df N a L' := ⟨h.size, h.defers, fun d v hd => h.get d v (hs.mem d v hd)⟩
theorem FrD.ev (h : FrD Df N a L) {o : Operand} (he : Sx.ev L o = some v) : a.eval o = v ∧ vok v = true := by
  cases o with
  | tmp t =>
    have := h.get t v he
    exact ⟨by show a.tmps.getD t undef = v; rw [Array.getD_eq_getD_getElem?, this.1]; rfl, this.2⟩
  | const u =>
    have he : (if vok u then some u else none) = some v := he
    by_cases hu : vok u = true
    · rw [if_pos hu] at he; injection he with he; subst he; exact ⟨rfl, hu⟩
    · rw [if_neg hu] at he; cases he
  | global g => injection he with he; subst he; exact ⟨rfl, rfl⟩
  | func f => injection he with he; subst he; exact ⟨rfl, rfl⟩
theorem FrD.bool (h : FrD Df N a L) {b c : Bool} (hd : L.lookup d = some (.bool b)) (hb : b = c) : FrD Df N a ((d, .bool c) :: L) := by
  subst hb
  refine ⟨h.size, h.defers, fun e u he => ?_⟩
  rw [lookup_cons] at he
  by_cases hed : e = d
  · subst hed; rw [if_pos rfl] at he; injection he with he; subst he; exact h.get _ _ hd
  · rw [if_neg hed] at he; exact h.get e u he
theorem FrD.spell (h : FrD Df N a L) {v' : Value} (hd : L.lookup d = some v) (hb : v = v') : FrD Df N a ((d, v') :: L) := by
  subst hb
  refine ⟨h.size, h.defers, fun e u he => ?_⟩
  rw [lookup_cons] at he
  by_cases hed : e = d
  · subst hed; rw [if_pos rfl] at he; injection he with he; subst he; exact h.get _ _ hd
  · rw [if_neg hed] at he; exact h.get e u he
theorem FrD.int (h : FrD Df N a L) {k : IntKind} {x : Int} (hd : L.lookup d = some (.int k x)) : (Lit.int k x).wf = true := (h.get _ _ hd).2
theorem FrD.slice (h : FrD Df N a L) {A : Option Addr} {n c : Nat} (hd : L.lookup d = some (.slice A n c)) : n ≤ c ∧ c ≤ maxLen := by
  have := (h.get _ _ hd).2
  simpa [vok, vokC, vok1] using this
def EnvOf : Nat → List Value → Env
  | _, [] => []
  | i, v :: r => (i, v) :: EnvOf (i + 1) r
theorem envOf_get : ∀ (vs : List Value) (i d : Nat) (v : Value), (EnvOf i vs).lookup d = some v → i ≤ d ∧ vs[d - i]? = some v := by
  intro vs
  induction vs with
  | nil => intro i d v h; cases h
  | cons u r ih =>
    intro i d v h
    unfold EnvOf at h
    rw [lookup_cons] at h
    by_cases hd : d = i
    · subst hd; rw [if_pos rfl] at h; exact ⟨Nat.le_refl _, by rw [Nat.sub_self]; exact h⟩
    · rw [if_neg hd] at h
      obtain ⟨h1, h2⟩ := ih _ _ _ h
      exact ⟨by omega, by rw [show d - i = (d - (i + 1)) + 1 by omega]; exact h2⟩
theorem Fr.start (N : Nat) (args : List Value) (hn : args.length ≤ N) (hv : args.all vok = true) :
    Fr N { tmps := args.toArray ++ Array.replicate (N - args.length) undef, defers := [] } (EnvOf 0 args) := by
  refine ⟨by simp; omega, rfl, fun d v h => ?_⟩
  obtain ⟨-, h2⟩ := envOf_get _ _ _ _ h
  have hlt := (List.getElem?_eq_some_iff.1 h2).1
  refine ⟨?_, ?_⟩
  · rw [Array.getElem?_append_left (by simpa using hlt)]
    simpa using h2
  · rw [List.all_eq_true] at hv
    exact hv v (List.mem_of_getElem? h2)
end
structure Orc where
  ty : List (Nat × TypeDesc)
  sz : List (Nat × Nat)
def allTy (P : Program) : List (Nat × TypeDesc) → Prop
  | [] => True
  | p :: r => P.underlying p.1 = some p.2 ∧ allTy P r
def allSz (P : Program) : List (Nat × Nat) → Prop
  | [] => True
  | p :: r => (P.info? p.1).map (·.size) = some p.2 ∧ allSz P r
structure Orc.Ok (T : Orc) (P : Program) : Prop where
  ty : allTy P T.ty
  sz : allSz P T.sz
section
variable {P : Program} {T : Orc}
theorem lookup_consG {β : Type} (L : List (Nat × β)) (d e : Nat) (v : β) : ((d, v) :: L).lookup e = if e = d then some v else L.lookup e := by
  rw [List.lookup_cons]
  by_cases h : e = d
  · subst h; simp
  · have : (e == d) = false := by simpa using h
    simp [this, h]
theorem allTy.get : ∀ {l : List (Nat × TypeDesc)}, allTy P l → ∀ t d, l.lookup t = some d → P.underlying t = some d := by
  intro l
  induction l with
  | nil => intro _ t d h; cases h
  | cons p r ih =>
    intro h t d hd
    obtain ⟨e, u⟩ := p
    rw [lookup_consG] at hd
    by_cases hed : t = e
    · subst hed; rw [if_pos rfl] at hd; injection hd with hd; subst hd; exact h.1
    · rw [if_neg hed] at hd; exact ih h.2 t d hd
theorem allSz.get : ∀ {l : List (Nat × Nat)}, allSz P l → ∀ t d, l.lookup t = some d → (P.info? t).map (·.size) = some d := by
  intro l
  induction l with
  | nil => intro _ t d h; cases h
  | cons p r ih =>
    intro h t d hd
    obtain ⟨e, u⟩ := p
    rw [lookup_consG] at hd
    by_cases hed : t = e
    · subst hed; rw [if_pos rfl] at hd; injection hd with hd; subst hd; exact h.1
    · rw [if_neg hed] at hd; exact ih h.2 t d hd
theorem Orc.Ok.und (h : T.Ok P) {t : Nat} {d : TypeDesc} (hd : T.ty.lookup t = some d) : P.underlying t = some d := h.ty.get _ _ hd
theorem Orc.Ok.size (h : T.Ok P) {t n : Nat} (hd : T.sz.lookup t = some n) : (P.info? t).map (·.size) = some n := h.sz.get _ _ hd
def bitv (op : BinOp) (k : IntKind) (a b : Int) : Int :=
  match op with
  | .and => k.wrap (BitVec.ofInt k.bits a &&& BitVec.ofInt k.bits b).toNat
  | .or => k.wrap (BitVec.ofInt k.bits a ||| BitVec.ofInt k.bits b).toNat
  | .xor => k.wrap (BitVec.ofInt k.bits a ^^^ BitVec.ofInt k.bits b).toNat
  | _ => k.wrap (BitVec.ofInt k.bits a &&& ~~~(BitVec.ofInt k.bits b)).toNat
def binI (op : BinOp) (k : IntKind) (a b : Int) : Option Value :=
  match op with
  | .add => some (.int k (k.wrap (a + b)))
  | .sub => some (.int k (k.wrap (a - b)))
  | .mul => some (.int k (k.wrap (a * b)))
  | .quo => if b = 0 then none else some (.int k (k.wrap (a.tdiv b)))
  | .rem => if b = 0 then none else some (.int k (a.tmod b))
  | .and => some (.int k (bitv .and k a b))
  | .or => some (.int k (bitv .or k a b))
  | .xor => some (.int k (bitv .xor k a b))
  | .andNot => some (.int k (bitv .andNot k a b))
  | .eql => some (.bool (a == b))
  | .neq => some (.bool (a != b))
  | .lss => some (.bool (decide (a < b)))
  | .leq => some (.bool (decide (a ≤ b)))
  | .gtr => some (.bool (decide (a > b)))
  | .geq => some (.bool (decide (a ≥ b)))
  | _ => none
def shI (op : BinOp) (k : IntKind) (a b : Int) : Option Value :=
  match op with
  | .shl => if b < 0 then none else some (.int k (k.wrap (a * 2 ^ min b.toNat k.bits)))
  | .shr => if b < 0 then none else some (.int k (a.fdiv (2 ^ min b.toNat k.bits)))
  | _ => none
def eqV (d : TypeDesc) (x y : Value) : Option Bool :=
  match d, x, y with
  | .bool, .bool a, .bool b => some (a == b)
  | .pointer _, .pointer none, .pointer b => some b.isNone
  | .pointer _, .pointer (some _), .pointer none => some false
  | .slice _, .slice none _ _, .slice b _ _ => some b.isNone
  | .slice _, .slice (some _) _ _, .slice none _ _ => some false
  | .map _ _, .map none, .map b => some b.isNone
  | .map _ _, .map (some _), .map none => some false
  | .func _ _ _, .nilFunc, .nilFunc => some true
  | _, _, _ => none
def binV (T : Orc) (op : BinOp) (t : TypeId) (x y : Value) : Option Value :=
  match x, y with
  | .int k a, .int k' b =>
    match op with
    | .shl => shI .shl k a b
    | .shr => shI .shr k a b
    | op => if k = k' then binI op k a b else none
  | .string a, .string b =>
    match op with
    | .eql => some (.bool (a.toList == b.toList))
    | .neq => some (.bool (!(a.toList == b.toList)))
    | _ => none
  | x, y =>
    match op with
    | .eql => (T.ty.lookup t).bind fun d => (eqV d x y).map .bool
    | .neq => (T.ty.lookup t).bind fun d => (eqV d x y).map fun b => .bool (!b)
    | _ => none
def unV (op : UnOp) (x : Value) : Option Value :=
  match op, x with
  | .not, .bool b => some (.bool (!b))
  | .neg, .int k n => some (.int k (k.wrap (0 - n)))
  | .xor, .int k n => some (.int k (bitv .xor k (if k.signed then -1 else k.max) n))
  | _, _ => none
def convV (T : Orc) (src dst : TypeId) (x : Value) : Option Value :=
  match x with
  | .int _ n => match T.ty.lookup src, T.ty.lookup dst with
    | some _, some (.int k) => some (.int k (k.wrap n))
    | _, _ => none
  | .string s => match T.ty.lookup src, T.ty.lookup dst with
    | some .string, some .string => some (.string s)
    | _, _ => none
  | _ => none
def aggD : TypeDesc → Bool
  | .struct _ | .array _ _ => true
  | _ => false
def partV (T : Orc) (t : TypeId) (cs : Array Value) (off : Nat) : Option Value :=
  match T.ty.lookup t with
  | some (.struct _) | some (.array _ _) => (T.sz.lookup t).map fun n => .agg (cs.extract off (off + n))
  | some _ => (cs[off]?).bind fun v => if vok v then some v else none
  | none => none
def lenV (d : TypeDesc) (x : Value) : Option Value :=
  match d, x with
  | .slice _, .slice _ n _ => some (.int .i64 n)
  | .array n _, _ => if n ≤ maxLen then some (.int .i64 n) else none
  | _, _ => none
def minV (x y : Value) : Option Value :=
  match x, y with
  | .int k a, .int k' b => if k = k' then some (.int k (if b < a then b else a)) else none
  | _, _ => none
def maxV (x y : Value) : Option Value :=
  match x, y with
  | .int k a, .int k' b => if k = k' then some (.int k (if b > a then b else a)) else none
  | _, _ => none
def builtinV (T : Orc) (b : Builtin) (ts : List TypeId) (xs : List Value) : Option Value :=
  match b, ts, xs with
  | .len, [t], [x] => (T.ty.lookup t).bind fun d => lenV d x
  | .min, _, [x, y] => minV x y
  | .max, _, [x, y] => maxV x y
  | _, _, _ => none
def evs (L : Env) : List Operand → Option (List Value)
  | [] => some []
  | o :: r => (ev L o).bind fun v => (evs L r).map (v :: ·)
def callOp (T : Orc) (L : Env) (c : Call) : Option Value :=
  match c.callee with
  | .builtin b => (evs L c.args.toList).bind fun xs => builtinV T b c.argTypes.toList xs
  | _ => none
def notTup : Value → Bool
  | .tuple _ => false
  | _ => true
def pureOp (T : Orc) (L : Env) : Op → Option Value
  | .move x | .assign x => ev L x
  | .pick c x y => match ev L c with
    | some (.bool true) => ev L x
    | some (.bool false) => ev L y
    | _ => none
  | .binOp op t x y _ => (ev L x).bind fun x => (ev L y).bind fun y => binV T op t x y
  | .unOp op _ x => (ev L x).bind fun x => unV op x
  | .convert s d x => (ev L x).bind fun x => convV T s d x
  | .extract t i => match ev L t with
    | some (.tuple vs) => (vs[i]?).bind fun v => if notTup v then some v else none
    | _ => none
  | .nilCheck x => match ev L x with
    | some (.pointer (some p)) => some (.pointer (some p))
    | _ => none
  | .field t x f => match ev L x, T.ty.lookup t with
    | some (.agg cs), some (.struct fs) => (fs[f]?).bind fun fd => partV T fd.type cs fd.offset
    | _, _ => none
  | .fieldAddr t x f => match ev L x, T.ty.lookup t with
    | some (.pointer (some p)), some (.struct fs) => (fs[f]?).bind fun fd => match T.sz.lookup fd.type with
      | some (_ + 1) => some (.pointer (some (p.add fd.offset)))
      | _ => none
    | _, _ => none
  | .call c => callOp T L c
  | _ => none
theorem wf_int {k : IntKind} {x : Int} : (Lit.int k x).wf = true ↔ k.min ≤ x ∧ x ≤ k.max := by simp [Lit.wf]
theorem wf_bitv (op : BinOp) (k : IntKind) (a b : Int) : (Lit.int k (bitv op k a b)).wf = true := by unfold bitv; split <;> exact wf_wrap _ _
theorem wf_tmod {k : IntKind} {a b : Int} (h : (Lit.int k a).wf = true) : (Lit.int k (a.tmod b)).wf = true := by
  rw [wf_int] at h ⊢
  rcases Int.le_total 0 a with ha | ha
  · have h1 : 0 ≤ a.tmod b := Int.tmod_nonneg _ ha
    have h2 : a.tmod b ≤ a := by
      have e := Int.mul_tdiv_add_tmod a b
      have h3 := Int.natAbs_tmod a b
      have h4 : (a.tmod b).natAbs ≤ a.natAbs := by rw [h3]; exact Nat.mod_le _ _
      omega
    have hm : k.min ≤ 0 := by cases k <;> decide
    exact ⟨by omega, by omega⟩
  · have h1 : a.tmod b ≤ 0 := by
      have := Int.tmod_nonneg (a := -a) b (by omega)
      rw [Int.neg_tmod] at this; omega
    have h2 : a ≤ a.tmod b := by
      have h4 : (a.tmod b).natAbs ≤ a.natAbs := by rw [Int.natAbs_tmod]; exact Nat.mod_le _ _
      omega
    have hm : 0 ≤ k.max := by cases k <;> decide
    exact ⟨by omega, by omega⟩
theorem wf_shr {k : IntKind} {a : Int} (n : Nat) (h : (Lit.int k a).wf = true) : (Lit.int k (a.fdiv (2 ^ n))).wf = true := by
  rw [wf_int] at h ⊢
  have hp : (0 : Int) < 2 ^ n := Int.pow_pos (by decide)
  rw [Int.fdiv_eq_ediv_of_nonneg _ (by omega)]
  have hm : k.min ≤ 0 := by cases k <;> decide
  have hx : 0 ≤ k.max := by cases k <;> decide
  rcases Int.le_total 0 a with ha | ha
  · have h1 : 0 ≤ a / 2 ^ n := Int.ediv_nonneg ha (by omega)
    have h2 : a / 2 ^ n ≤ a := Int.ediv_le_self _ ha
    exact ⟨by omega, by omega⟩
  · have h1 : a ≤ a / 2 ^ n := by
      rw [Int.le_ediv_iff_mul_le hp]
      have : a * 2 ^ n ≤ a * 1 := Int.mul_le_mul_of_nonpos_left ha (by omega)
      omega
    have h2 : a / 2 ^ n ≤ 0 := by
      have := Int.ediv_le_ediv hp ha
      simpa using this
    exact ⟨by omega, by omega⟩
theorem binI_ok {op : BinOp} {k : IntKind} {a b : Int} {v : Value} (ha : (Lit.int k a).wf = true) (h : binI op k a b = some v) : vok v = true := by
  unfold binI at h
  split at h <;> first
    | (injection h with h; subst h; first | exact wf_wrap _ _ | exact wf_bitv _ _ _ _ | rfl)
    | (split at h; (cases h); (injection h with h; subst h; first | exact wf_wrap _ _ | exact wf_tmod ha))
    | cases h
theorem shI_ok {op : BinOp} {k : IntKind} {a b : Int} {v : Value} (ha : (Lit.int k a).wf = true) (h : shI op k a b = some v) : vok v = true := by
  unfold shI at h
  split at h <;> first
    | (split at h; (cases h); (injection h with h; subst h; first | exact wf_wrap _ _ | exact wf_shr _ ha))
    | cases h
theorem binV_ok {op : BinOp} {t : TypeId} {x y v : Value} (hx : vok x = true) (h : binV T op t x y = some v) : vok v = true := by
  unfold binV at h
  split at h
  · split at h
    · exact shI_ok hx h
    · exact shI_ok hx h
    · split at h
      · exact binI_ok hx h
      · cases h
  · split at h <;> first | (injection h with h; subst h; rfl) | cases h
  · split at h
    · simp only [Option.bind_eq_some_iff, Option.map_eq_some_iff] at h
      obtain ⟨_, _, _, _, rfl⟩ := h; rfl
    · simp only [Option.bind_eq_some_iff, Option.map_eq_some_iff] at h
      obtain ⟨_, _, _, _, rfl⟩ := h; rfl
    · cases h
theorem unV_ok {op : UnOp} {x v : Value} (h : unV op x = some v) : vok v = true := by
  unfold unV at h
  split at h <;> first | (injection h with h; subst h; first | rfl | exact wf_wrap _ _ | exact wf_bitv _ _ _ _) | cases h
theorem convV_ok {s d : TypeId} {x v : Value} (h : convV T s d x = some v) : vok v = true := by
  unfold convV at h
  split at h
  · split at h
    · injection h with h; subst h; exact wf_wrap _ _
    · cases h
  · split at h
    · injection h with h; subst h; rfl
    · cases h
  · cases h
theorem vok_extract {cs : Array Value} {i j : Nat} (h : vok (.agg cs) = true) : vok (.agg (cs.extract i j)) = true := by
  simp only [vok, vokC, List.all_eq_true] at h ⊢
  intro x hx
  refine h x ?_
  rw [Array.toList_extract] at hx
  exact List.mem_of_mem_drop (List.mem_of_mem_take hx)
theorem partV_ok {t off : Nat} {cs : Array Value} {v : Value} (hx : vok (.agg cs) = true) (h : partV T t cs off = some v) : vok v = true := by
  unfold partV at h
  split at h
  · simp only [Option.map_eq_some_iff] at h; obtain ⟨n, _, rfl⟩ := h; exact vok_extract hx
  · simp only [Option.map_eq_some_iff] at h; obtain ⟨n, _, rfl⟩ := h; exact vok_extract hx
  · simp only [Option.bind_eq_some_iff] at h
    obtain ⟨u, _, h⟩ := h
    split at h
    · injection h with h; subst h; assumption
    · cases h
  · cases h
theorem vok_len {n : Nat} (h : n ≤ maxLen) : vok (.int .i64 (n : Int)) = true := by
  have h : (Lit.int .i64 (n : Int)).wf = true := by
    rw [wf_int]
    have hm : (maxLen : Int) = 9223372036854775807 := by decide
    have h1 : IntKind.i64.min = -9223372036854775808 := by decide
    have h2 : IntKind.i64.max = 9223372036854775807 := by decide
    omega
  exact h
theorem lenV_ok {d : TypeDesc} {x v : Value} (hx : vok x = true) (h : lenV d x = some v) : vok v = true := by
  unfold lenV at h
  split at h
  · injection h with h; subst h
    simp only [vok, vokC, vok1, Bool.and_eq_true, decide_eq_true_eq] at hx
    exact vok_len (by omega)
  · split at h
    · injection h with h; subst h
      exact vok_len (by assumption)
    · cases h
  · cases h
theorem binI_run {op : BinOp} {t : TypeId} {k : IntKind} {a b : Int} {v : Value} (h1 : op ≠ .shl) (h2 : op ≠ .shr) (h : binI op k a b = some v) (w : World) : (binOp op t (.int k a) (.int k b)).run P w = .ok v w := by
  unfold binI at h
  split at h <;> first
    | (injection h with h; subst h; simp [binOp, Op.intArith, Op.intBits, Op.intCmp, bitv]; done)
    | (split at h; (cases h); (injection h with h; subst h; simp [binOp, Op.intDiv, *]; done))
    | (cases op <;> first | (cases h) | (exact absurd rfl h1) | (exact absurd rfl h2) | simp_all)
theorem shI_run {op : BinOp} {t : TypeId} {k k' : IntKind} {a b : Int} {v : Value} (h : shI op k a b = some v) (w : World) : (binOp op t (.int k a) (.int k' b)).run P w = .ok v w := by
  unfold shI at h
  split at h <;> first
    | (split at h; (cases h); (injection h with h; subst h; simp [binOp, Op.shift, *]; done))
    | cases h
theorem eqV_run {t : TypeId} {d : TypeDesc} {x y : Value} {b : Bool} (hd : P.underlying t = some d) (h : eqV d x y = some b) (w : World) : (Op.equal t x y).run P w = .ok b w := by
  show (Op.equalIn (9999 + 1) t x y).run P w = .ok b w
  unfold Op.equalIn
  rw [Sem.run_bind, run_underlying hd, Result.andThen_ok]
  unfold eqV at h
  split at h <;> first
    | (injection h with h; subst h; rfl)
    | cases h
theorem eqGuard_run {op : BinOp} {t : TypeId} {x y : Value} {xo yo : Operand} (h1 : ∀ c d, x = .agg c → y = .agg d → False) (h2 : x = .nilIface → y = .nilIface → False) (w : World) : (eqGuard op t xo yo x y).run P w = .ok () w := by
  unfold eqGuard
  split
  · rw [if_neg (by decide)]
    split
    · exact (h2 rfl rfl).elim
    · exact (h1 _ _ rfl rfl).elim
    · rfl
  · rw [if_neg (by decide)]
    split
    · exact (h2 rfl rfl).elim
    · exact (h1 _ _ rfl rfl).elim
    · rfl
  · rfl
theorem eqV_kinds {d : TypeDesc} {x y : Value} {b : Bool} (h : eqV d x y = some b) : (∀ c e, x = .agg c → y = .agg e → False) ∧ (x = .nilIface → y = .nilIface → False) ∧
    (∀ op t, op = .eql ∨ op = .neq → (binOp op t x y : Sem Value) = (if op = .eql then (do pure (.bool (← Op.equal t x y))) else (do pure (.bool (!(← Op.equal t x y)))))) := by
  unfold eqV at h
  split at h <;> first
    | (refine ⟨(by intro c e h; cases h), (by intro h; cases h), ?_⟩; rintro op t (rfl | rfl) <;> rfl)
    | cases h
theorem binV_run (hT : T.Ok P) {op : BinOp} {t : TypeId} {x y : Value} {xo yo : Operand} {v : Value} (h : binV T op t x y = some v) (w : World) :
    (do eqGuard op t xo yo x y; binOp op t x y : Sem Value).run P w = .ok v w := by
  unfold binV at h
  split at h
  · rw [Sem.run_bind, eqGuard_run (by intro c d h; cases h) (by intro h; cases h), Result.andThen_ok]
    split at h
    · exact shI_run h w
    · exact shI_run h w
    · split at h
      · rename_i k a k' b op' h1 h2 hk
        subst hk
        exact binI_run (fun e => h1 e) (fun e => h2 e) h w
      · cases h
  · rw [Sem.run_bind, eqGuard_run (by intro c d h; cases h) (by intro h; cases h), Result.andThen_ok]
    split at h
    · injection h with h; subst h; rfl
    · injection h with h; subst h; rfl
    · cases h
  · split at h
    · simp only [Option.bind_eq_some_iff, Option.map_eq_some_iff] at h
      obtain ⟨d, hd, b, hb, rfl⟩ := h
      obtain ⟨h1, h2, h3⟩ := eqV_kinds hb
      rw [Sem.run_bind, eqGuard_run h1 h2, Result.andThen_ok, h3 _ _ (.inl rfl), if_pos rfl, Sem.run_bind, eqV_run (hT.und hd) hb]; rfl
    · simp only [Option.bind_eq_some_iff, Option.map_eq_some_iff] at h
      obtain ⟨d, hd, b, hb, rfl⟩ := h
      obtain ⟨h1, h2, h3⟩ := eqV_kinds hb
      rw [Sem.run_bind, eqGuard_run h1 h2, Result.andThen_ok, h3 _ _ (.inr rfl), if_neg (by decide), Sem.run_bind, eqV_run (hT.und hd) hb]; rfl
    · cases h
theorem unV_run {op : UnOp} {x v : Value} (h : unV op x = some v) (w : World) : (Op.unary op x).run P w = .ok v w := by
  unfold unV at h
  split at h <;> first | (injection h with h; subst h; rfl) | cases h
theorem convV_run (hT : T.Ok P) {s d : TypeId} {x v : Value} (h : convV T s d x = some v) (w : World) : (convert s d x).run P w = .ok v w := by
  unfold convV at h
  unfold convert
  split at h
  · split at h
    · rename_i ds k hs hd
      injection h with h; subst h
      rw [Sem.run_bind, run_underlying (hT.und hs), Result.andThen_ok, Sem.run_bind, run_underlying (hT.und hd), Result.andThen_ok]
      cases ds <;> rfl
    · cases h
  · split at h
    · rename_i hs hd
      injection h with h; subst h
      rw [Sem.run_bind, run_underlying (hT.und hs), Result.andThen_ok, Sem.run_bind, run_underlying (hT.und hd), Result.andThen_ok]
      rfl
    · cases h
  · cases h
theorem size_run (hT : T.Ok P) {t n : Nat} (h : T.sz.lookup t = some n) (w : World) : (sizeOf t).run P w = .ok n w := by
  have := hT.size h
  cases hi : P.info? t with
  | none => simp [hi] at this
  | some i =>
    have e : i.size = n := by simpa [hi] using this
    subst e
    unfold sizeOf typeInfo
    simp [hi]
theorem isAgg_run {t : TypeId} {d : TypeDesc} (h : P.underlying t = some d) (w : World) : (isAgg t).run P w = .ok (aggD d) w := by
  unfold isAgg
  rw [Sem.run_bind, run_underlying h, Result.andThen_ok]
  unfold aggD
  cases d <;> rfl
theorem partV_run (hT : T.Ok P) {t off : Nat} {cs : Array Value} {v : Value} (h : partV T t cs off = some v) (w : World) : (part t cs off).run P w = .ok v w := by
  unfold partV at h
  unfold part
  split at h
  · rename_i hd
    simp only [Option.map_eq_some_iff] at h
    obtain ⟨n, hn, rfl⟩ := h
    rw [Sem.run_bind, isAgg_run (hT.und hd), Result.andThen_ok]
    simp [aggD, size_run hT hn]
  · rename_i hd
    simp only [Option.map_eq_some_iff] at h
    obtain ⟨n, hn, rfl⟩ := h
    rw [Sem.run_bind, isAgg_run (hT.und hd), Result.andThen_ok]
    simp [aggD, size_run hT hn]
  · rename_i d h1 h2 hd
    simp only [Option.bind_eq_some_iff] at h
    obtain ⟨u, hu, h⟩ := h
    split at h
    · injection h with h; subst h
      rw [Sem.run_bind, isAgg_run (hT.und hd), Result.andThen_ok]
      have : aggD d = false := by
        unfold aggD
        split
        · exact (h1 _ rfl).elim
        · exact (h2 _ _ rfl).elim
        · rfl
      rw [this, if_neg (by decide), hu]; rfl
    · cases h
  · cases h
theorem evs_run {Df : List Deferred} {N : Nat} {a : Act} {L : Env} (fr : FrD Df N a L) : ∀ {os : List Operand} {vs : List Value}, evs L os = some vs → os.map a.eval = vs ∧ vs.all vok = true := by
  intro os
  induction os with
  | nil => intro vs h; injection h with h; subst h; exact ⟨rfl, rfl⟩
  | cons o r ih =>
    intro vs h
    unfold evs at h
    simp only [Option.bind_eq_some_iff, Option.map_eq_some_iff] at h
    obtain ⟨v, h1, l, h2, rfl⟩ := h
    obtain ⟨h3, h4⟩ := ih h2
    exact ⟨by rw [List.map_cons, h3, (fr.ev h1).1], by simp [(fr.ev h1).2, h4]⟩
theorem minV_run {x y v : Value} (h : minV x y = some v) (w : World) : (Builtin.min2 x y).run P w = .ok v w := by
  unfold minV at h
  split at h
  · split at h
    · injection h with h; subst h; rfl
    · cases h
  · cases h
theorem maxV_run {x y v : Value} (h : maxV x y = some v) (w : World) : (Builtin.max2 x y).run P w = .ok v w := by
  unfold maxV at h
  split at h
  · split at h
    · injection h with h; subst h; rfl
    · cases h
  · cases h
theorem builtinV_run (hT : T.Ok P) {b : Builtin} {ts : Array TypeId} {ty : TypeId} {cs : Array Bool} {xs : Array Value} {v : Value} (h : builtinV T b ts.toList xs.toList = some v) (hx : xs.toList.all vok = true) (w : World) :
    (builtin b ts ty cs xs).run P w = .ok (.value v) w ∧ vok v = true := by
  obtain ⟨ts⟩ := ts
  obtain ⟨xs⟩ := xs
  simp only at h hx
  unfold builtinV at h
  split at h
  · rename_i t x
    simp only [Option.bind_eq_some_iff] at h
    obtain ⟨d, hd, h⟩ := h
    have hx : vok x = true := by simpa using hx
    refine ⟨?_, lenV_ok hx h⟩
    have e : (Builtin.len_ #[t] ty #[x]).run P w = .ok v w := by
      simp only [Builtin.len_, List.getElem?_toArray, List.getElem?_cons_zero]
      rw [Sem.run_bind, run_underlying (hT.und hd), Result.andThen_ok]
      unfold lenV at h
      split at h
      · injection h with h; subst h; rfl
      · split at h
        · injection h with h; subst h; rfl
        · cases h
      · cases h
    show (do pure (Next.value (← Builtin.len_ #[t] ty #[x])) : Sem Next).run P w = _
    rw [Sem.run_bind, e]; rfl
  · rename_i x y
    have hx : vok x = true ∧ vok y = true := by simpa using hx
    have e : (Builtin.min_ ⟨ts⟩ ty #[x, y]).run P w = .ok v w := by
      simp [Builtin.min_, List.foldlM, minV_run h]
    refine ⟨by show (do pure (Next.value (← Builtin.min_ ⟨ts⟩ ty #[x, y])) : Sem Next).run P w = _; rw [Sem.run_bind, e]; rfl, ?_⟩
    unfold minV at h
    split at h
    · split at h
      · rename_i hk
        subst hk
        injection h with h; subst h
        split
        · exact hx.2
        · exact hx.1
      · cases h
    · cases h
  · rename_i x y
    have hx : vok x = true ∧ vok y = true := by simpa using hx
    have e : (Builtin.max_ ⟨ts⟩ ty #[x, y]).run P w = .ok v w := by
      simp [Builtin.max_, List.foldlM, maxV_run h]
    refine ⟨by show (do pure (Next.value (← Builtin.max_ ⟨ts⟩ ty #[x, y])) : Sem Next).run P w = _; rw [Sem.run_bind, e]; rfl, ?_⟩
    unfold maxV at h
    split at h
    · split at h
      · rename_i hk
        subst hk
        injection h with h; subst h
        split
        · exact hx.2
        · exact hx.1
      · cases h
    · cases h
  · cases h
theorem pure_run (hT : T.Ok P) {Df : List Deferred} {N : Nat} {a : Act} {L : Env} (fr : FrD Df N a L) {o : Oper} {v : Value} (h : pureOp T L o.op = some v) (w : World) : (execOp a.eval o).run P w = .ok (.value v) w ∧ vok v = true := by
  unfold execOp
  cases ho : o.op <;> rw [ho] at h <;> simp only [pureOp] at h <;> try (cases h; done)
  case move x => exact ⟨by rw [← (fr.ev h).1]; rfl, (fr.ev h).2⟩
  case assign x => exact ⟨by rw [← (fr.ev h).1]; rfl, (fr.ev h).2⟩
  case pick c x y =>
    split at h
    · rename_i hc
      refine ⟨?_, (fr.ev h).2⟩
      simp [(fr.ev hc).1, asBool, (fr.ev h).1]
    · rename_i hc
      refine ⟨?_, (fr.ev h).2⟩
      simp [(fr.ev hc).1, asBool, (fr.ev h).1]
    · cases h
  case binOp op t x y ty =>
    simp only [Option.bind_eq_some_iff] at h
    obtain ⟨vx, h1, vy, h2, h3⟩ := h
    refine ⟨?_, binV_ok (fr.ev h1).2 h3⟩
    simp only [(fr.ev h1).1, (fr.ev h2).1]
    have := binV_run (P := P) hT (xo := x) (yo := y) h3 w
    rw [Sem.run_bind, this]; rfl
  case unOp op t x =>
    simp only [Option.bind_eq_some_iff] at h
    obtain ⟨vx, h1, h3⟩ := h
    refine ⟨?_, unV_ok h3⟩
    simp only [(fr.ev h1).1]
    rw [Sem.run_bind, unV_run h3]; rfl
  case convert s d x =>
    simp only [Option.bind_eq_some_iff] at h
    obtain ⟨vx, h1, h3⟩ := h
    refine ⟨?_, convV_ok h3⟩
    simp only [(fr.ev h1).1]
    rw [Sem.run_bind, convV_run hT h3]; rfl
  case nilCheck x =>
    split at h
    · rename_i p hx
      injection h with h; subst h
      simp only [(fr.ev hx).1]
      exact ⟨rfl, rfl⟩
    · cases h
  case extract t i =>
    split at h
    · rename_i vs ht
      simp only [Option.bind_eq_some_iff] at h
      obtain ⟨u, hu, h⟩ := h
      obtain ⟨e1, e2⟩ := fr.ev ht
      by_cases hn : notTup u = true
      · rw [if_pos hn] at h
        injection h with h; subst h
        refine ⟨?_, ?_⟩
        · simp only [e1, Instr.extract, hu]; rfl
        · have hm : u ∈ vs.toList := by
            rw [← Array.getElem?_toList] at hu
            exact List.mem_of_getElem? hu
          have := (List.all_eq_true.1 (show vs.toList.all vokC = true from e2)) u hm
          cases u <;> first | exact this | (cases hn)
      · rw [if_neg hn] at h; cases h
    · cases h
  case field t x f =>
    split at h
    · rename_i cs fs hx ht
      simp only [Option.bind_eq_some_iff] at h
      obtain ⟨fd, hf, h⟩ := h
      obtain ⟨e1, e2⟩ := fr.ev hx
      refine ⟨?_, partV_ok e2 h⟩
      simp only [e1, Instr.field]
      rw [Sem.run_bind, Sem.run_bind, run_underlying (hT.und ht), Result.andThen_ok]
      simp only [hf, asAgg]
      rw [Sem.run_bind, Sem.run_pure, Result.andThen_ok, partV_run hT h]; rfl
    · cases h
  case fieldAddr t x f =>
    split at h
    · rename_i p fs hx ht
      simp only [Option.bind_eq_some_iff] at h
      obtain ⟨fd, hf, h⟩ := h
      obtain ⟨e1, e2⟩ := fr.ev hx
      split at h
      · rename_i n hs
        injection h with h; subst h
        refine ⟨?_, rfl⟩
        simp only [e1, Instr.fieldAt, Instr.sureAddr, fieldPlace]
        rw [Sem.run_bind, Sem.run_bind, run_underlying (hT.und ht), Result.andThen_ok]
        simp only [hf]
        simp [size_run hT hs]
      · cases h
    · cases h
  case call c =>
    unfold callOp at h
    split at h
    · rename_i b hb
      simp only [Option.bind_eq_some_iff] at h
      obtain ⟨xs, hx, h⟩ := h
      obtain ⟨h1, h2⟩ := evs_run fr hx
      have e : c.args.map a.eval = xs.toArray := by
        apply Array.toList_inj.1
        rw [Array.toList_map, h1]
      simp only [resolve, hb]
      rw [Sem.run_bind, Sem.run_pure, Result.andThen_ok]
      simp only [invoke, e]
      exact builtinV_run hT h h2 w
    · cases h
end
end Go.Proofs.YticnjkdaccacaaaGreatDoor.Sx
end
section
namespace Go.Proofs.YticnjkdaccacaaaGreatDoor.Sx
open Go Go.RowKit Base _root_.Go.Proofs.YticnjkdaccacaaaGreatDoor.Own
theorem blt_lt {d N : Nat} (h : Nat.blt d N = true) : d < N := Nat.le_of_ble_eq_true h
section
variable {P : Program} {T : Orc} {ops : Array Oper} {Q : Exit → Act → World → Prop} {Df : List Deferred} {N : Nat} {a : Act} {w : World} {L L' : Env}
def wantL (ops : Array Oper) (L : Env) (o : Oper) : Option Bool :=
  match o.guard with
  | none => some true
  | some (j, want) => match (ops[j]?).bind (·.dst) with
    | some t => match L.lookup t with
      | some (.bool b) => some (b == want)
      | some (.tuple _) => some false
      | _ => none
    | none => none
theorem wantL_run (fr : FrD Df N a L) {o : Oper} {b : Bool} (h : wantL ops L o = some b) : Region.wanted o (yielded ops a.tmps) = b := by
  unfold wantL at h
  split at h
  · rename_i hg
    injection h with h; subst h
    simp [Region.wanted, hg]
  · rename_i j want hg
    split at h
    · rename_i t ht
      split at h
      · rename_i c hc
        injection h with h; subst h
        have := (fr.get _ _ hc).1
        simp only [Region.wanted, hg, yielded, ht, Option.bind_some]
        rw [this]; simp
      · rename_i c hc
        injection h with h; subst h
        have := (fr.get _ _ hc).1
        simp only [Region.wanted, hg, yielded, ht, Option.bind_some]
        rw [this]; rfl
      · cases h
    · cases h
def stepL (T : Orc) (N : Nat) (ops : Array Oper) (o : Oper) (L : Env) : Option Env :=
  match o.dst with
  | none => none
  | some d => if d < N then
      match wantL ops L o with
      | some true => match pureOp T L o.op with
        | some v => some ((d, v) :: L)
        | none => none
      | some false => some ((d, undef) :: L)
      | none => none
    else none
def runL (T : Orc) (N : Nat) (ops : Array Oper) : Nat → List Oper → Env → Option (List Oper × Env)
  | 0, l, L => some (l, L)
  | _ + 1, [], _ => none
  | n + 1, o :: r, L => match stepL T N ops o L with
    | some L' => runL T N ops n r L'
    | none => none
theorem wl_op {o : Oper} {rest : List Oper} (fr : FrD Df N a L) (hw : wantL ops L o = some true) (h : ∀ K : Act → World → Prop, (∀ a w, wpList P ops Q rest a w → K a w) → o.wp P a w K Q) : wpList P ops Q (o :: rest) a w :=
  wpList_step fun K hK => by rw [wantL_run fr hw, if_pos rfl]; exact h K hK
theorem wl_no {o : Oper} {rest : List Oper} (fr : FrD Df N a L) (hw : wantL ops L o = some false) (h : wpList P ops Q rest (a.put o.dst undef) w) : wpList P ops Q (o :: rest) a w :=
  wpList_step fun K hK => by rw [wantL_run fr hw, if_neg (by decide)]; exact hK _ _ h
theorem wl_run (hT : T.Ok P) : ∀ (n : Nat) {l rest : List Oper} {L L' : Env} {a : Act}, runL T N ops n l L = some (rest, L') → FrD Df N a L → (∀ a', FrD Df N a' L' → wpList P ops Q rest a' w) → wpList P ops Q l a w := by
  intro n
  induction n with
  | zero => intro l rest L L' a hr fr h; simp only [runL, Option.some.injEq, Prod.mk.injEq] at hr; obtain ⟨rfl, rfl⟩ := hr; exact h a fr
  | succ n ih =>
    intro l rest L L' a hr fr h
    cases l with
    | nil => simp [runL] at hr
    | cons o r =>
      simp only [runL] at hr
      split at hr
      · rename_i L1 h1
        unfold stepL at h1
        split at h1
        · cases h1
        · rename_i d hd
          split at h1
          · rename_i hlt
            split at h1
            · rename_i hw
              split at h1
              · rename_i v hv
                injection h1 with h1; subst h1
                obtain ⟨e1, e2⟩ := pure_run hT fr hv w
                refine wl_op fr hw fun K hK => ?_
                refine wp_value e1 (hK _ _ ?_)
                rw [hd]
                exact ih hr (fr.put hlt e2) h
              · cases h1
            · rename_i hw
              injection h1 with h1; subst h1
              refine wl_no fr hw ?_
              rw [hd]
              exact ih hr (fr.put hlt rfl) h
            · cases h1
          · cases h1
      · cases hr
theorem wl_val {o : Oper} {rest : List Oper} {d : Nat} {v : Value} {w' : World} (fr : FrD Df N a L) (hw : wantL ops L o = some true) (hd : o.dst = some d) (hlt : Nat.blt d N = true) (hrun : (execOp a.eval o).run P w = .ok (.value v) w') (hv : vok v = true)
    (h : ∀ a', FrD Df N a' ((d, v) :: L) → wpList P ops Q rest a' w') : wpList P ops Q (o :: rest) a w :=
  wl_op fr hw fun K hK => wp_value hrun (hK _ _ (by rw [hd]; exact h _ (fr.put (blt_lt hlt) hv)))
theorem wp_skipv {o : Oper} {K : Act → World → Prop} {Q' : Exit → Act → World → Prop} {w' : World} (h : (execOp a.eval o).run P w = .ok .skip w') (hK : K (a.put o.dst undef) w') : Oper.wp P o a w K Q' := by
  unfold Oper.wp
  rw [h, Oper.upon_skip]
  exact hK
theorem wl_skip {o : Oper} {rest : List Oper} {w' : World} (fr : FrD Df N a L) (hw : wantL ops L o = some true) (hd : o.dst = none) (hrun : (execOp a.eval o).run P w = .ok .skip w') (h : wpList P ops Q rest a w') : wpList P ops Q (o :: rest) a w :=
  wl_op fr hw fun K hK => wp_skipv hrun (hK _ _ (by rw [hd]; exact h))
def callL (L : Env) (o : Oper) : Option (FuncId × List Value) :=
  match o.op with
  | .call c => match c.callee with
    | .value (.func f) => (evs L c.args.toList).map fun xs => (f, xs)
    | _ => none
  | _ => none
def Enters (P : Program) (f : FuncId) : Prop := ∀ xs W, (callFunc f xs).run P W = .ok (.enter f xs) W
theorem call_run (fr : FrD Df N a L) {o : Oper} {f : FuncId} {xs : List Value} (h : callL L o = some (f, xs)) (hin : Enters P f) (w : World) : (execOp a.eval o).run P w = .ok (.enter f xs.toArray) w := by
  unfold callL at h
  split at h
  · rename_i c hc
    split at h
    · rename_i g hg
      simp only [Option.map_eq_some_iff, Prod.mk.injEq] at h
      obtain ⟨ys, h1, rfl, rfl⟩ := h
      have e : c.args.map a.eval = ys.toArray := by
        apply Array.toList_inj.1
        rw [Array.toList_map, (evs_run fr h1).1]
      unfold execOp
      simp only [hc, resolve, hg, Act.eval, Deferred.ofValue]
      rw [Sem.run_bind, Sem.run_pure, Result.andThen_ok]
      simp only [invoke]
      have e3 := hin ys.toArray w
      rw [← e] at e3 ⊢
      simpa using e3
    · cases h
  · cases h
theorem wp_call {o : Oper} {f : FuncId} {args : Array Value} {K : Act → World → Prop} {Q' : Exit → Act → World → Prop} (hrun : (execOp a.eval o).run P w = .ok (.enter f args) w) (h : Calls P f args w fun e w' => ∃ v, e = .returned v ∧ K (a.put o.dst v) w') : Oper.wp P o a w K Q' := by
  unfold Oper.wp
  rw [hrun, Oper.upon_enter]
  refine h.mono fun e w'' hh => ?_
  obtain ⟨v, rfl, hk⟩ := hh
  exact hk
theorem wl_call {o : Oper} {rest : List Oper} {d : Nat} {f : FuncId} {xs : List Value} {R : Ending → World → Prop} (fr : FrD Df N a L) (hw : wantL ops L o = some true) (hd : o.dst = some d) (hlt : Nat.blt d N = true) (hc : callL L o = some (f, xs)) (hin : Enters P f) (hcon : Calls P f xs.toArray w R)
    (h : ∀ e w', R e w' → ∃ v, e = .returned v ∧ vok v = true ∧ ∀ a', FrD Df N a' ((d, v) :: L) → wpList P ops Q rest a' w') : wpList P ops Q (o :: rest) a w :=
  wl_op fr hw fun K hK => wp_call (call_run fr hc hin w) (hcon.mono fun e w' hR => by
    obtain ⟨v, he, hv, hk⟩ := h e w' hR
    exact ⟨v, he, hK _ _ (by rw [hd]; exact hk _ (fr.put (blt_lt hlt) hv))⟩)
theorem wl_call0 {o : Oper} {rest : List Oper} {f : FuncId} {xs : List Value} {R : Ending → World → Prop} (fr : FrD Df N a L) (hw : wantL ops L o = some true) (hd : o.dst = none) (hc : callL L o = some (f, xs)) (hin : Enters P f) (hcon : Calls P f xs.toArray w R)
    (h : ∀ e w', R e w' → ∃ v, e = .returned v ∧ wpList P ops Q rest a w') : wpList P ops Q (o :: rest) a w :=
  wl_op fr hw fun K hK => wp_call (call_run fr hc hin w) (hcon.mono fun e w' hR => by
    obtain ⟨v, he, hk⟩ := h e w' hR
    exact ⟨v, he, hK _ _ (by rw [hd]; exact hk)⟩)
theorem wl_split {l : List Oper} {ρ : Type} {E1 E2 : Option ρ} {r : ρ} {b : Bool} (d : Nat) (fr : FrD Df N a L) (hd : L.lookup d = some (.bool b)) (h : (if b = true then E1 else E2) = some r)
    (ht : FrD Df N a ((d, .bool true) :: L) → E1 = some r → wpList P ops Q l a w) (hf : FrD Df N a ((d, .bool false) :: L) → E2 = some r → wpList P ops Q l a w) : wpList P ops Q l a w := by
  by_cases hb : b = true
  · rw [if_pos hb] at h; exact ht (fr.bool hd hb) h
  · rw [if_neg hb] at h; exact hf (fr.bool hd (by simpa using hb)) h
end
section
variable {P : Program} {T : Orc} {Q : Exit → Act → World → Prop} {S : World → Prop} {Df : List Deferred} {N : Nat} {a : Act} {w : World} {L L' : Env}
def wantS (L : Env) (s : SOp) : Option Bool :=
  match s.g with
  | none => some true
  | some (t, want) => match L.lookup t with
    | some (.bool b) => some (b == want)
    | some (.tuple _) => some false
    | _ => none
theorem wantS_run (fr : FrD Df N a L) {s : SOp} {b : Bool} (h : wantS L s = some b) : s.wanted a.tmps = b := by
  obtain ⟨q, dst, op, ty, g⟩ := s
  unfold wantS at h
  unfold SOp.wanted
  cases g with
  | none => injection h with h
  | some g =>
    obtain ⟨t, want⟩ := g
    simp only at h ⊢
    split at h
    · rename_i c hc
      injection h with h; subst h
      have := (fr.get _ _ hc).1
      rw [Array.getD_eq_getD_getElem?, this]; rfl
    · rename_i c hc
      injection h with h; subst h
      have := (fr.get _ _ hc).1
      rw [Array.getD_eq_getD_getElem?, this]; rfl
    · cases h
def stepS (T : Orc) (N : Nat) (s : SOp) (L : Env) : Option Env :=
  match s.dst with
  | none => none
  | some d => if d < N then
      match wantS L s with
      | some true => match pureOp T L s.op with
        | some v => some ((d, v) :: L)
        | none => none
      | some false => some ((d, undef) :: L)
      | none => none
    else none
def runS (T : Orc) (N : Nat) : Nat → List Itm → Env → Option (List Itm × Env)
  | 0, l, L => some (l, L)
  | n + 1, .one s :: r, L => if s.q then match stepS T N s L with
    | some L' => runS T N n r L'
    | none => none else none
  | _ + 1, _, _ => none
theorem sl_run (hT : T.Ok P) : ∀ (n : Nat) {l rest : List Itm} {L L' : Env} {a : Act}, runS T N n l L = some (rest, L') → FrD Df N a L → (∀ a', FrD Df N a' L' → SL P Q S rest a' w) → SL P Q S l a w := by
  intro n
  induction n with
  | zero => intro l rest L L' a hr fr h; simp only [runS, Option.some.injEq, Prod.mk.injEq] at hr; obtain ⟨rfl, rfl⟩ := hr; exact h a fr
  | succ n ih =>
    intro l rest L L' a hr fr h
    cases l with
    | nil => simp [runS] at hr
    | cons i r =>
      cases i with
      | two s t => simp [runS] at hr
      | one s =>
        simp only [runS] at hr
        split at hr
        · rename_i hq
          split at hr
          · rename_i L1 h1
            unfold stepS at h1
            split at h1
            · cases h1
            · rename_i d hd
              split at h1
              · rename_i hlt
                split at h1
                · rename_i hw
                  split at h1
                  · rename_i v hv
                    injection h1 with h1; subst h1
                    refine .inr (.inl ⟨wantS_run fr hw, hq, v, fun w' _ => (pure_run hT fr (o := s.oper) hv w').1, ?_⟩)
                    rw [hd]
                    exact ih hr (fr.put hlt (pure_run hT fr (o := s.oper) hv w).2) h
                  · cases h1
                · rename_i hw
                  injection h1 with h1; subst h1
                  refine .inl ⟨wantS_run fr hw, .inl hq, ?_⟩
                  rw [hd]
                  exact ih hr (fr.put hlt rfl) h
                · cases h1
              · cases h1
          · cases hr
        · cases hr
theorem sl_q {s : SOp} {rest : List Itm} {d : Nat} {v : Value} (fr : FrD Df N a L) (hw : wantS L s = some true) (hq : s.q = true) (hd : s.dst = some d) (hlt : Nat.blt d N = true) (hrun : ∀ w', S w' → (execOp a.eval s.oper).run P w' = .ok (.value v) w') (hv : vok v = true)
    (h : ∀ a', FrD Df N a' ((d, v) :: L) → SL P Q S rest a' w) : SL P Q S (.one s :: rest) a w :=
  .inr (.inl ⟨wantS_run fr hw, hq, v, hrun, by rw [hd]; exact h _ (fr.put (blt_lt hlt) hv)⟩)
theorem sl_val {s : SOp} {rest : List Itm} {d : Nat} {v : Value} {w' : World} (fr : FrD Df N a L) (hw : wantS L s = some true) (hq : s.q = false) (hd : s.dst = some d) (hlt : Nat.blt d N = true) (hrun : (execOp a.eval s.oper).run P w = .ok (.value v) w') (hS : S w') (hv : vok v = true)
    (h : ∀ a', FrD Df N a' ((d, v) :: L) → SL P Q S rest a' w') : SL P Q S (.one s :: rest) a w :=
  .inr (.inr ⟨wantS_run fr hw, hq, fun _ hK => wp_value hrun (hK _ _ hS (by show SL P Q S rest (a.put s.dst v) w'; rw [hd]; exact h _ (fr.put (blt_lt hlt) hv)))⟩)
theorem sl_skip {s : SOp} {rest : List Itm} {w' : World} (fr : FrD Df N a L) (hw : wantS L s = some true) (hq : s.q = false) (hd : s.dst = none) (hrun : (execOp a.eval s.oper).run P w = .ok .skip w') (hS : S w') (h : SL P Q S rest a w') : SL P Q S (.one s :: rest) a w :=
  .inr (.inr ⟨wantS_run fr hw, hq, fun _ hK => wp_skipv hrun (hK _ _ hS (by show SL P Q S rest (a.put s.dst undef) w'; rw [hd]; exact h))⟩)
theorem sl_call {s : SOp} {rest : List Itm} {d : Nat} {f : FuncId} {xs : List Value} {R : Ending → World → Prop} (fr : FrD Df N a L) (hw : wantS L s = some true) (hq : s.q = false) (hd : s.dst = some d) (hlt : Nat.blt d N = true) (hc : callL L s.oper = some (f, xs)) (hin : Enters P f) (hcon : Calls P f xs.toArray w R)
    (h : ∀ e w', R e w' → ∃ v, e = .returned v ∧ vok v = true ∧ S w' ∧ ∀ a', FrD Df N a' ((d, v) :: L) → SL P Q S rest a' w') : SL P Q S (.one s :: rest) a w :=
  .inr (.inr ⟨wantS_run fr hw, hq, fun _ hK => wp_call (call_run fr hc hin w) (hcon.mono fun e w' hR => by
    obtain ⟨v, he, hv, hS, hk⟩ := h e w' hR
    exact ⟨v, he, hK _ _ hS (by show SL P Q S rest (a.put s.dst v) w'; rw [hd]; exact hk _ (fr.put (blt_lt hlt) hv))⟩)⟩)
theorem sl_no {s : SOp} {rest : List Itm} {d : Nat} (fr : FrD Df N a L) (hw : wantS L s = some false) (hS : S w) (hd : s.dst = some d) (hlt : Nat.blt d N = true) (h : ∀ a', FrD Df N a' ((d, undef) :: L) → SL P Q S rest a' w) : SL P Q S (.one s :: rest) a w :=
  .inl ⟨wantS_run fr hw, .inr hS, by rw [hd]; exact h _ (fr.put (blt_lt hlt) rfl)⟩
theorem sl_split {l : List Itm} {ρ : Type} {E1 E2 : Option ρ} {r : ρ} {b : Bool} (d : Nat) (fr : FrD Df N a L) (hd : L.lookup d = some (.bool b)) (h : (if b = true then E1 else E2) = some r)
    (ht : FrD Df N a ((d, .bool true) :: L) → E1 = some r → SL P Q S l a w) (hf : FrD Df N a ((d, .bool false) :: L) → E2 = some r → SL P Q S l a w) : SL P Q S l a w := by
  by_cases hb : b = true
  · rw [if_pos hb] at h; exact ht (fr.bool hd hb) h
  · rw [if_neg hb] at h; exact hf (fr.bool hd (by simpa using hb)) h
end
section
variable {P : Program} {Q : Exit → Act → World → Prop} {Df : List Deferred} {N : Nat} {a : Act} {w : World} {L : Env}
theorem then_n {K : Act → World → Prop} (h : K a w) : Exit.then K Q .normal a w := h
theorem then_e {K : Act → World → Prop} {id : Nat} (h : Q (.exit id) a w) : Exit.then K Q (.exit id) a w := h
theorem then_r {K : Act → World → Prop} (h : Q .ret a w) : Exit.then K Q .ret a w := h
theorem blk_n {id : Nat} (h : Q .normal a w) : Exit.inBlock id Q .normal a w := h
theorem blk_r {id : Nat} (h : Q .ret a w) : Exit.inBlock id Q .ret a w := h
theorem blk_y {id : Nat} (h : Q .normal a w) : Exit.inBlock id Q (.exit id) a w := by simp only [Exit.inBlock, if_true]; exact h
theorem blk_e {id j : Nat} (hj : (j == id) = false) (h : Q (.exit j) a w) : Exit.inBlock id Q (.exit j) a w := by
  have : ¬ j = id := by simpa using hj
  simp only [Exit.inBlock, if_neg this]; exact h
theorem cw_if {c : Operand} {x y : Code} {ρ : Type} {E1 E2 : Option ρ} {r : ρ} {b : Bool} (fr : FrD Df N a L) (hc : ev L c = some (.bool b)) (h : (if b = true then E1 else E2) = some r) (ht : E1 = some r → x.wp P Q a w) (hf : E2 = some r → y.wp P Q a w) : (Code.cond c x y).wp P Q a w := by
  refine wp_cond_split (fr.ev hc).1 (fun hb => ?_) (fun hb => ?_)
  · rw [if_pos hb] at h; exact ht h
  · rw [hb, if_neg (by decide)] at h; exact hf h
theorem cw_t {c : Operand} {x y : Code} (fr : FrD Df N a L) (hc : ev L c = some (.bool true)) (h : x.wp P Q a w) : (Code.cond c x y).wp P Q a w := wp_cond_true (fr.ev hc).1 h
theorem cw_f {c : Operand} {x y : Code} (fr : FrD Df N a L) (hc : ev L c = some (.bool false)) (h : y.wp P Q a w) : (Code.cond c x y).wp P Q a w := wp_cond_false (fr.ev hc).1 h
theorem cw_cut {x y : Code} (M : Act → World → Prop) (hx : x.wp P (Exit.then M Q) a w) (hy : ∀ a w, M a w → y.wp P Q a w) : (Code.seq x y).wp P Q a w :=
  wp_seq (wp_mono hx fun e a w h => by cases e <;> first | exact hy _ _ h | exact h)
theorem cw_blk {id : Nat} {c : Code} (M : Act → World → Prop) (hx : c.wp P (Exit.inBlock id (Exit.then M Q)) a w) (hy : ∀ a w, M a w → Q .normal a w) : (Code.block id c).wp P Q a w :=
  wp_block (wp_mono hx fun e a w h => by
    cases e <;> first | exact hy _ _ h | exact h | skip
    rename_i j
    simp only [Exit.inBlock] at h ⊢
    split
    · rename_i hj; rw [if_pos hj] at h; exact hy _ _ h
    · rename_i hj; rw [if_neg hj] at h; exact h)
theorem cw_scope {c : Code} (h : c.wp P (Exit.noGoto Q) a w) : (Code.scope c).wp P Q a w := wp_scope_straight h
theorem ng_n (h : Q .normal a w) : Exit.noGoto Q .normal a w := h
theorem ng_r (h : Q .ret a w) : Exit.noGoto Q .ret a w := h
theorem ng_e {id : Nat} (h : Q (.exit id) a w) : Exit.noGoto Q (.exit id) a w := h
theorem least {p : Nat → Prop} (h : ∃ n, p n) : ∃ n, p n ∧ ∀ m, p m → n ≤ m := by
  obtain ⟨n, hn⟩ := h
  induction n using Nat.strongRecOn with
  | _ n ih =>
    by_cases h2 : ∃ m, m < n ∧ p m
    · obtain ⟨m, h3, h4⟩ := h2; exact ih m h3 h4
    · exact ⟨n, hn, fun m hm => Nat.le_of_not_lt fun h => h2 ⟨m, h, hm⟩⟩
theorem cw_loop {c : Code} (I : Nat → Act → World → Prop) (k : Nat) (h0 : I k a w) (hz : ∀ a w, ¬ I 0 a w) (hs : ∀ k a w, I (k + 1) a w → c.wp P (Exit.then (I k) Q) a w) : (Code.loop c).wp P Q a w := by
  classical
  refine wp_loop (fun a w => ∃ k, I k a w) (fun a w => if h : ∃ k, I k a w then (least h).choose else 0) ⟨k, h0⟩ fun a w hI => ?_
  obtain ⟨h1, h2⟩ := (least hI).choose_spec
  generalize hn : (least hI).choose = n at h1 h2
  have hn' : (if h : ∃ k, I k a w then (least h).choose else 0) = n := by rw [dif_pos hI]; exact hn
  rw [hn']
  cases n with
  | zero => exact absurd h1 (hz _ _)
  | succ n =>
    refine wp_mono (hs _ _ _ h1) fun e a' w' h => ?_
    cases e <;> first | exact h | skip
    have h3 : I n a' w' := h
    refine ⟨⟨n, h3⟩, ?_⟩
    rw [dif_pos ⟨n, h3⟩]
    have := (least (p := fun k => I k a' w') ⟨n, h3⟩).choose_spec.2 n h3
    omega
theorem ret1 {fn : Func} {R : Ending → World → Prop} {t : Nat} {v : Value} (fr : Fr N a L) (hres : fn.results = #[.tmp t]) (hv : L.lookup t = some v) (hR : R (.returned v) w) : bodyPost P fn R .ret a w :=
  bodyPost_ret (v := v) (by rw [results_tmp hres, Array.getD_eq_getD_getElem?, (fr.get _ _ hv).1]; rfl) fr.defers hR
theorem ret2 {fn : Func} {R : Ending → World → Prop} {t u : Nat} {v z : Value} (fr : Fr N a L) (hres : fn.results = #[.tmp t, .tmp u]) (hv : L.lookup t = some v) (hz : L.lookup u = some z) (hR : R (.returned (.tuple #[v, z])) w) : bodyPost P fn R .ret a w :=
  bodyPost_ret (v := .tuple #[v, z]) (by rw [results_tmp2 hres, Array.getD_eq_getD_getElem?, Array.getD_eq_getD_getElem?, (fr.get _ _ hv).1, (fr.get _ _ hz).1]; rfl) fr.defers hR
theorem ret3 {fn : Func} {R : Ending → World → Prop} {t u s : Nat} {v z y : Value} (fr : Fr N a L) (hres : fn.results = #[.tmp t, .tmp u, .tmp s]) (hv : L.lookup t = some v) (hz : L.lookup u = some z) (hy : L.lookup s = some y) (hR : R (.returned (.tuple #[v, z, y])) w) : bodyPost P fn R .ret a w :=
  bodyPost_ret (v := .tuple #[v, z, y]) (by
    have e : (results fn a.tmps).run P w = .ok (.tuple #[a.tmps.getD t undef, a.tmps.getD u undef, a.tmps.getD s undef]) w := by simp [results, hres]
    rw [e, Array.getD_eq_getD_getElem?, Array.getD_eq_getD_getElem?, Array.getD_eq_getD_getElem?, (fr.get _ _ hv).1, (fr.get _ _ hz).1, (fr.get _ _ hy).1]; rfl) fr.defers hR
theorem ret0 {fn : Func} {R : Ending → World → Prop} (fr : Fr N a L) (hres : fn.results = #[]) (hR : R (.returned (.tuple #[])) w) : bodyPost P fn R .ret a w :=
  bodyPost_ret (v := .tuple #[]) (results_none hres _ _ _) fr.defers hR
theorem end_ret {fn : Func} {R : Ending → World → Prop} (h : bodyPost P fn R .ret a w) : bodyPost P fn R .normal a w := h
theorem calls_start {f : FuncId} {fn : Func} {c : Code} {R : Ending → World → Prop} (xs : List Value) (hf : P.funcs[f]? = some fn) (hb : fn.body = some c) (hN : fn.ntmps = N) (hl : Nat.ble xs.length N = true) (hv : xs.all vok = true)
    (h : ∀ a, Fr N a (EnvOf 0 xs) → c.wp P (bodyPost P fn R) a w) : Calls P f xs.toArray w R := by
  refine calls_of_wp hf hb (h _ ?_)
  subst hN
  have := Fr.start fn.ntmps xs (Nat.le_of_ble_eq_true hl) hv
  simpa using this
theorem ifs {ρ : Type} {c : Prop} [Decidable c] {E : Option ρ} {r : ρ} (h : (if c then E else none) = some r) : c ∧ E = some r := by
  split at h
  · exact ⟨by assumption, h⟩
  · cases h
def lt {α ρ : Type} (e : α) (f : α → Option ρ) : Option ρ := f e
theorem lt_h {α ρ : Type} {e : α} {f : α → Option ρ} {r : ρ} (h : lt e f = some r) : ∃ x, e = x ∧ f x = some r := ⟨e, rfl, h⟩
theorem lt_is {α ρ : Type} {e v : α} {f : α → Option ρ} (h : e = v) : lt e f = f v := by subst h; rfl
theorem lt_all {α ρ : Type} {e : α} {f : α → Option ρ} {r : Option ρ} (h : ∀ x, e = x → f x = r) : lt e f = r := h e rfl
theorem bnd {α ρ : Type} {x : Option α} {f : α → Option ρ} {r : ρ} (h : x.bind f = some r) : ∃ y, x = some y ∧ f y = some r := Option.bind_eq_some_iff.1 h
end
end Go.Proofs.YticnjkdaccacaaaGreatDoor.Sx
end
section
namespace Go.Proofs.YticnjkdaccacaaaGreatDoor.Sx
open Go Go.RowKit Base _root_.Go.Proofs.YticnjkdaccacaaaGreatDoor.Own
structure Asn where
  holds : World → Nat → (Nat → Prop) → Prop
  keep : ∀ {w w' : World} {B : Nat} {F G : Nat → Prop}, holds w B F → Chg G w w' → (∀ k, F k → ¬ G k) → (∀ k, k < B → ¬ G k) → holds w' B F
  dom : ∀ {w : World} {B : Nat} {F : Nat → Prop}, holds w B F → ∀ k, F k → B ≤ k ∧ k < w.heap.size
def SatF (w : World) (B : Nat) : (Nat → Prop) → List Asn → Prop
  | _, [] => True
  | U, A :: L => ∃ F, A.holds w B F ∧ (∀ k, F k → ¬ U k) ∧ SatF w B (fun k => U k ∨ F k) L
structure Sat (w0 w : World) (L : List Asn) : Prop where
  below : Below w0.heap.size w0 w
  parts : SatF w w0.heap.size (fun _ => False) L
section
variable {w0 w w' : World} {B : Nat} {U V : Nat → Prop} {A A' : Asn} {L M X Y : List Asn}
theorem SatF.weak : ∀ {L : List Asn} {U V : Nat → Prop}, SatF w B U L → (∀ k, V k → U k) → SatF w B V L := by
  intro L
  induction L with
  | nil => intro _ _ _ _; trivial
  | cons A L ih =>
    rintro U V ⟨F, h1, h2, h3⟩ hv
    exact ⟨F, h1, fun k hk hv' => h2 k hk (hv k hv'), ih h3 fun k hk => hk.imp (hv k) id⟩
theorem SatF.swap {A A' : Asn} (h : SatF w B U (A :: A' :: L)) : SatF w B U (A' :: A :: L) := by
  obtain ⟨F, h1, h2, F', h3, h4, h5⟩ := h
  exact ⟨F', h3, fun k hk hu => h4 k hk (.inl hu), F, h1, fun k hk hu => hu.elim (h2 k hk) (fun hf => h4 k hf (.inr hk)), h5.weak fun k hk => by
    rcases hk with (h | h) | h
    · exact .inl (.inl h)
    · exact .inr h
    · exact .inl (.inr h)⟩
theorem SatF.front : ∀ {X : List Asn} {U : Nat → Prop}, SatF w B U (X ++ A :: Y) → SatF w B U (A :: (X ++ Y)) := by
  intro X
  induction X with
  | nil => intro U h; exact h
  | cons C X ih =>
    rintro U ⟨F, h1, h2, h3⟩
    exact SatF.swap ⟨F, h1, h2, ih h3⟩
theorem Sat.front (X : List Asn) {A : Asn} {Y : List Asn} (h : Sat w0 w (X ++ A :: Y)) : Sat w0 w (A :: (X ++ Y)) := ⟨h.below, h.parts.front⟩
theorem Sat.tl (h : Sat w0 w (A :: L)) : Sat w0 w L := by
  obtain ⟨F, _, _, h3⟩ := h.parts
  exact ⟨h.below, h3.weak fun _ hk => hk.elim⟩
theorem SatF.kept {G : Nat → Prop} (hc : Chg G w w') (hB : ∀ k, k < B → ¬ G k) : ∀ {L : List Asn} {U : Nat → Prop}, (∀ k, G k → U k) → SatF w B U L → SatF w' B U L := by
  intro L
  induction L with
  | nil => intro _ _ _; trivial
  | cons A L ih =>
    rintro U hG ⟨F, h1, h2, h3⟩
    exact ⟨F, A.keep h1 hc (fun k hk hg => h2 k hk (hG k hg)) hB, h2, ih (fun k hk => .inl (hG k hk)) h3⟩
theorem Sat.start (w : World) : Sat w w [] := ⟨Below.refl _ _, trivial⟩
theorem SatF.keptU {G : Nat → Prop} (hc : Chg G w w') (hB : ∀ k, k < B → ¬ G k) (h0 : ∀ k, k < w.heap.size → ¬ G k) : ∀ {L : List Asn} {U : Nat → Prop}, SatF w B U L → SatF w' B U L := by
  intro L
  induction L with
  | nil => intro _ _; trivial
  | cons A L ih =>
    rintro U ⟨F, h1, h2, h3⟩
    exact ⟨F, A.keep h1 hc (fun k hk hg => h0 k (A.dom h1 k hk).2 hg) hB, h2, ih h3⟩
theorem Sat.new (h : Sat w0 w L) (hb : Below w.heap.size w w') : Sat w0 w' L :=
  ⟨h.below.trans (below_weak h.below.size hb), h.parts.keptU (Chg.of_new hb) (fun _ _ h => h) (fun _ _ h => h)⟩
theorem Sat.drew (h : Sat w0 w L) : Sat w0 w.drew L := h.new (Below.refl _ _).drew
theorem Sat.alloc (h : Sat w0 w L) (o : Obj) : Sat w0 (w.alloc o) L := h.new ((Below.refl _ _).alloc (Nat.le_refl _) o)
theorem Sat.lower (h : Sat w w' L) (h0 : Below w0.heap.size w0 w) (hd : ∀ A ∈ L, ∀ F, A.holds w' w.heap.size F → A.holds w' w0.heap.size F) : Sat w0 w' L := by
  refine ⟨h0.trans (below_weak h0.size h.below), ?_⟩
  have key : ∀ {L : List Asn} {U : Nat → Prop}, (∀ A ∈ L, ∀ F, A.holds w' w.heap.size F → A.holds w' w0.heap.size F) → SatF w' w.heap.size U L → SatF w' w0.heap.size U L := by
    intro L
    induction L with
    | nil => intro _ _ _; trivial
    | cons A L ih =>
      rintro U hd ⟨F, h1, h2, h3⟩
      exact ⟨F, hd A (List.mem_cons_self) F h1, h2, ih (fun A hA => hd A (List.mem_cons_of_mem _ hA)) h3⟩
  exact key hd h.parts
theorem Sat.add {F : Nat → Prop} (h : Sat w0 w L) (hb : Below w.heap.size w w') (hA : A.holds w' w0.heap.size F) (hF : ∀ k, F k → w.heap.size ≤ k) : Sat w0 w' (A :: L) := by
  have h2 := h.new hb
  refine ⟨h2.below, F, hA, fun _ _ h => h, ?_⟩
  have key : ∀ {L : List Asn} {U : Nat → Prop}, SatF w w0.heap.size U L → SatF w' w0.heap.size (fun k => U k ∨ F k) L := by
    intro L
    induction L with
    | nil => intro _ _; trivial
    | cons C L ih =>
      rintro U ⟨G, h1, h2, h3⟩
      refine ⟨G, C.keep h1 (Chg.of_new hb) (fun _ _ h => h) (fun _ _ h => h), fun k hk hu => ?_, (ih h3).weak fun k hk => ?_⟩
      · rcases hu with hu | hu
        · exact h2 k hk hu
        · have := (C.dom h1 k hk).2; have := hF k hu; omega
      · rcases hk with (h | h) | h
        · exact .inl (.inl h)
        · exact .inr h
        · exact .inl (.inr h)
  exact key h.parts
theorem Sat.opened (h : Sat w0 w (A :: L)) : ∃ F, A.holds w w0.heap.size F ∧ (∀ k, F k → w0.heap.size ≤ k ∧ k < w.heap.size) ∧
    ∀ {A' : Asn} {w' : World} {F' G : Nat → Prop}, A'.holds w' w0.heap.size F' → Chg G w w' → (∀ k, k < w.heap.size → G k → F k) → (∀ k, F' k → F k ∨ w.heap.size ≤ k) → Sat w0 w' (A' :: L) := by
  obtain ⟨F, h1, h2, h3⟩ := h.parts
  refine ⟨F, h1, A.dom h1, fun {A' w' F' G} hA' hc hG hF' => ?_⟩
  have hc' : Chg F w w' := hc.mono hG
  have hB : ∀ k, k < w0.heap.size → ¬ F k := fun k hk hf => by have := (A.dom h1 k hf).1; omega
  refine ⟨hc'.below h.below h.below.size (fun k hk => (A.dom h1 k hk).1), F', hA', fun _ _ h => h, ?_⟩
  have key : ∀ {L : List Asn} {U : Nat → Prop}, (∀ k, F k → U k) → SatF w w0.heap.size U L → SatF w' w0.heap.size (fun k => U k ∨ F' k) L := by
    intro L
    induction L with
    | nil => intro _ _ _; trivial
    | cons C L ih =>
      rintro U hU ⟨H, h1, h2, h3⟩
      refine ⟨H, C.keep h1 hc' (fun k hk hf => h2 k hk (hU k hf)) hB, fun k hk hu => ?_, (ih (fun k hk => .inl (hU k hk)) h3).weak fun k hk => ?_⟩
      · rcases hu with hu | hu
        · exact h2 k hk hu
        · rcases hF' k hu with h | h
          · exact h2 k hk (hU k h)
          · have := (C.dom h1 k hk).2; omega
      · rcases hk with (h | h) | h
        · exact .inl (.inl h)
        · exact .inr h
        · exact .inl (.inr h)
  exact (key (U := fun k => False ∨ F k) (fun k hk => .inr hk) h3).weak fun k hk => hk.elim (fun h => h.elim) .inr
theorem erase_split : ∀ {L : List Asn} {i : Nat}, L[i]? = some A → L = L.take i ++ A :: L.drop (i + 1) ∧ L.eraseIdx i = L.take i ++ L.drop (i + 1) := by
  intro L
  induction L with
  | nil => intro i h; simp at h
  | cons C L ih =>
    intro i h
    cases i with
    | zero => simp at h; subst h; exact ⟨rfl, rfl⟩
    | succ i =>
      obtain ⟨h1, h2⟩ := ih (by simpa using h)
      exact ⟨by simp only [List.take_succ_cons, List.drop_succ_cons, List.cons_append]; rw [← h1], by simp [h2]⟩
theorem Sat.frontAt (h : Sat w0 w L) (i : Nat) (hi : L[i]? = some A) : Sat w0 w (A :: L.eraseIdx i) := by
  obtain ⟨h1, h2⟩ := erase_split hi
  rw [h2]
  rw [h1] at h
  exact h.front _
def maskL : List Bool → List Asn → List Asn
  | [], L => L
  | _ :: _, [] => []
  | true :: m, A :: L => A :: maskL m L
  | false :: m, _ :: L => maskL m L
theorem Sat.mask (h : Sat w0 w L) (m : List Bool) : Sat w0 w (maskL m L) := by
  refine ⟨h.below, ?_⟩
  have key : ∀ {m : List Bool} {L : List Asn} {U : Nat → Prop}, SatF w w0.heap.size U L → SatF w w0.heap.size U (maskL m L) := by
    intro m
    induction m with
    | nil => intro L U h; exact h
    | cons b m ih =>
      intro L U h
      cases L with
      | nil => trivial
      | cons A L =>
        obtain ⟨F, h1, h2, h3⟩ := h
        cases b with
        | true => exact ⟨F, h1, h2, ih h3⟩
        | false => exact ih (h3.weak fun k hk => .inl hk)
  exact key h.parts
theorem Sat.join {w1 : World} {M : List Asn} (h : Sat w0 w L) (h2 : Sat w w1 M) (hd : ∀ A ∈ M, ∀ F, A.holds w1 w.heap.size F → A.holds w1 w0.heap.size F) : Sat w0 w1 (M ++ L) := by
  have h3 := h.new h2.below
  refine ⟨h3.below, ?_⟩
  have key : ∀ {M : List Asn} {U : Nat → Prop}, (∀ A ∈ M, ∀ F, A.holds w1 w.heap.size F → A.holds w1 w0.heap.size F) → (∀ k, U k → w.heap.size ≤ k) → SatF w1 w.heap.size U M → SatF w1 w0.heap.size U (M ++ L) := by
    intro M
    induction M with
    | nil =>
      intro U _ hU _
      have : ∀ {L : List Asn} {U V : Nat → Prop}, (∀ k, U k → w.heap.size ≤ k) → SatF w w0.heap.size V L → SatF w1 w0.heap.size (fun k => U k ∨ V k) L := by
        intro L
        induction L with
        | nil => intro _ _ _ _; trivial
        | cons C L ih =>
          rintro U V hU ⟨G, g1, g2, g3⟩
          refine ⟨G, C.keep g1 (Chg.of_new h2.below) (fun _ _ h => h) (fun _ _ h => h), fun k hk hu => ?_, (ih hU g3).weak fun k hk => ?_⟩
          · rcases hu with hu | hu
            · have := (C.dom g1 k hk).2; have := hU k hu; omega
            · exact g2 k hk hu
          · rcases hk with (h | h) | h
            · exact .inl h
            · exact .inr (.inl h)
            · exact .inr (.inr h)
      exact (this hU h.parts).weak fun k hk => .inl hk
    | cons A M ih =>
      rintro U hd hU ⟨F, h1, h2, h3⟩
      exact ⟨F, hd A (List.mem_cons_self) F h1, h2, ih (fun A hA => hd A (List.mem_cons_of_mem _ hA)) (fun k hk => hk.elim (hU k) fun hf => (A.dom h1 k hf).1) h3⟩
  exact key hd (fun _ h => h.elim) h2.parts
theorem Sat.hd (h : Sat w0 w (A :: L)) : ∃ F, A.holds w w0.heap.size F := by
  obtain ⟨F, h1, _⟩ := h.parts
  exact ⟨F, h1⟩
end
structure Rk (k : IntKind) (w : World) (A : Option Addr) (l : List Int) : Prop where
  rd : Rd k w A l
  wf : ∀ z ∈ l, (Lit.int k z).wf = true
section
variable {k : IntKind} {w w0 w' : World} {A : Option Addr} {l : List Int}
theorem Rk.below (h : Rk k w A l) (hb : Below w.heap.size w w') : Rk k w' A l := ⟨h.rd.below hb, h.wf⟩
theorem Rk.at {L : List Asn} (h : Rk k w0 A l) (S : Sat w0 w L) : Rk k w A l := h.below S.below
theorem Rk.take (h : Rk k w A l) (n : Nat) : Rk k w A (l.take n) := ⟨h.rd.take n, fun z hz => h.wf z (List.mem_of_mem_take hz)⟩
theorem Rk.drop (h : Rk k w A l) {n c : Nat} (hc : l.length ≤ c) : Rk k w (dropA A c n) (l.drop n) := ⟨h.rd.drop hc, fun z hz => h.wf z (List.mem_of_mem_drop hz)⟩
theorem Rk.nil : Rk k w A [] := ⟨Rd.nil, fun z hz => by cases hz⟩
theorem Rk.bytes (h : Rk .u8 w A l) : ∀ z ∈ l, 0 ≤ z ∧ z < 256 := fun z hz => by
  have := h.wf z hz
  rw [wf_int] at this
  have h1 : IntKind.u8.min = 0 := by decide
  have h2 : IntKind.u8.max = 255 := by decide
  omega
def ownA (k : IntKind) (e : TypeId) (A : Option Addr) (c : Nat) (l : List Int) : Asn where
  holds := fun w B F => OwnI k w B e (.slice A l.length c) l ∧ (∀ z ∈ l, (Lit.int k z).wf = true) ∧ ∀ g, F g ↔ (Value.slice A l.length c).ownBlock = some g
  keep := fun ⟨h1, h2, h3⟩ hc hF _ => ⟨h1.kept hc fun g hg => hF g ((h3 g).2 hg), h2, h3⟩
  dom := fun ⟨h1, _, h3⟩ g hg => h1.lt g ((h3 g).1 hg)
variable {e : TypeId} {c : Nat} {R : List Asn}
theorem Sat.own (S : Sat w0 w (ownA k e A c l :: R)) : Rk k w A l ∧ l.length ≤ c ∧ c ≤ maxLen := by
  obtain ⟨F, h1, h2, _⟩ := S.hd
  obtain ⟨A', c', e', h3, h4, h5, _⟩ := h1.slice
  injection e' with e1 e2 e3
  subst e1 e3
  exact ⟨⟨h5, h2⟩, h3, h4⟩
theorem Sat.ownAt {L : List Asn} (S : Sat w0 w L) (i : Nat) (hi : L[i]? = some (ownA k e A c l)) : Rk k w A l := (S.frontAt i hi).own.1
theorem own_lower {w : World} {B B' : Nat} (hB : B' ≤ B) : ∀ F, (ownA k e A c l).holds w B F → (ownA k e A c l).holds w B' F := fun _ ⟨h1, h2, h3⟩ => ⟨h1.lower hB, h2, h3⟩
theorem Sat.nilRow (k : IntKind) (e : TypeId) (S : Sat w0 w R) : Sat w0 w (ownA k e none 0 [] :: R) :=
  S.add (F := fun _ => False) (Below.refl _ _) ⟨OwnI.nil k w _ e, fun z hz => (by cases hz), fun g => by simp [Value.ownBlock]⟩ fun _ h => h.elim
theorem Sat.row {v : Value} (S : Sat w0 w R) (hb : Below w.heap.size w w') (h : OwnI k w' w.heap.size e v l) (hwf : ∀ z ∈ l, (Lit.int k z).wf = true) : ∃ A c, v = .slice A l.length c ∧ vok (.slice A l.length c) = true ∧ Sat w0 w' (ownA k e A c l :: R) := by
  obtain ⟨A, c, rfl, h1, h2, _, _⟩ := h.slice
  refine ⟨A, c, rfl, by simp [vok, vokC, vok1, h1, h2], S.add (F := fun g => (Value.slice A l.length c).ownBlock = some g) hb ⟨h.lower S.below.size, hwf, fun g => Iff.rfl⟩ fun g hg => (h.lt g hg).1⟩
end
section
variable {P : Program} {T : Orc} {ops : Array Oper} {Q : Exit → Act → World → Prop} {Df : List Deferred} {N : Nat} {a : Act} {w w0 : World} {L : Env} {k : IntKind}
theorem indexAddr_run (hT : T.Ok P) (fr : FrD Df N a L) {o : Oper} {t : TypeId} {x ix : Operand} (ho : o.op = .indexAddr t x ix) {A : Addr} {n c : Nat} {e s : Nat} {ki : IntKind} {i : Int} (hx : ev L x = some (.slice (some A) n c)) (hi : ev L ix = some (.int ki i))
    (ht : T.ty.lookup t = some (.slice e)) (hs : T.sz.lookup e = some s) (h0 : 0 ≤ i) (hlt : i < n) (w : World) : (execOp a.eval o).run P w = .ok (.value (.pointer (some (A.add (i.toNat * s))))) w := by
  unfold execOp
  simp only [ho, (fr.ev hx).1, (fr.ev hi).1, Instr.indexAt, asIntOf]
  simp [run_underlying (hT.und ht), size_run hT hs, h0, hlt]
theorem load_run (hT : T.Ok P) (fr : FrD Df N a L) {o : Oper} {t : TypeId} {x : Operand} (ho : o.op = .load t x) {A : Addr} {v : Value} {d : TypeDesc} (hx : ev L x = some (.pointer (some A))) (ht : T.ty.lookup t = some d) (hd : aggD d = false) (hc : w.cell? A = some v) : (execOp a.eval o).run P w = .ok (.value v) w := by
  unfold execOp
  simp only [ho, (fr.ev hx).1, Instr.loadAt, Instr.sureAddr, loadVar]
  simp [isAgg_run (hT.und ht), hd, run_load, hc]
theorem FrD.skip {d : Nat} {v : Value} (fr : FrD Df N a ((d, v) :: L)) (h : L.lookup d = none) : FrD Df N a L := ⟨fr.size, fr.defers, fun e u he => fr.get e u (by
  rw [lookup_cons]
  by_cases hd : e = d
  · subst hd; rw [h] at he; cases he
  · rw [if_neg hd]; exact he)⟩
theorem wl_ld (hT : T.Ok P) {o1 o2 : Oper} {rest : List Oper} {t te : TypeId} {x ix : Operand} {d1 d2 : Nat} {A : Option Addr} {l : List Int} {n c e : Nat} {ki : IntKind} {i : Int} {de : TypeDesc}
    (hr : Rk k w A l) (fr : FrD Df N a L) (hw : wantL ops L o1 = some true) (ho1 : o1.op = .indexAddr t x ix) (hd1 : o1.dst = some d1) (hw2 : wantL ops L o2 = some true) (ho2 : o2.op = .load te (.tmp d1)) (hd2 : o2.dst = some d2) (hl1 : Nat.blt d1 N = true) (hl2 : Nat.blt d2 N = true)
    (hx : ev L x = some (.slice A n c)) (hi : ev L ix = some (.int ki i)) (ht : T.ty.lookup t = some (.slice e)) (hs : T.sz.lookup e = some 1) (hte : T.ty.lookup te = some de) (hde : aggD de = false) (hn : n = l.length) (hf : L.lookup d1 = none) (hb : 0 ≤ i ∧ i < (l.length : Int))
    (h : ∀ a', FrD Df N a' ((d2, .int k (l.getD i.toNat 0)) :: L) → wpList P ops Q rest a' w) : wpList P ops Q (o1 :: o2 :: rest) a w := by
  subst hn
  obtain ⟨j, rfl⟩ : ∃ j : Nat, i = j := ⟨i.toNat, by omega⟩
  have hj : j < l.length := by omega
  obtain ⟨ad, rfl, -, hc⟩ := hr.rd.cell hj
  refine wl_val fr hw hd1 hl1 (indexAddr_run hT fr ho1 hx hi ht hs (by omega) hb.2 w) rfl fun a1 fr1 => ?_
  have hw3 : wantL ops ((d1, .pointer (some (ad.add ((j : Int).toNat * 1)))) :: L) o2 = some true := by
    have hk := hw2
    unfold wantL at hk ⊢
    split at hk
    · exact hk
    · rename_i j' want hg'
      split at hk
      · rename_i t' ht'
        split at hk
        · rename_i b hb'
          have hne : t' ≠ d1 := fun e => by subst e; rw [hf] at hb'; cases hb'
          rw [lookup_cons, if_neg hne, hb']; exact hk
        · cases hk
        · cases hk
      · cases hk
  refine wl_val (v := .int k (l.getD j 0)) fr1 hw3 hd2 hl2 (load_run hT fr1 ho2 (by show ((d1, _) :: L).lookup d1 = _; rw [lookup_cons, if_pos rfl]) hte hde (by rw [Int.toNat_natCast, Nat.mul_one]; exact hc)) ?_ fun a2 fr2 => h a2 ?_
  · have hm : l.getD j 0 ∈ l := by rw [List.getD_eq_getElem?_getD, List.getElem?_eq_getElem hj]; exact List.getElem_mem hj
    exact hr.wf _ hm
  · refine ⟨fr2.size, fr2.defers, fun e u he => fr2.get e u ?_⟩
    rw [lookup_cons] at he ⊢
    by_cases h1 : e = d2
    · rw [if_pos h1] at he ⊢; rw [Int.toNat_natCast] at he; exact he
    · rw [if_neg h1] at he ⊢
      rw [lookup_cons]
      by_cases h2 : e = d1
      · subst h2; rw [hf] at he; cases he
      · rw [if_neg h2]; exact he
end
theorem ite_h {ρ : Type} {c : Prop} [Decidable c] {E1 E2 : Option ρ} {r : ρ} {G : Prop} (h : (if c then E1 else E2) = some r) (h1 : c → E1 = some r → G) (h2 : ¬ c → E2 = some r → G) : G := by
  by_cases hc : c
  · rw [if_pos hc] at h; exact h1 hc h
  · rw [if_neg hc] at h; exact h2 hc h
end Go.Proofs.YticnjkdaccacaaaGreatDoor.Sx
end
section
namespace Go.Proofs.YticnjkdaccacaaaGreatDoor.OwnV
open Go Go.RowKit Base _root_.Go.Proofs.YticnjkdaccacaaaGreatDoor.Own
def RowV (w : World) (B : Nat) (e : TypeId) (z : Nat) (v : Value) (n : Nat) (xs : List Value) : Prop := w.ownsRow B e z v n xs
section
variable {w w' : World} {B : Nat} {e : TypeId} {z : Nat} {v : Value} {n : Nat} {xs : List Value}
theorem RowV.nil (w : World) (B : Nat) (e : TypeId) (z : Nat) : RowV w B e z (.slice none 0 0) 0 [] := ⟨by simp, .inl ⟨rfl, rfl⟩⟩
theorem RowV.len (h : RowV w B e z v n xs) : xs.length = n * z := h.1
theorem RowV.slice (h : RowV w B e z v n xs) : ∃ A c, v = .slice A n c ∧ n ≤ c ∧ c ≤ maxLen ∧ (A = none → n = 0) ∧ ∀ ad, A = some ad → ∃ g, ad = ⟨g, 0, none⟩ ∧ B ≤ g ∧ g < w.heap.size ∧ w.rangeAt g 0 xs ∧ w.there g 0 (n * z) := by
  rcases h.2 with ⟨rfl, rfl⟩ | ⟨g, cap, cur, rfl, hB, hg, h1, h2, h3, h4⟩
  · exact ⟨none, 0, rfl, Nat.le_refl _, Nat.zero_le _, fun _ => rfl, fun ad e => by cases e⟩
  · refine ⟨some ⟨g, 0, none⟩, cap, rfl, h1, h2, fun e => absurd e (by simp), fun ad e => ?_⟩
    injection e with e; subst e
    have hsz : n * z ≤ cur.size := by rw [h3]; exact Nat.mul_le_mul_right _ h1
    refine ⟨g, rfl, hB, (Array.getElem?_eq_some_iff.1 hg).1, fun j u hj => ?_, fun j hj => ⟨?_, ?_⟩⟩
    · rw [Nat.zero_add, cell_of_row _ _ _ _ _ _ hg]
      rw [← h4, List.getElem?_take] at hj
      split at hj
      · rw [← hj]; simp
      · cases hj
    · rw [Nat.zero_add, cell_of_row _ _ _ _ _ _ hg, Array.getElem?_eq_getElem (by omega)]; rfl
    · rw [Nat.zero_add]; exact frozen_of_row _ _ _ _ _ hg
theorem RowV.kept {F : Nat → Prop} (h : RowV w B e z v n xs) (hc : Chg F w w') (hF : ∀ g, v.ownBlock = some g → ¬ F g) : RowV w' B e z v n xs := by
  refine ⟨h.1, ?_⟩
  rcases h.2 with hn | ⟨g, cap, cur, rfl, hb, hgg, rest⟩
  · exact .inl hn
  · refine .inr ⟨g, cap, cur, rfl, hb, ?_, rest⟩
    rw [hc.block g (Array.getElem?_eq_some_iff.1 hgg).1 (hF g rfl)]
    exact hgg
theorem RowV.new (h : RowV w B e z v n xs) (hb : Below w.heap.size w w') : RowV w' B e z v n xs := h.kept (Chg.of_new hb) (fun _ _ hf => hf)
theorem RowV.alloc (h : RowV w B e z v n xs) (o : Obj) : RowV (w.alloc o) B e z v n xs := h.kept (Chg.alloc w o) (fun _ _ hf => hf)
theorem RowV.lower {B' : Nat} (h : RowV w B e z v n xs) (hB : B' ≤ B) : RowV w B' e z v n xs := by
  refine ⟨h.1, ?_⟩
  rcases h.2 with hn | ⟨g, cap, cur, rfl, hb, rest⟩
  · exact .inl hn
  · exact .inr ⟨g, cap, cur, rfl, Nat.le_trans hB hb, rest⟩
theorem RowV.lt (h : RowV w B e z v n xs) : ∀ g, v.ownBlock = some g → B ≤ g ∧ g < w.heap.size := World.ownsRow.lt h
theorem RowV.made (w : World) (e : TypeId) (z n : Nat) (cs : Array Value) (hB : B ≤ w.heap.size) (hl : cs.size = n * z) (hn : n ≤ maxLen) :
    RowV (w.alloc (.cells cs e)) B e z (.slice (some ⟨w.heap.size, 0, none⟩) n n) n cs.toList := by
  refine ⟨by simp [hl], .inr ⟨_, _, cs, rfl, hB, heap_alloc_new _ _, Nat.le_refl _, hn, hl, ?_⟩⟩
  exact List.take_of_length_le (by simp [hl])
theorem splice_get {α : Type} (L : List α) (o : Nat) (vs : List α) (h : o + vs.length ≤ L.length) (k : Nat) : (splice L o vs)[k]? = if o ≤ k ∧ k < o + vs.length then vs[k - o]? else L[k]? := by
  unfold splice
  rw [List.getElem?_append, List.length_take, show min o L.length = o by omega]
  by_cases h1 : k < o
  · rw [if_pos h1, if_neg (by omega), List.getElem?_take, if_pos h1]
  · rw [if_neg h1, List.getElem?_append]
    by_cases h2 : k - o < vs.length
    · rw [if_pos h2, if_pos (by omega)]
    · rw [if_neg h2, if_neg (by omega), List.getElem?_drop]
      congr 1; omega
theorem heap_setCells (b : Nat) : ∀ (vs : List Value) (o : Nat) (w : World) (cur : Array Value) (t : TypeId), w.heap[b]? = some (.cells cur t (0, 0)) → o + vs.length ≤ cur.size →
    (w.setCells b o vs).heap[b]? = some (.cells (splice cur.toList o vs).toArray t (0, 0)) := by
  intro vs
  induction vs with
  | nil => intro o w cur t hg _; simpa [World.setCells, splice] using hg
  | cons u vs ih =>
    intro o w cur t hg hl
    simp only [List.length_cons] at hl
    have h1 := heap_setCell_same w b o cur t u hg
    have h2 := ih (o + 1) (w.setCell ⟨b, o, none⟩ u) (cur.setIfInBounds o u) t h1 (by simp; omega)
    show ((w.setCell ⟨b, o, none⟩ u).setCells b (o + 1) vs).heap[b]? = _
    rw [h2]
    congr 3
    rw [Array.toList_setIfInBounds]
    apply List.ext_getElem?
    intro k
    rw [splice_get _ _ _ (by simp; omega), splice_get _ _ _ (by simp; omega), List.length_cons, List.getElem?_set]
    by_cases h3 : k = o
    · subst h3
      rw [if_neg (by omega), if_pos rfl, if_pos (by simp; omega), if_pos (by omega)]; simp
    · by_cases h4 : o + 1 ≤ k ∧ k < o + 1 + vs.length
      · rw [if_pos h4, if_pos (by omega), show k - o = (k - (o + 1)) + 1 by omega, List.getElem?_cons_succ]
      · rw [if_neg h4, if_neg (fun h => h3 h.symm), if_neg (by omega)]
theorem chg_setCells (b : Nat) : ∀ (vs : List Value) (o : Nat) (w : World), Chg (fun k => k = b) w (w.setCells b o vs) := by
  intro vs
  induction vs with
  | nil => intro o w; exact Chg.refl _ _
  | cons u vs ih => intro o w; exact (Chg.setCell w ⟨b, o, none⟩ u).trans (ih (o + 1) _) (fun _ _ h => h)
theorem RowV.set {g c : Nat} (h : RowV w B e z (.slice (some ⟨g, 0, none⟩) n c) n xs) (o : Nat) (vs : List Value) (ho : o + vs.length ≤ n * z) :
    RowV (w.setCells g o vs) B e z (.slice (some ⟨g, 0, none⟩) n c) n (splice xs o vs) := by
  rcases h.2 with ⟨h1, _⟩ | ⟨g', cap, cur, h1, hB, hg, h2, h3, h4, h5⟩
  · cases h1
  · injection h1 with h1 h6 h7
    injection h1 with h1
    injection h1 with h1
    subst h1 h7
    have hx : xs.length = n * z := h.1
    have hsz : n * z ≤ cur.size := by rw [h4]; exact Nat.mul_le_mul_right _ h2
    refine ⟨by rw [length_splice _ _ _ (by rw [hx]; exact ho), hx], .inr ⟨g, c, _, rfl, hB, heap_setCells g vs o w cur e hg (by omega), h2, h3, ?_, ?_⟩⟩
    · rw [List.size_toArray, length_splice _ _ _ (by simp; omega)]; simpa using h4
    · rw [← h5]
      apply List.ext_getElem?
      intro k
      rw [List.getElem?_take, splice_get _ _ _ (by simp; omega), splice_get _ _ _ (by rw [List.length_take]; simp; omega), List.getElem?_take]
      split <;> split <;> first | rfl | omega
end
theorem exec_load_mid {P : Program} {a : Act} {w : World} {N : Option Tmp} {tt : TypeId} (ty : TypeId) (x : Operand) (b o : Nat) (hx : a.eval x = .pointer (some ⟨b, o, none⟩)) (cs : List Value) (d : TypeDesc) (hc : w.rangeAt b o cs)
    (hu : P.underlying ty = some d) (hd : d.isRow = true) (hi : (P.info? ty).map (·.size) = some cs.length) : (execOp a.eval ⟨N, .load ty x, tt, "", #[], none⟩).run P w = .ok (.value (.agg cs.toArray)) w := by
  unfold execOp
  simp only [hx, Instr.loadAt, Instr.sureAddr, Sem.run_bind, Sem.run_pure, Result.andThen_ok, run_loadVar_mid w b o ty cs d hc hu hd hi]
theorem fold_splice : ∀ (vs : List Value) (k off : Nat) (cs : Array Value), off + k + vs.length ≤ cs.size →
    ((vs.zipIdx k).foldl (fun cs (x : Value × Nat) => cs.setIfInBounds (off + x.2) x.1) cs).toList = splice cs.toList (off + k) vs := by
  intro vs
  induction vs with
  | nil => intro k off cs _; simp [splice]
  | cons v vs ih =>
    intro k off cs h
    simp only [List.length_cons] at h
    rw [List.zipIdx_cons, List.foldl_cons, ih (k + 1) off _ (by simp; omega)]
    apply List.ext_getElem?
    intro j
    rw [Array.toList_setIfInBounds, splice_get _ _ _ (by simp; omega), splice_get _ _ _ (by simp; omega), List.length_cons, List.getElem?_set]
    by_cases h3 : j = off + k
    · subst h3
      rw [if_neg (by omega), if_pos rfl, if_pos (by simp; omega), if_pos (by omega)]; simp
    · by_cases h4 : off + (k + 1) ≤ j ∧ j < off + (k + 1) + vs.length
      · rw [if_pos h4, if_pos (by omega), show j - (off + k) = (j - (off + (k + 1))) + 1 by omega, List.getElem?_cons_succ]
      · rw [if_neg h4, if_neg (fun h => h3 h.symm), if_neg (by omega)]
theorem fill_step (place : Nat → Option (Nat × Nat)) (cells : Array Value) (i off size : Nat) (v : Value) (rest : List (Nat × Value)) (hp : place i = some (off, size)) (hv : v.cells.size = size) (hf : off + size ≤ cells.size) :
    Instr.fill place cells ((i, v) :: rest) = Instr.fill place (splice cells.toList off v.cells.toList).toArray rest := by
  rw [Instr.fill, hp]
  simp only
  rw [if_neg (by simp; omega)]
  congr 1
  apply Array.toList_inj.1
  rw [← Array.foldl_toList, Array.toList_zipIdx, fold_splice _ _ _ _ (by simp; omega)]
  rfl
theorem fill_all (cells c : Array Value) (s : Nat) (hc : c.size = s) (hs : cells.size = s) : Instr.fill (fun i => some (i * s, s)) cells [(0, .agg c)] = some c := by
  rw [fill_step _ _ 0 0 s _ _ (by simp) (by simpa [Value.cells] using hc) (by omega), Instr.fill]
  congr 1
  apply Array.toList_inj.1
  simp only [splice, Value.cells]
  rw [List.take_zero, List.nil_append, List.drop_eq_nil_of_le (by simp; omega)]
  simp
theorem exec_build {P : Program} {a : Act} {w : World} {N : Option Tmp} {tt : TypeId} (t : TypeId) (parts : Array (Nat × Operand)) (cells : Array Value) (h : P.built t (parts.map fun (i, x) => (i, a.eval x)).toList = some cells) :
    (execOp a.eval ⟨N, .build t parts, tt, "", #[], none⟩).run P w = .ok (.value (.agg cells)) w := by
  unfold execOp
  simp only [Sem.run_bind, run_build w t _ cells h, Result.andThen_ok]
  rfl
theorem one_slice {P : Program} {o : Oper} {a : Act} {w : World} {K : Act → World → Prop} {Q : Exit → Act → World → Prop} (t e : TypeId) (x : Operand) (ho : o.op = .buildSlice t 1 #[(0, x)]) (c : Array Value) (s : Nat) (hx : a.eval x = .agg c) (hc : c.size = s)
    (hu : P.underlying t = some (.slice e)) (hi : (P.info? e).map (fun i => (i.zero.isSome, i.size)) = some (true, s)) (h0 : 0 < s) (h1 : s ≤ 16777216)
    (h : K (a.put o.dst (.slice (some ⟨w.heap.size, 0, none⟩) 1 1)) (w.alloc (.cells c e))) : o.wp P a w K Q := by
  obtain ⟨ie, hie, hzz⟩ := Option.map_eq_some_iff.1 hi
  simp only [Prod.mk.injEq] at hzz
  obtain ⟨z, hz⟩ := Option.isSome_iff_exists.1 hzz.1
  refine wp_buildSlice t e 1 _ ho c ie z hu hie hz (by rw [hzz.2]; omega) (by rw [hzz.2]; omega) ?_ h
  rw [hzz.2]
  simp only [List.map_toArray, List.map_cons, List.map_nil, hx]
  exact fill_all _ c s hc (by simp)
theorem apv_wp {P : Program} {B : Nat} {w : World} {e : TypeId} {z bytes : Nat} {v : Value} {n : Nat} {xs : List Value} {K : Act → World → Prop} {Q : Exit → Act → World → Prop} {o : Oper} {a : Act} {t : TypeId}
    (ht : P.underlying t = some (.slice e)) (hinfo : (P.info? e).map (fun i => (i.zero.map (·.cells.size), i.size, i.bytes)) = some (some z, z, bytes)) (hz0 : 0 < z) (hown : RowV w B e z v n xs) (hbase : B ≤ w.heap.size)
    (ad : Addr) (m c : Nat) (news : List Value) (hl : news.length = m * z) (hnews : ∀ j u, news[j]? = some u → w.cell? (ad.add j) = some u) (h1 : ∀ u ∈ news, u.oneCell' = true) (h63 : n + m ≤ maxLen) (hbytes : (n + m) * bytes ≤ 140737488355328)
    (s x : Operand) (ho : o.op = .call { callee := .builtin .append, args := #[s, x], argTypes := #[t, t] }) (hs : a.eval s = v) (hx : a.eval x = .slice (some ad) m c)
    (h : ∀ v' w', RowV w' B e z v' (n + m) (xs ++ news) → w.grownBy w' v.ownBlock → (v'.ownBlock = v.ownBlock ∨ v'.ownBlock = some w.heap.size) → K (a.put o.dst v') w') : Oper.wp P o a w K Q := by
  obtain ⟨i, hi, hzz⟩ := Option.map_eq_some_iff.1 hinfo
  simp only [Prod.mk.injEq] at hzz
  obtain ⟨hz1, hsz, hby⟩ := hzz
  obtain ⟨z0, hz, hzc⟩ := Option.map_eq_some_iff.1 hz1
  obtain ⟨v', w', hr, h2, h3, _, h5⟩ := run_append_own_at (P := P) w B t o.type e i z0 z bytes ht hi hz hsz hby hzc hz0 v n xs hown ad m c news hl hnews h1 h63 hbytes hbase
  unfold Oper.wp execOp
  simp only [ho, resolve, invoke, builtin, Sem.run_bind, Sem.run_pure, Result.andThen_ok, List.map_toArray, List.map_cons, List.map_nil, hs, hx, hr]
  exact h v' w' h2 h3 h5
theorem exec_one_slice {P : Program} {a : Act} {w : World} {N : Option Tmp} {tt : TypeId} (t e : TypeId) (x : Operand) (c : Array Value) (s : Nat) (hx : a.eval x = .agg c) (hc : c.size = s)
    (hu : P.underlying t = some (.slice e)) (hi : (P.info? e).map (fun i => (i.zero.isSome, i.size)) = some (true, s)) (h0 : 0 < s) (h1 : s ≤ 16777216) :
    (execOp a.eval ⟨N, .buildSlice t 1 #[(0, x)], tt, "", #[], none⟩).run P w = .ok (.value (.slice (some ⟨w.heap.size, 0, none⟩) 1 1)) (w.alloc (.cells c e)) := by
  obtain ⟨ie, hie, hzz⟩ := Option.map_eq_some_iff.1 hi
  simp only [Prod.mk.injEq] at hzz
  obtain ⟨z, hz⟩ := Option.isSome_iff_exists.1 hzz.1
  have hf : Instr.fill (fun i => some (i * ie.size, ie.size)) ((Array.range (1 * ie.size)).map (z.cells[· % z.cells.size]!)) (#[(0, x)].map fun (i, x) => (i, a.eval x)).toList = some c := by
    rw [hzz.2]
    simp only [List.map_toArray, List.map_cons, List.map_nil, hx]
    exact fill_all _ c s hc (by simp)
  unfold execOp
  simp only [Sem.run_bind, run_buildSlice w t e 1 _ c ie z hu hie hz (by rw [hzz.2]; omega) (by rw [hzz.2]; omega) hf, Result.andThen_ok]
  rfl
theorem exec_load_cell {P : Program} {a : Act} {w : World} {N : Option Tmp} {tt : TypeId} (ty : TypeId) (x : Operand) (ad : Addr) (v : Value) (hx : a.eval x = .pointer (some ad)) (hc : w.cell? ad = some v) (hag : ∀ W, (isAgg ty).run P W = .ok false W) :
    (execOp a.eval ⟨N, .load ty x, tt, "", #[], none⟩).run P w = .ok (.value v) w := by
  unfold execOp
  simp [hx, Instr.loadAt, Instr.sureAddr, loadVar, Sem.run_bind, Sem.run_pure, Result.andThen_ok, hag, run_load, hc]
theorem run_copy_v {P : Program} (w : World) (dT sT ty elem : TypeId) (z b o dLen dCap : Nat) (a : Addr) (sLen sCap n : Nat) (cs : List Value) (hu : P.underlying dT = some (.slice elem)) (hs : (P.info? elem).map (·.size) = some z) (hn : n = Nat.min sLen dLen) (hl : cs.length = n * z)
    (hsrc : ∀ j v, cs[j]? = some v → w.cell? (a.add j) = some v) (hth : w.there b o cs.length) (h1 : ∀ v ∈ cs, v.oneCell' = true) :
    (Builtin.copy_ #[dT, sT] ty #[.slice (some ⟨b, o, none⟩) dLen dCap, .slice (some a) sLen sCap]).run P w = .ok (goInt n) (w.setCells b o cs) := by
  have hld := run_loadCells_list (P := P) w a cs hsrc
  have hst := run_storeCells_cells (P := P) b o cs 0 w (fun j hj => by simpa using (hth j hj).1) (fun j hj => by simpa using (hth j hj).2) h1
  rw [hl] at hld
  cases hq : P.info? elem with
  | none => simp [hq] at hs
  | some i =>
    have hi : i.size = z := by simpa [hq] using hs
    simp [Builtin.copy_, run_underlying hu, Builtin.lenOf, Builtin.firstCells, sizeOf, typeInfo, hq, hi, ← hn, hld, hst]
theorem wp_copy_v {P : Program} {o : Oper} {a : Act} {w : World} {K : Act → World → Prop} {Q : Exit → Act → World → Prop} (d s : Operand) (dT sT elem : TypeId) (z g off dLen dCap : Nat) (ad : Addr) (sLen sCap n : Nat) (cs : List Value)
    (ho : o.op = .call { callee := .builtin .copy, args := #[d, s], argTypes := #[dT, sT] }) (hd : a.eval d = .slice (some ⟨g, off, none⟩) dLen dCap) (hss : a.eval s = .slice (some ad) sLen sCap)
    (hu : P.underlying dT = some (.slice elem)) (hs : (P.info? elem).map (·.size) = some z) (hn : n = Nat.min sLen dLen) (hl : cs.length = n * z)
    (hsrc : ∀ j v, cs[j]? = some v → w.cell? (ad.add j) = some v) (hth : w.there g off cs.length) (h1 : ∀ v ∈ cs, v.oneCell' = true) (hK : K (a.put o.dst (goInt n)) (w.setCells g off cs)) : Oper.wp P o a w K Q := by
  have hr := run_copy_v (P := P) w dT sT o.type elem z g off dLen dCap ad sLen sCap n cs hu hs hn hl hsrc hth h1
  unfold Oper.wp
  simp [execOp, ho, resolve, invoke, builtin, hd, hss, hr, Result.andThen]
  exact hK
end Go.Proofs.YticnjkdaccacaaaGreatDoor.OwnV
end
