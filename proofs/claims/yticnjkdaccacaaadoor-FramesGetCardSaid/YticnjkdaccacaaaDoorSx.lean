/- Steps of a walk, by one lemma each: the temporaries as a list of what is known of them. -/
import Derived.Test.YticnjkdaccacaaaDoorPhs
import Derived.Test.YticnjkdaccacaaaDoorOwn
import Derived.KernelRfl
import Derived.OpenShut
namespace Go.Proofs.YticnjkdaccacaaaDoor.Sx
open Go Go.RowKit Base Own

/-! ### 1. Temporaries -/
abbrev Env := List (Nat × Value)
def vok1 : Value → Bool
  | .int k x => (Lit.int k x).wf
  | .slice _ n c => decide (n ≤ c) && decide (c ≤ maxLen)
  | _ => true
def vokC : Value → Bool
  | .agg cs => cs.toList.all vok1
  | v => vok1 v
def vok : Value → Bool
  | .tuple vs => vs.toList.all vokC
  | v => vokC v
structure FrD (Df : List Deferred) (N : Nat) (a : Act) (L : Env) : Prop where
  size : a.tmps.size = N
  defers : a.defers = Df
  get : ∀ d v, L.lookup d = some v → a.tmps[d]? = some v ∧ vok v = true
/-- Nothing deferred. -/
abbrev Fr (N : Nat) (a : Act) (L : Env) : Prop := FrD [] N a L
def ev (L : Env) : Operand → Option Value
  | .tmp t => L.lookup t
  | .const v => if vok v then some v else none
  | .func f => some (.func (.func f) #[] #[])
  | .global g => some (.pointer (some ⟨g, 0, none⟩))
section
variable {Df : List Deferred} {N : Nat} {a : Act} {L L' : Env} {d : Nat} {v : Value}
theorem lookup_cons (L : Env) (d e : Nat) (v : Value) : ((d, v) :: L).lookup e = if e = d then some v else L.lookup e := by
  rw [List.lookup_cons]
  by_cases h : e = d
  · subst h; simp
  · have : (e == d) = false := by simpa using h
    simp [this, h]
theorem FrD.put (h : FrD Df N a L) (hd : d < N) (hv : vok v = true) : FrD Df N (a.put (some d) v) ((d, v) :: L) := by
  refine ⟨by simp [Act.put, h.size], h.defers, fun e u he => ?_⟩
  rw [lookup_cons] at he
  simp only [Act.put]
  rw [Array.getElem?_setIfInBounds]
  by_cases hed : e = d
  · subst hed
    rw [if_pos rfl] at he
    injection he with he
    subst he
    rw [if_pos rfl, if_pos (by rw [h.size]; exact hd)]
    exact ⟨rfl, hv⟩
  · rw [if_neg hed] at he
    rw [if_neg (fun e => hed e.symm)]
    exact h.get e u he
/-- What is in L' is in L. -/
def Subs (L : Env) : Env → Prop
  | [] => True
  | p :: r => L.lookup p.1 = some p.2 ∧ Subs L r
theorem Subs.mem : ∀ {L' : Env}, Subs L L' → ∀ d v, L'.lookup d = some v → L.lookup d = some v := by
  intro L'
  induction L' with
  | nil => intro _ d v h; cases h
  | cons p r ih =>
    intro h d v hd
    obtain ⟨e, u⟩ := p
    rw [lookup_cons] at hd
    by_cases hed : d = e
    · subst hed; rw [if_pos rfl] at hd; injection hd with hd; subst hd; exact h.1
    · rw [if_neg hed] at hd; exact ih h.2 d v hd
theorem FrD.sub (h : FrD Df N a L) (hs : Subs L L') : FrD Df N a L' := ⟨h.size, h.defers, fun d v hd => h.get d v (hs.mem d v hd)⟩
theorem FrD.ev (h : FrD Df N a L) {o : Operand} (he : Sx.ev L o = some v) : a.eval o = v ∧ vok v = true := by
  cases o with
  | tmp t =>
    have := h.get t v he
    exact ⟨by show a.tmps.getD t undef = v; rw [Array.getD_eq_getD_getElem?, this.1]; rfl, this.2⟩
  | const u =>
    have he : (if vok u then some u else none) = some v := he
    by_cases hu : vok u = true
    · rw [if_pos hu] at he; injection he with he; subst he; exact ⟨rfl, hu⟩
    · rw [if_neg hu] at he; cases he
  | global g => injection he with he; subst he; exact ⟨rfl, rfl⟩
  | func f => injection he with he; subst he; exact ⟨rfl, rfl⟩
/-- A bool that was asked is known. -/
theorem FrD.bool (h : FrD Df N a L) {b c : Bool} (hd : L.lookup d = some (.bool b)) (hb : b = c) : FrD Df N a ((d, .bool c) :: L) := by
  subst hb
  refine ⟨h.size, h.defers, fun e u he => ?_⟩
  rw [lookup_cons] at he
  by_cases hed : e = d
  · subst hed; rw [if_pos rfl] at he; injection he with he; subst he; exact h.get _ _ hd
  · rw [if_neg hed] at he; exact h.get e u he
/-- A temporary's value, spelled otherwise. -/
theorem FrD.spell (h : FrD Df N a L) {v' : Value} (hd : L.lookup d = some v) (hb : v = v') : FrD Df N a ((d, v') :: L) := by
  subst hb
  refine ⟨h.size, h.defers, fun e u he => ?_⟩
  rw [lookup_cons] at he
  by_cases hed : e = d
  · subst hed; rw [if_pos rfl] at he; injection he with he; subst he; exact h.get _ _ hd
  · rw [if_neg hed] at he; exact h.get e u he
theorem FrD.int (h : FrD Df N a L) {k : IntKind} {x : Int} (hd : L.lookup d = some (.int k x)) : (Lit.int k x).wf = true := (h.get _ _ hd).2
theorem FrD.slice (h : FrD Df N a L) {A : Option Addr} {n c : Nat} (hd : L.lookup d = some (.slice A n c)) : n ≤ c ∧ c ≤ maxLen := by
  have := (h.get _ _ hd).2
  simpa [vok, vokC, vok1] using this
/-- Before the walk. -/
def EnvOf : Nat → List Value → Env
  | _, [] => []
  | i, v :: r => (i, v) :: EnvOf (i + 1) r
theorem envOf_get : ∀ (vs : List Value) (i d : Nat) (v : Value), (EnvOf i vs).lookup d = some v → i ≤ d ∧ vs[d - i]? = some v := by
  intro vs
  induction vs with
  | nil => intro i d v h; cases h
  | cons u r ih =>
    intro i d v h
    unfold EnvOf at h
    rw [lookup_cons] at h
    by_cases hd : d = i
    · subst hd; rw [if_pos rfl] at h; exact ⟨Nat.le_refl _, by rw [Nat.sub_self]; exact h⟩
    · rw [if_neg hd] at h
      obtain ⟨h1, h2⟩ := ih _ _ _ h
      exact ⟨by omega, by rw [show d - i = (d - (i + 1)) + 1 by omega]; exact h2⟩
theorem Fr.start (N : Nat) (args : List Value) (hn : args.length ≤ N) (hv : args.all vok = true) :
    Fr N { tmps := args.toArray ++ Array.replicate (N - args.length) undef, defers := [] } (EnvOf 0 args) := by
  refine ⟨by simp; omega, rfl, fun d v h => ?_⟩
  obtain ⟨-, h2⟩ := envOf_get _ _ _ _ h
  have hlt := (List.getElem?_eq_some_iff.1 h2).1
  refine ⟨?_, ?_⟩
  · rw [Array.getElem?_append_left (by simpa using hlt)]
    simpa using h2
  · rw [List.all_eq_true] at hv
    exact hv v (List.mem_of_getElem? h2)
end

/-! ### 2. What only computes -/
/-- What is told of types. -/
structure Orc where
  ty : List (Nat × TypeDesc)
  sz : List (Nat × Nat)
def allTy (P : Program) : List (Nat × TypeDesc) → Prop
  | [] => True
  | p :: r => P.underlying p.1 = some p.2 ∧ allTy P r
def allSz (P : Program) : List (Nat × Nat) → Prop
  | [] => True
  | p :: r => (P.info? p.1).map (·.size) = some p.2 ∧ allSz P r
structure Orc.Ok (T : Orc) (P : Program) : Prop where
  ty : allTy P T.ty
  sz : allSz P T.sz
section
variable {P : Program} {T : Orc}
theorem lookup_consG {β : Type} (L : List (Nat × β)) (d e : Nat) (v : β) : ((d, v) :: L).lookup e = if e = d then some v else L.lookup e := by
  rw [List.lookup_cons]
  by_cases h : e = d
  · subst h; simp
  · have : (e == d) = false := by simpa using h
    simp [this, h]
theorem allTy.get : ∀ {l : List (Nat × TypeDesc)}, allTy P l → ∀ t d, l.lookup t = some d → P.underlying t = some d := by
  intro l
  induction l with
  | nil => intro _ t d h; cases h
  | cons p r ih =>
    intro h t d hd
    obtain ⟨e, u⟩ := p
    rw [lookup_consG] at hd
    by_cases hed : t = e
    · subst hed; rw [if_pos rfl] at hd; injection hd with hd; subst hd; exact h.1
    · rw [if_neg hed] at hd; exact ih h.2 t d hd
theorem allSz.get : ∀ {l : List (Nat × Nat)}, allSz P l → ∀ t d, l.lookup t = some d → (P.info? t).map (·.size) = some d := by
  intro l
  induction l with
  | nil => intro _ t d h; cases h
  | cons p r ih =>
    intro h t d hd
    obtain ⟨e, u⟩ := p
    rw [lookup_consG] at hd
    by_cases hed : t = e
    · subst hed; rw [if_pos rfl] at hd; injection hd with hd; subst hd; exact h.1
    · rw [if_neg hed] at hd; exact ih h.2 t d hd
theorem Orc.Ok.und (h : T.Ok P) {t : Nat} {d : TypeDesc} (hd : T.ty.lookup t = some d) : P.underlying t = some d := h.ty.get _ _ hd
theorem Orc.Ok.size (h : T.Ok P) {t n : Nat} (hd : T.sz.lookup t = some n) : (P.info? t).map (·.size) = some n := h.sz.get _ _ hd
def bitv (op : BinOp) (k : IntKind) (a b : Int) : Int :=
  match op with
  | .and => k.wrap (BitVec.ofInt k.bits a &&& BitVec.ofInt k.bits b).toNat
  | .or => k.wrap (BitVec.ofInt k.bits a ||| BitVec.ofInt k.bits b).toNat
  | .xor => k.wrap (BitVec.ofInt k.bits a ^^^ BitVec.ofInt k.bits b).toNat
  | _ => k.wrap (BitVec.ofInt k.bits a &&& ~~~(BitVec.ofInt k.bits b)).toNat
def binI (op : BinOp) (k : IntKind) (a b : Int) : Option Value :=
  match op with
  | .add => some (.int k (k.wrap (a + b)))
  | .sub => some (.int k (k.wrap (a - b)))
  | .mul => some (.int k (k.wrap (a * b)))
  | .quo => if b = 0 then none else some (.int k (k.wrap (a.tdiv b)))
  | .rem => if b = 0 then none else some (.int k (a.tmod b))
  | .and => some (.int k (bitv .and k a b))
  | .or => some (.int k (bitv .or k a b))
  | .xor => some (.int k (bitv .xor k a b))
  | .andNot => some (.int k (bitv .andNot k a b))
  | .eql => some (.bool (a == b))
  | .neq => some (.bool (a != b))
  | .lss => some (.bool (decide (a < b)))
  | .leq => some (.bool (decide (a ≤ b)))
  | .gtr => some (.bool (decide (a > b)))
  | .geq => some (.bool (decide (a ≥ b)))
  | _ => none
/-- Shifts by what is known not to be below 0. -/
def shI (op : BinOp) (k : IntKind) (a b : Int) : Option Value :=
  match op with
  | .shl => if b < 0 then none else some (.int k (k.wrap (a * 2 ^ min b.toNat k.bits)))
  | .shr => if b < 0 then none else some (.int k (a.fdiv (2 ^ min b.toNat k.bits)))
  | _ => none
def eqV (d : TypeDesc) (x y : Value) : Option Bool :=
  match d, x, y with
  | .bool, .bool a, .bool b => some (a == b)
  | .pointer _, .pointer none, .pointer b => some b.isNone
  | .pointer _, .pointer (some _), .pointer none => some false
  | .slice _, .slice none _ _, .slice b _ _ => some b.isNone
  | .slice _, .slice (some _) _ _, .slice none _ _ => some false
  | .map _ _, .map none, .map b => some b.isNone
  | .map _ _, .map (some _), .map none => some false
  | .func _ _ _, .nilFunc, .nilFunc => some true
  | _, _, _ => none
def binV (T : Orc) (op : BinOp) (t : TypeId) (x y : Value) : Option Value :=
  match x, y with
  | .int k a, .int k' b =>
    match op with
    | .shl => shI .shl k a b
    | .shr => shI .shr k a b
    | op => if k = k' then binI op k a b else none
  | .string a, .string b =>
    match op with
    | .eql => some (.bool (a.toList == b.toList))
    | .neq => some (.bool (!(a.toList == b.toList)))
    | _ => none
  | x, y =>
    match op with
    | .eql => (T.ty.lookup t).bind fun d => (eqV d x y).map .bool
    | .neq => (T.ty.lookup t).bind fun d => (eqV d x y).map fun b => .bool (!b)
    | _ => none
def unV (op : UnOp) (x : Value) : Option Value :=
  match op, x with
  | .not, .bool b => some (.bool (!b))
  | .neg, .int k n => some (.int k (k.wrap (0 - n)))
  | .xor, .int k n => some (.int k (bitv .xor k (if k.signed then -1 else k.max) n))
  | _, _ => none
def convV (T : Orc) (src dst : TypeId) (x : Value) : Option Value :=
  match x with
  | .int _ n => match T.ty.lookup src, T.ty.lookup dst with
    | some _, some (.int k) => some (.int k (k.wrap n))
    | _, _ => none
  | .string s => match T.ty.lookup src, T.ty.lookup dst with
    | some .string, some .string => some (.string s)
    | _, _ => none
  | _ => none
def aggD : TypeDesc → Bool
  | .struct _ | .array _ _ => true
  | _ => false
def partV (T : Orc) (t : TypeId) (cs : Array Value) (off : Nat) : Option Value :=
  match T.ty.lookup t with
  | some (.struct _) | some (.array _ _) => (T.sz.lookup t).map fun n => .agg (cs.extract off (off + n))
  | some _ => (cs[off]?).bind fun v => if vok v then some v else none
  | none => none
def lenV (d : TypeDesc) (x : Value) : Option Value :=
  match d, x with
  | .slice _, .slice _ n _ => some (.int .i64 n)
  | .array n _, _ => if n ≤ maxLen then some (.int .i64 n) else none
  | _, _ => none
def minV (x y : Value) : Option Value :=
  match x, y with
  | .int k a, .int k' b => if k = k' then some (.int k (if b < a then b else a)) else none
  | _, _ => none
def maxV (x y : Value) : Option Value :=
  match x, y with
  | .int k a, .int k' b => if k = k' then some (.int k (if b > a then b else a)) else none
  | _, _ => none
def builtinV (T : Orc) (b : Builtin) (ts : List TypeId) (xs : List Value) : Option Value :=
  match b, ts, xs with
  | .len, [t], [x] => (T.ty.lookup t).bind fun d => lenV d x
  | .min, _, [x, y] => minV x y
  | .max, _, [x, y] => maxV x y
  | _, _, _ => none
def evs (L : Env) : List Operand → Option (List Value)
  | [] => some []
  | o :: r => (ev L o).bind fun v => (evs L r).map (v :: ·)
def callOp (T : Orc) (L : Env) (c : Call) : Option Value :=
  match c.callee with
  | .builtin b => (evs L c.args.toList).bind fun xs => builtinV T b c.argTypes.toList xs
  | _ => none
def notTup : Value → Bool
  | .tuple _ => false
  | _ => true
def pureOp (T : Orc) (L : Env) : Op → Option Value
  | .move x | .assign x => ev L x
  | .pick c x y => match ev L c with
    | some (.bool true) => ev L x
    | some (.bool false) => ev L y
    | _ => none
  | .binOp op t x y _ => (ev L x).bind fun x => (ev L y).bind fun y => binV T op t x y
  | .unOp op _ x => (ev L x).bind fun x => unV op x
  | .convert s d x => (ev L x).bind fun x => convV T s d x
  | .extract t i => match ev L t with
    | some (.tuple vs) => (vs[i]?).bind fun v => if notTup v then some v else none
    | _ => none
  | .nilCheck x => match ev L x with
    | some (.pointer (some p)) => some (.pointer (some p))
    | _ => none
  | .field t x f => match ev L x, T.ty.lookup t with
    | some (.agg cs), some (.struct fs) => (fs[f]?).bind fun fd => partV T fd.type cs fd.offset
    | _, _ => none
  | .fieldAddr t x f => match ev L x, T.ty.lookup t with
    | some (.pointer (some p)), some (.struct fs) => (fs[f]?).bind fun fd => match T.sz.lookup fd.type with
      | some (_ + 1) => some (.pointer (some (p.add fd.offset)))
      | _ => none
    | _, _ => none
  | .call c => callOp T L c
  | _ => none
theorem wf_int {k : IntKind} {x : Int} : (Lit.int k x).wf = true ↔ k.min ≤ x ∧ x ≤ k.max := by simp [Lit.wf]
theorem wf_bitv (op : BinOp) (k : IntKind) (a b : Int) : (Lit.int k (bitv op k a b)).wf = true := by unfold bitv; split <;> exact wf_wrap _ _
theorem wf_tmod {k : IntKind} {a b : Int} (h : (Lit.int k a).wf = true) : (Lit.int k (a.tmod b)).wf = true := by
  rw [wf_int] at h ⊢
  rcases Int.le_total 0 a with ha | ha
  · have h1 : 0 ≤ a.tmod b := Int.tmod_nonneg _ ha
    have h2 : a.tmod b ≤ a := by
      have e := Int.mul_tdiv_add_tmod a b
      have h3 := Int.natAbs_tmod a b
      have h4 : (a.tmod b).natAbs ≤ a.natAbs := by rw [h3]; exact Nat.mod_le _ _
      omega
    have hm : k.min ≤ 0 := by cases k <;> decide
    exact ⟨by omega, by omega⟩
  · have h1 : a.tmod b ≤ 0 := by
      have := Int.tmod_nonneg (a := -a) b (by omega)
      rw [Int.neg_tmod] at this; omega
    have h2 : a ≤ a.tmod b := by
      have h4 : (a.tmod b).natAbs ≤ a.natAbs := by rw [Int.natAbs_tmod]; exact Nat.mod_le _ _
      omega
    have hm : 0 ≤ k.max := by cases k <;> decide
    exact ⟨by omega, by omega⟩
theorem wf_shr {k : IntKind} {a : Int} (n : Nat) (h : (Lit.int k a).wf = true) : (Lit.int k (a.fdiv (2 ^ n))).wf = true := by
  rw [wf_int] at h ⊢
  have hp : (0 : Int) < 2 ^ n := Int.pow_pos (by decide)
  rw [Int.fdiv_eq_ediv_of_nonneg _ (by omega)]
  have hm : k.min ≤ 0 := by cases k <;> decide
  have hx : 0 ≤ k.max := by cases k <;> decide
  rcases Int.le_total 0 a with ha | ha
  · have h1 : 0 ≤ a / 2 ^ n := Int.ediv_nonneg ha (by omega)
    have h2 : a / 2 ^ n ≤ a := Int.ediv_le_self _ ha
    exact ⟨by omega, by omega⟩
  · have h1 : a ≤ a / 2 ^ n := by
      rw [Int.le_ediv_iff_mul_le hp]
      have : a * 2 ^ n ≤ a * 1 := Int.mul_le_mul_of_nonpos_left ha (by omega)
      omega
    have h2 : a / 2 ^ n ≤ 0 := by
      have := Int.ediv_le_ediv hp ha
      simpa using this
    exact ⟨by omega, by omega⟩
theorem binI_ok {op : BinOp} {k : IntKind} {a b : Int} {v : Value} (ha : (Lit.int k a).wf = true) (h : binI op k a b = some v) : vok v = true := by
  unfold binI at h
  split at h <;> first
    | (injection h with h; subst h; first | exact wf_wrap _ _ | exact wf_bitv _ _ _ _ | rfl)
    | (split at h; (cases h); (injection h with h; subst h; first | exact wf_wrap _ _ | exact wf_tmod ha))
    | cases h
theorem shI_ok {op : BinOp} {k : IntKind} {a b : Int} {v : Value} (ha : (Lit.int k a).wf = true) (h : shI op k a b = some v) : vok v = true := by
  unfold shI at h
  split at h <;> first
    | (split at h; (cases h); (injection h with h; subst h; first | exact wf_wrap _ _ | exact wf_shr _ ha))
    | cases h
theorem binV_ok {op : BinOp} {t : TypeId} {x y v : Value} (hx : vok x = true) (h : binV T op t x y = some v) : vok v = true := by
  unfold binV at h
  split at h
  · split at h
    · exact shI_ok hx h
    · exact shI_ok hx h
    · split at h
      · exact binI_ok hx h
      · cases h
  · split at h <;> first | (injection h with h; subst h; rfl) | cases h
  · split at h
    · simp only [Option.bind_eq_some_iff, Option.map_eq_some_iff] at h
      obtain ⟨_, _, _, _, rfl⟩ := h; rfl
    · simp only [Option.bind_eq_some_iff, Option.map_eq_some_iff] at h
      obtain ⟨_, _, _, _, rfl⟩ := h; rfl
    · cases h
theorem unV_ok {op : UnOp} {x v : Value} (h : unV op x = some v) : vok v = true := by
  unfold unV at h
  split at h <;> first | (injection h with h; subst h; first | rfl | exact wf_wrap _ _ | exact wf_bitv _ _ _ _) | cases h
theorem convV_ok {s d : TypeId} {x v : Value} (h : convV T s d x = some v) : vok v = true := by
  unfold convV at h
  split at h
  · split at h
    · injection h with h; subst h; exact wf_wrap _ _
    · cases h
  · split at h
    · injection h with h; subst h; rfl
    · cases h
  · cases h
theorem vok_extract {cs : Array Value} {i j : Nat} (h : vok (.agg cs) = true) : vok (.agg (cs.extract i j)) = true := by
  simp only [vok, vokC, List.all_eq_true] at h ⊢
  intro x hx
  refine h x ?_
  rw [Array.toList_extract] at hx
  exact List.mem_of_mem_drop (List.mem_of_mem_take hx)
theorem partV_ok {t off : Nat} {cs : Array Value} {v : Value} (hx : vok (.agg cs) = true) (h : partV T t cs off = some v) : vok v = true := by
  unfold partV at h
  split at h
  · simp only [Option.map_eq_some_iff] at h; obtain ⟨n, _, rfl⟩ := h; exact vok_extract hx
  · simp only [Option.map_eq_some_iff] at h; obtain ⟨n, _, rfl⟩ := h; exact vok_extract hx
  · simp only [Option.bind_eq_some_iff] at h
    obtain ⟨u, _, h⟩ := h
    split at h
    · injection h with h; subst h; assumption
    · cases h
  · cases h
theorem vok_len {n : Nat} (h : n ≤ maxLen) : vok (.int .i64 (n : Int)) = true := by
  have h : (Lit.int .i64 (n : Int)).wf = true := by
    rw [wf_int]
    have hm : (maxLen : Int) = 9223372036854775807 := by decide
    have h1 : IntKind.i64.min = -9223372036854775808 := by decide
    have h2 : IntKind.i64.max = 9223372036854775807 := by decide
    omega
  exact h
theorem lenV_ok {d : TypeDesc} {x v : Value} (hx : vok x = true) (h : lenV d x = some v) : vok v = true := by
  unfold lenV at h
  split at h
  · injection h with h; subst h
    simp only [vok, vokC, vok1, Bool.and_eq_true, decide_eq_true_eq] at hx
    exact vok_len (by omega)
  · split at h
    · injection h with h; subst h
      exact vok_len (by assumption)
    · cases h
  · cases h
theorem binI_run {op : BinOp} {t : TypeId} {k : IntKind} {a b : Int} {v : Value} (h1 : op ≠ .shl) (h2 : op ≠ .shr) (h : binI op k a b = some v) (w : World) : (binOp op t (.int k a) (.int k b)).run P w = .ok v w := by
  unfold binI at h
  split at h <;> first
    | (injection h with h; subst h; simp [binOp, Op.intArith, Op.intBits, Op.intCmp, bitv]; done)
    | (split at h; (cases h); (injection h with h; subst h; simp [binOp, Op.intDiv, *]; done))
    | (cases op <;> first | (cases h) | (exact absurd rfl h1) | (exact absurd rfl h2) | simp_all)
theorem shI_run {op : BinOp} {t : TypeId} {k k' : IntKind} {a b : Int} {v : Value} (h : shI op k a b = some v) (w : World) : (binOp op t (.int k a) (.int k' b)).run P w = .ok v w := by
  unfold shI at h
  split at h <;> first
    | (split at h; (cases h); (injection h with h; subst h; simp [binOp, Op.shift, *]; done))
    | cases h
theorem eqV_run {t : TypeId} {d : TypeDesc} {x y : Value} {b : Bool} (hd : P.underlying t = some d) (h : eqV d x y = some b) (w : World) : (Op.equal t x y).run P w = .ok b w := by
  show (Op.equalIn (9999 + 1) t x y).run P w = .ok b w
  unfold Op.equalIn
  rw [Sem.run_bind, run_underlying hd, Result.andThen_ok]
  unfold eqV at h
  split at h <;> first
    | (injection h with h; subst h; rfl)
    | cases h
theorem eqGuard_run {op : BinOp} {t : TypeId} {x y : Value} {xo yo : Operand} (h1 : ∀ c d, x = .agg c → y = .agg d → False) (h2 : x = .nilIface → y = .nilIface → False) (w : World) : (eqGuard op t xo yo x y).run P w = .ok () w := by
  unfold eqGuard
  split
  · rw [if_neg (by decide)]
    split
    · exact (h2 rfl rfl).elim
    · exact (h1 _ _ rfl rfl).elim
    · rfl
  · rw [if_neg (by decide)]
    split
    · exact (h2 rfl rfl).elim
    · exact (h1 _ _ rfl rfl).elim
    · rfl
  · rfl
theorem eqV_kinds {d : TypeDesc} {x y : Value} {b : Bool} (h : eqV d x y = some b) : (∀ c e, x = .agg c → y = .agg e → False) ∧ (x = .nilIface → y = .nilIface → False) ∧
    (∀ op t, op = .eql ∨ op = .neq → (binOp op t x y : Sem Value) = (if op = .eql then (do pure (.bool (← Op.equal t x y))) else (do pure (.bool (!(← Op.equal t x y)))))) := by
  unfold eqV at h
  split at h <;> first
    | (refine ⟨(by intro c e h; cases h), (by intro h; cases h), ?_⟩; rintro op t (rfl | rfl) <;> rfl)
    | cases h
theorem binV_run (hT : T.Ok P) {op : BinOp} {t : TypeId} {x y : Value} {xo yo : Operand} {v : Value} (h : binV T op t x y = some v) (w : World) :
    (do eqGuard op t xo yo x y; binOp op t x y : Sem Value).run P w = .ok v w := by
  unfold binV at h
  split at h
  · rw [Sem.run_bind, eqGuard_run (by intro c d h; cases h) (by intro h; cases h), Result.andThen_ok]
    split at h
    · exact shI_run h w
    · exact shI_run h w
    · split at h
      · rename_i k a k' b op' h1 h2 hk
        subst hk
        exact binI_run (fun e => h1 e) (fun e => h2 e) h w
      · cases h
  · rw [Sem.run_bind, eqGuard_run (by intro c d h; cases h) (by intro h; cases h), Result.andThen_ok]
    split at h
    · injection h with h; subst h; rfl
    · injection h with h; subst h; rfl
    · cases h
  · split at h
    · simp only [Option.bind_eq_some_iff, Option.map_eq_some_iff] at h
      obtain ⟨d, hd, b, hb, rfl⟩ := h
      obtain ⟨h1, h2, h3⟩ := eqV_kinds hb
      rw [Sem.run_bind, eqGuard_run h1 h2, Result.andThen_ok, h3 _ _ (.inl rfl), if_pos rfl, Sem.run_bind, eqV_run (hT.und hd) hb]; rfl
    · simp only [Option.bind_eq_some_iff, Option.map_eq_some_iff] at h
      obtain ⟨d, hd, b, hb, rfl⟩ := h
      obtain ⟨h1, h2, h3⟩ := eqV_kinds hb
      rw [Sem.run_bind, eqGuard_run h1 h2, Result.andThen_ok, h3 _ _ (.inr rfl), if_neg (by decide), Sem.run_bind, eqV_run (hT.und hd) hb]; rfl
    · cases h
theorem unV_run {op : UnOp} {x v : Value} (h : unV op x = some v) (w : World) : (Op.unary op x).run P w = .ok v w := by
  unfold unV at h
  split at h <;> first | (injection h with h; subst h; rfl) | cases h
theorem convV_run (hT : T.Ok P) {s d : TypeId} {x v : Value} (h : convV T s d x = some v) (w : World) : (convert s d x).run P w = .ok v w := by
  unfold convV at h
  unfold convert
  split at h
  · split at h
    · rename_i ds k hs hd
      injection h with h; subst h
      rw [Sem.run_bind, run_underlying (hT.und hs), Result.andThen_ok, Sem.run_bind, run_underlying (hT.und hd), Result.andThen_ok]
      cases ds <;> rfl
    · cases h
  · split at h
    · rename_i hs hd
      injection h with h; subst h
      rw [Sem.run_bind, run_underlying (hT.und hs), Result.andThen_ok, Sem.run_bind, run_underlying (hT.und hd), Result.andThen_ok]
      rfl
    · cases h
  · cases h
theorem size_run (hT : T.Ok P) {t n : Nat} (h : T.sz.lookup t = some n) (w : World) : (sizeOf t).run P w = .ok n w := by
  have := hT.size h
  cases hi : P.info? t with
  | none => simp [hi] at this
  | some i =>
    have e : i.size = n := by simpa [hi] using this
    subst e
    unfold sizeOf typeInfo
    simp [hi]
theorem isAgg_run {t : TypeId} {d : TypeDesc} (h : P.underlying t = some d) (w : World) : (isAgg t).run P w = .ok (aggD d) w := by
  unfold isAgg
  rw [Sem.run_bind, run_underlying h, Result.andThen_ok]
  unfold aggD
  cases d <;> rfl
theorem partV_run (hT : T.Ok P) {t off : Nat} {cs : Array Value} {v : Value} (h : partV T t cs off = some v) (w : World) : (part t cs off).run P w = .ok v w := by
  unfold partV at h
  unfold part
  split at h
  · rename_i hd
    simp only [Option.map_eq_some_iff] at h
    obtain ⟨n, hn, rfl⟩ := h
    rw [Sem.run_bind, isAgg_run (hT.und hd), Result.andThen_ok]
    simp [aggD, size_run hT hn]
  · rename_i hd
    simp only [Option.map_eq_some_iff] at h
    obtain ⟨n, hn, rfl⟩ := h
    rw [Sem.run_bind, isAgg_run (hT.und hd), Result.andThen_ok]
    simp [aggD, size_run hT hn]
  · rename_i d h1 h2 hd
    simp only [Option.bind_eq_some_iff] at h
    obtain ⟨u, hu, h⟩ := h
    split at h
    · injection h with h; subst h
      rw [Sem.run_bind, isAgg_run (hT.und hd), Result.andThen_ok]
      have : aggD d = false := by
        unfold aggD
        split
        · exact (h1 _ rfl).elim
        · exact (h2 _ _ rfl).elim
        · rfl
      rw [this, if_neg (by decide), hu]; rfl
    · cases h
  · cases h
theorem evs_run {Df : List Deferred} {N : Nat} {a : Act} {L : Env} (fr : FrD Df N a L) : ∀ {os : List Operand} {vs : List Value}, evs L os = some vs → os.map a.eval = vs ∧ vs.all vok = true := by
  intro os
  induction os with
  | nil => intro vs h; injection h with h; subst h; exact ⟨rfl, rfl⟩
  | cons o r ih =>
    intro vs h
    unfold evs at h
    simp only [Option.bind_eq_some_iff, Option.map_eq_some_iff] at h
    obtain ⟨v, h1, l, h2, rfl⟩ := h
    obtain ⟨h3, h4⟩ := ih h2
    exact ⟨by rw [List.map_cons, h3, (fr.ev h1).1], by simp [(fr.ev h1).2, h4]⟩
theorem minV_run {x y v : Value} (h : minV x y = some v) (w : World) : (Builtin.min2 x y).run P w = .ok v w := by
  unfold minV at h
  split at h
  · split at h
    · injection h with h; subst h; rfl
    · cases h
  · cases h
theorem maxV_run {x y v : Value} (h : maxV x y = some v) (w : World) : (Builtin.max2 x y).run P w = .ok v w := by
  unfold maxV at h
  split at h
  · split at h
    · injection h with h; subst h; rfl
    · cases h
  · cases h
theorem builtinV_run (hT : T.Ok P) {b : Builtin} {ts : Array TypeId} {ty : TypeId} {cs : Array Bool} {xs : Array Value} {v : Value} (h : builtinV T b ts.toList xs.toList = some v) (hx : xs.toList.all vok = true) (w : World) :
    (builtin b ts ty cs xs).run P w = .ok (.value v) w ∧ vok v = true := by
  obtain ⟨ts⟩ := ts
  obtain ⟨xs⟩ := xs
  simp only at h hx
  unfold builtinV at h
  split at h
  · rename_i t x
    simp only [Option.bind_eq_some_iff] at h
    obtain ⟨d, hd, h⟩ := h
    have hx : vok x = true := by simpa using hx
    refine ⟨?_, lenV_ok hx h⟩
    have e : (Builtin.len_ #[t] ty #[x]).run P w = .ok v w := by
      simp only [Builtin.len_, List.getElem?_toArray, List.getElem?_cons_zero]
      rw [Sem.run_bind, run_underlying (hT.und hd), Result.andThen_ok]
      unfold lenV at h
      split at h
      · injection h with h; subst h; rfl
      · split at h
        · injection h with h; subst h; rfl
        · cases h
      · cases h
    show (do pure (Next.value (← Builtin.len_ #[t] ty #[x])) : Sem Next).run P w = _
    rw [Sem.run_bind, e]; rfl
  · rename_i x y
    have hx : vok x = true ∧ vok y = true := by simpa using hx
    have e : (Builtin.min_ ⟨ts⟩ ty #[x, y]).run P w = .ok v w := by
      simp [Builtin.min_, List.foldlM, minV_run h]
    refine ⟨by show (do pure (Next.value (← Builtin.min_ ⟨ts⟩ ty #[x, y])) : Sem Next).run P w = _; rw [Sem.run_bind, e]; rfl, ?_⟩
    unfold minV at h
    split at h
    · split at h
      · rename_i hk
        subst hk
        injection h with h; subst h
        split
        · exact hx.2
        · exact hx.1
      · cases h
    · cases h
  · rename_i x y
    have hx : vok x = true ∧ vok y = true := by simpa using hx
    have e : (Builtin.max_ ⟨ts⟩ ty #[x, y]).run P w = .ok v w := by
      simp [Builtin.max_, List.foldlM, maxV_run h]
    refine ⟨by show (do pure (Next.value (← Builtin.max_ ⟨ts⟩ ty #[x, y])) : Sem Next).run P w = _; rw [Sem.run_bind, e]; rfl, ?_⟩
    unfold maxV at h
    split at h
    · split at h
      · rename_i hk
        subst hk
        injection h with h; subst h
        split
        · exact hx.2
        · exact hx.1
      · cases h
    · cases h
  · cases h
theorem pure_run (hT : T.Ok P) {Df : List Deferred} {N : Nat} {a : Act} {L : Env} (fr : FrD Df N a L) {o : Oper} {v : Value} (h : pureOp T L o.op = some v) (w : World) : (execOp a.eval o).run P w = .ok (.value v) w ∧ vok v = true := by
  unfold execOp
  cases ho : o.op <;> rw [ho] at h <;> simp only [pureOp] at h <;> try (cases h; done)
  case move x => exact ⟨by rw [← (fr.ev h).1]; rfl, (fr.ev h).2⟩
  case assign x => exact ⟨by rw [← (fr.ev h).1]; rfl, (fr.ev h).2⟩
  case pick c x y =>
    split at h
    · rename_i hc
      refine ⟨?_, (fr.ev h).2⟩
      simp [(fr.ev hc).1, asBool, (fr.ev h).1]
    · rename_i hc
      refine ⟨?_, (fr.ev h).2⟩
      simp [(fr.ev hc).1, asBool, (fr.ev h).1]
    · cases h
  case binOp op t x y ty =>
    simp only [Option.bind_eq_some_iff] at h
    obtain ⟨vx, h1, vy, h2, h3⟩ := h
    refine ⟨?_, binV_ok (fr.ev h1).2 h3⟩
    simp only [(fr.ev h1).1, (fr.ev h2).1]
    have := binV_run (P := P) hT (xo := x) (yo := y) h3 w
    rw [Sem.run_bind, this]; rfl
  case unOp op t x =>
    simp only [Option.bind_eq_some_iff] at h
    obtain ⟨vx, h1, h3⟩ := h
    refine ⟨?_, unV_ok h3⟩
    simp only [(fr.ev h1).1]
    rw [Sem.run_bind, unV_run h3]; rfl
  case convert s d x =>
    simp only [Option.bind_eq_some_iff] at h
    obtain ⟨vx, h1, h3⟩ := h
    refine ⟨?_, convV_ok h3⟩
    simp only [(fr.ev h1).1]
    rw [Sem.run_bind, convV_run hT h3]; rfl
  case nilCheck x =>
    split at h
    · rename_i p hx
      injection h with h; subst h
      simp only [(fr.ev hx).1]
      exact ⟨rfl, rfl⟩
    · cases h
  case extract t i =>
    split at h
    · rename_i vs ht
      simp only [Option.bind_eq_some_iff] at h
      obtain ⟨u, hu, h⟩ := h
      obtain ⟨e1, e2⟩ := fr.ev ht
      by_cases hn : notTup u = true
      · rw [if_pos hn] at h
        injection h with h; subst h
        refine ⟨?_, ?_⟩
        · simp only [e1, Instr.extract, hu]; rfl
        · have hm : u ∈ vs.toList := by
            rw [← Array.getElem?_toList] at hu
            exact List.mem_of_getElem? hu
          have := (List.all_eq_true.1 (show vs.toList.all vokC = true from e2)) u hm
          cases u <;> first | exact this | (cases hn)
      · rw [if_neg hn] at h; cases h
    · cases h
  case field t x f =>
    split at h
    · rename_i cs fs hx ht
      simp only [Option.bind_eq_some_iff] at h
      obtain ⟨fd, hf, h⟩ := h
      obtain ⟨e1, e2⟩ := fr.ev hx
      refine ⟨?_, partV_ok e2 h⟩
      simp only [e1, Instr.field]
      rw [Sem.run_bind, Sem.run_bind, run_underlying (hT.und ht), Result.andThen_ok]
      simp only [hf, asAgg]
      rw [Sem.run_bind, Sem.run_pure, Result.andThen_ok, partV_run hT h]; rfl
    · cases h
  case fieldAddr t x f =>
    split at h
    · rename_i p fs hx ht
      simp only [Option.bind_eq_some_iff] at h
      obtain ⟨fd, hf, h⟩ := h
      obtain ⟨e1, e2⟩ := fr.ev hx
      split at h
      · rename_i n hs
        injection h with h; subst h
        refine ⟨?_, rfl⟩
        simp only [e1, Instr.fieldAt, Instr.sureAddr, fieldPlace]
        rw [Sem.run_bind, Sem.run_bind, run_underlying (hT.und ht), Result.andThen_ok]
        simp only [hf]
        simp [size_run hT hs]
      · cases h
    · cases h
  case call c =>
    unfold callOp at h
    split at h
    · rename_i b hb
      simp only [Option.bind_eq_some_iff] at h
      obtain ⟨xs, hx, h⟩ := h
      obtain ⟨h1, h2⟩ := evs_run fr hx
      have e : c.args.map a.eval = xs.toArray := by
        apply Array.toList_inj.1
        rw [Array.toList_map, h1]
      simp only [resolve, hb]
      rw [Sem.run_bind, Sem.run_pure, Result.andThen_ok]
      simp only [invoke, e]
      exact builtinV_run hT h h2 w
    · cases h
end
end Go.Proofs.YticnjkdaccacaaaDoor.Sx
