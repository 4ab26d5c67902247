/- The evaluator, part R: the evaluator itself. -/
import Derived.Test.YtppdclebbcmcaaaEvQ
set_option linter.unusedSimpArgs false
set_option linter.unusedVariables false
namespace Go.Ev
open Go.Sl
noncomputable section
variable {P : Program}

/-! ### operations but calls -/
def litK (P : Program) (T : Tabs P) (fr : Tr AV) (M : Mem) (nx : Nat) (t : TypeId) (len : Nat) (parts : Array (Nat × Operand)) (k : AV → Mem → Nat → Bool) : Bool := match parts with
  | ⟨[]⟩ => (match len with
    | 0 => sliceLit0K T M nx t k
    | n + 1 => sliceLitK P T fr M nx t (n + 1) #[] k)
  | ⟨p :: ps⟩ => sliceLitK P T fr M nx t len ⟨p :: ps⟩ k
def conv2K (P : Program) (T : Tabs P) (fr : Tr AV) (M : Mem) (nx : Nat) (ts td : TypeId) (x : Operand) (k : AV → Mem → Nat → Bool) : Bool := Option.rec false (fun r => match r with
  | ⟨.sl _, _, _⟩ => toSlK T fr M nx ts td x k
  | _ => convK P T fr M ts td x fun v => k v M nx) (T.T td)
def builtK (P : Program) (T : Tabs P) (fr : Tr AV) (M : Mem) (nx : Nat) (b : Builtin) (xs : Array Operand) (ts : Array TypeId) (k : AV → Mem → Nat → Bool) : Bool := match b with
  | .len => (match xs, ts with
    | ⟨[x]⟩, ⟨[t]⟩ => lenK T fr M t x fun v => k v M nx
    | _, _ => false)
  | .append => (match xs, ts with
    | ⟨[x, y]⟩, ⟨[t, tx]⟩ => appendK P T fr M nx t tx x y k
    | _, _ => false)
  | .copy => (match xs, ts with
    | ⟨[x, y]⟩, ⟨[t, _]⟩ => copyK T fr M nx t x y k
    | _, _ => false)
  | .delete => (match xs, ts with
    | ⟨[x, y]⟩, ⟨[t, _]⟩ => deleteK P T fr M nx t x y k
    | _, _ => false)
  | .min => minK P T fr xs fun v => k v M nx
  | .max => maxK P T fr xs fun v => k v M nx
  | _ => false
/-- An operation: one constant for each kind (the kernel copies nothing but what it runs). -/
abbrev OpT := (Call → Bool) → (Call → Bool) → (Operand → Bool) → Tr AV → Mem → Nat → (AV → Mem → Nat → Bool) → Bool
def o_move (P : Program) (T : Tabs P) (x : Operand) : OpT := fun hc hd hp fr M nx k => argK T fr x fun v => k v M nx
def o_assign (P : Program) (T : Tabs P) (x : Operand) : OpT := fun hc hd hp fr M nx k => argK T fr x fun v => k v M nx
def o_pick (P : Program) (T : Tabs P) (c x y : Operand) : OpT := fun hc hd hp fr M nx k => pickK T fr c x y fun v => k v M nx
def o_alloc (P : Program) (T : Tabs P) (t : TypeId) : OpT := fun hc hd hp fr M nx k => allocK P M nx t k
def o_box (P : Program) (T : Tabs P) (t : TypeId) (x : Operand) : OpT := fun hc hd hp fr M nx k => boxK T fr M nx t x k
def o_build (P : Program) (T : Tabs P) (t : TypeId) (parts : Array (Nat × Operand)) : OpT := fun hc hd hp fr M nx k => buildK P T fr t parts fun v => k v M nx
def o_buildSlice (P : Program) (T : Tabs P) (t : TypeId) (len : Nat) (parts : Array (Nat × Operand)) : OpT := fun hc hd hp fr M nx k => litK P T fr M nx t len parts k
def o_insert (P : Program) (T : Tabs P) (t : TypeId) (m x y : Operand) : OpT := fun hc hd hp fr M nx k => mapUpdK P T fr M nx t m x y k
def o_load (P : Program) (T : Tabs P) (t : TypeId) (x : Operand) : OpT := fun hc hd hp fr M nx k => loadK T fr M t x fun v => k v M nx
def o_store (P : Program) (T : Tabs P) (t : TypeId) (x y : Operand) : OpT := fun hc hd hp fr M nx k => storeK T fr M nx t x y k
def o_ready (P : Program) (T : Tabs P) (g : Nat) : OpT := fun hc hd hp fr M nx k => false
def o_waits (P : Program) (T : Tabs P) (g : Nat) : OpT := fun hc hd hp fr M nx k => false
def o_nilCheck (P : Program) (T : Tabs P) (x : Operand) : OpT := fun hc hd hp fr M nx k => nilCheckK T fr x fun v => k v M nx
def o_binOp (P : Program) (T : Tabs P) (op : BinOp) (tx : TypeId) (x y : Operand) (ty : TypeId) : OpT := fun hc hd hp fr M nx k => binXK P T fr op tx x y fun v => k v M nx
def o_unOp (P : Program) (T : Tabs P) (op : UnOp) (tx : TypeId) (x : Operand) : OpT := fun hc hd hp fr M nx k => unK P T fr op x fun v => k v M nx
def o_convert (P : Program) (T : Tabs P) (ts td : TypeId) (x : Operand) : OpT := fun hc hd hp fr M nx k => conv2K P T fr M nx ts td x k
def o_sliceToArrayPointer (P : Program) (T : Tabs P) (t : TypeId) (x : Operand) : OpT := fun hc hd hp fr M nx k => arrPtrK T fr t x fun v => k v M nx
def o_makeInterface (P : Program) (T : Tabs P) (t : TypeId) (x : Operand) : OpT := fun hc hd hp fr M nx k => mkIfcK T fr t x fun v => k v M nx
def o_makeFunc (P : Program) (T : Tabs P) (f : Fn) (xs ys : Array Operand) : OpT := fun hc hd hp fr M nx k => mkFnK T fr f xs ys fun v => k v M nx
def o_makeMap (P : Program) (T : Tabs P) (t : TypeId) (r : Option Operand) : OpT := fun hc hd hp fr M nx k => makeMapK T fr M nx t r k
def o_makeChan (P : Program) (T : Tabs P) (t : TypeId) (size : Operand) : OpT := fun hc hd hp fr M nx k => false
def o_makeSlice (P : Program) (T : Tabs P) (t : TypeId) (l c : Operand) : OpT := fun hc hd hp fr M nx k => makeSlK P T fr M nx t l c k
def o_slice (P : Program) (T : Tabs P) (t : TypeId) (x : Operand) (lo hi mx : Option Operand) : OpT := fun hc hd hp fr M nx k => sliceK P T fr t x lo hi mx fun v => k v M nx
def o_fieldAddr (P : Program) (T : Tabs P) (t : TypeId) (x : Operand) (f : Nat) : OpT := fun hc hd hp fr M nx k => fieldAddrK T fr t x f fun v => k v M nx
def o_field (P : Program) (T : Tabs P) (t : TypeId) (x : Operand) (f : Nat) : OpT := fun hc hd hp fr M nx k => fieldK T fr t x f fun v => k v M nx
def o_indexAddr (P : Program) (T : Tabs P) (t : TypeId) (x y : Operand) : OpT := fun hc hd hp fr M nx k => indexAddrK T fr t x y fun v => k v M nx
def o_index (P : Program) (T : Tabs P) (t : TypeId) (x y : Operand) : OpT := fun hc hd hp fr M nx k => indexK T fr t x y fun v => k v M nx
def o_lookup (P : Program) (T : Tabs P) (t : TypeId) (x y : Operand) (ok : Bool) : OpT := fun hc hd hp fr M nx k => lookupK P T fr M t x y ok fun v => k v M nx
def o_mapUpdate (P : Program) (T : Tabs P) (t : TypeId) (m x y : Operand) : OpT := fun hc hd hp fr M nx k => mapUpdK P T fr M nx t m x y k
def o_mapEntry (P : Program) (T : Tabs P) (t : TypeId) (m x : Operand) : OpT := fun hc hd hp fr M nx k => mapEntK P T fr M nx t m x k
def o_entryStore (P : Program) (T : Tabs P) (t : TypeId) (m s x : Operand) : OpT := fun hc hd hp fr M nx k => entStK T fr M nx m s x k
def o_range (P : Program) (T : Tabs P) (t : TypeId) (x : Operand) : OpT := fun hc hd hp fr M nx k => rangeK T fr M nx t x k
def o_next (P : Program) (T : Tabs P) (it : Operand) (s : Bool) : OpT := fun hc hd hp fr M nx k => nextK T fr M nx it s k
def o_entry (P : Program) (T : Tabs P) (it : Operand) : OpT := fun hc hd hp fr M nx k => entryK T fr M it fun v => k v M nx
def o_typeAssert (P : Program) (T : Tabs P) (x : Operand) (tx t : TypeId) (ok : Bool) : OpT := fun hc hd hp fr M nx k => assertK P T fr x t ok fun v => k v M nx
def o_extract (P : Program) (T : Tabs P) (x : Operand) (i : Nat) : OpT := fun hc hd hp fr M nx k => extractK T fr x i fun v => k v M nx
def o_call (P : Program) (T : Tabs P) (c : Call) : OpT := fun hc hd hp fr M nx k => hc c
def o_go (P : Program) (T : Tabs P) (c : Call) : OpT := fun hc hd hp fr M nx k => false
def o_defer (P : Program) (T : Tabs P) (c : Call) : OpT := fun hc hd hp fr M nx k => hd c
def o_panic (P : Program) (T : Tabs P) (x : Operand) : OpT := fun hc hd hp fr M nx k => hp x
def o_send (P : Program) (T : Tabs P) (c x : Operand) : OpT := fun hc hd hp fr M nx k => false
def o_recv (P : Program) (T : Tabs P) (t : TypeId) (c : Operand) (ok : Bool) : OpT := fun hc hd hp fr M nx k => false
def o_select (P : Program) (T : Tabs P) (cs : Array SelectCase) (b : Bool) : OpT := fun hc hd hp fr M nx k => false
def opXK (P : Program) (T : Tabs P) (op : Op) : OpT := Op.rec (motive := fun _ => OpT) (o_move P T) (o_assign P T) (o_pick P T) (o_alloc P T) (o_box P T) (o_build P T) (o_buildSlice P T) (o_insert P T) (o_load P T) (o_store P T) (o_ready P T) (o_waits P T) (o_nilCheck P T) (o_binOp P T) (o_unOp P T) (o_convert P T) (o_sliceToArrayPointer P T) (o_makeInterface P T) (o_makeFunc P T) (o_makeMap P T) (o_makeChan P T) (o_makeSlice P T) (o_slice P T) (o_fieldAddr P T) (o_field P T) (o_indexAddr P T) (o_index P T) (o_lookup P T) (o_mapUpdate P T) (o_mapEntry P T) (o_entryStore P T) (o_range P T) (o_next P T) (o_entry P T) (o_typeAssert P T) (o_extract P T) (o_call P T) (o_go P T) (o_defer P T) (o_panic P T) (o_send P T) (o_recv P T) (o_select P T) op
def builtCK (P : Program) (T : Tabs P) (fr : Tr AV) (M : Mem) (nx : Nat) (k : AV → Mem → Nat → Bool) (c : Call) : Bool := match c with
  | ⟨.builtin b, xs, ts⟩ => builtK P T fr M nx b xs ts k
  | _ => false
def opK (P : Program) (T : Tabs P) (fr : Tr AV) (M : Mem) (nx : Nat) (op : Op) (k : AV → Mem → Nat → Bool) : Bool := opXK P T op (builtCK P T fr M nx k) (fun _ => false) (fun _ => false) fr M nx k
section
variable {T : Tabs P} {c : Cn} {ρ : Env} {fr : Tr AV} {ds : List AD} {M : Mem} {nx : Nat} {a : Act} {w : World}
theorem litK_spec {t : TypeId} {len : Nat} {parts : Array (Nat × Operand)} {k : AV → Mem → Nat → Bool} (h : litK P T fr M nx t len parts k = true) (s : Rel T c ρ fr ds M nx a w) : Eff P c ρ a w (.buildSlice t len parts) k := by
  obtain ⟨l⟩ := parts
  cases l with
  | nil => cases len with
    | zero => exact sliceLit0K_spec h s
    | succ n => exact sliceLitK_spec h s
  | cons p ps => exact sliceLitK_spec h s
theorem conv2K_spec {ts td : TypeId} {x : Operand} {k : AV → Mem → Nat → Bool} (h : conv2K P T fr M nx ts td x k = true) (s : Rel T c ρ fr ds M nx a w) : Eff P c ρ a w (.convert ts td x) k := by
  obtain ⟨⟨d, _, _⟩, h1, g⟩ := opt_rec h
  cases d <;> first | exact toSlK_spec g s | exact (convK_spec (k := fun v => k v M nx) g s).eff s rfl
theorem builtK_spec {b : Builtin} {xs : Array Operand} {ts : Array TypeId} {k : AV → Mem → Nat → Bool} (h : builtK P T fr M nx b xs ts k = true) (s : Rel T c ρ fr ds M nx a w) : Eff P c ρ a w (.call ⟨.builtin b, xs, ts⟩) k := by
  obtain ⟨xs⟩ := xs
  obtain ⟨ts⟩ := ts
  cases b <;> first
    | cases h
    | exact (minK_spec (k := fun v => k v M nx) h s).eff s trivial
    | exact (maxK_spec (k := fun v => k v M nx) h s).eff s trivial
    | skip
  · match xs, ts, h with
    | [x, y], [t, tx], h => exact appendK_spec h s
  · match xs, ts, h with
    | [x, y], [t, _], h => exact copyK_spec h s
  · match xs, ts, h with
    | [x, y], [t, _], h => exact deleteK_spec h s
  · match xs, ts, h with
    | [x], [t], h => exact (lenK_spec (k := fun v => k v M nx) h s).eff s rfl
theorem opK_spec {op : Op} {k : AV → Mem → Nat → Bool} (h : opK P T fr M nx op k = true) (s : Rel T c ρ fr ds M nx a w) : Eff P c ρ a w op k := by
  cases op with
  | move x => exact (moveK (k := fun v => k v M nx) h s).eff s trivial
  | assign x => exact (assignK (k := fun v => k v M nx) h s).eff s trivial
  | pick => exact (pickK_spec (k := fun v => k v M nx) h s).eff s trivial
  | alloc => exact allocK_spec h s
  | box => exact boxK_spec h s
  | build => exact (buildK_spec (k := fun v => k v M nx) h s).eff s trivial
  | buildSlice => exact litK_spec h s
  | insert => exact insertK_spec h s
  | load => exact (loadK_spec (k := fun v => k v M nx) h s).eff s rfl
  | store => exact storeK_spec h s
  | sliceToArrayPointer => exact (arrPtrK_spec (k := fun v => k v M nx) h s).eff s trivial
  | nilCheck => exact (nilCheckK_spec (k := fun v => k v M nx) h s).eff s trivial
  | binOp => exact (binXK_spec (k := fun v => k v M nx) h s).eff s trivial
  | unOp => exact (unK_spec (k := fun v => k v M nx) h s).eff s trivial
  | convert => exact conv2K_spec h s
  | makeInterface => exact (mkIfcK_spec (k := fun v => k v M nx) h s).eff s trivial
  | makeFunc => exact (mkFnK_spec (k := fun v => k v M nx) h s).eff s trivial
  | makeMap => exact makeMapK_spec h s
  | makeSlice => exact makeSlK_spec h s
  | slice => exact (sliceK_spec (k := fun v => k v M nx) h s).eff s trivial
  | fieldAddr => exact (fieldAddrK_spec (k := fun v => k v M nx) h s).eff s trivial
  | field => exact (fieldK_spec (k := fun v => k v M nx) h s).eff s trivial
  | indexAddr => exact (indexAddrK_spec (k := fun v => k v M nx) h s).eff s trivial
  | index => exact (indexK_spec (k := fun v => k v M nx) h s).eff s trivial
  | lookup => exact (lookupK_spec (k := fun v => k v M nx) h s).eff s rfl
  | mapUpdate => exact mapUpdK_spec h s
  | mapEntry => exact mapEntK_spec h s
  | entryStore => exact entStK_spec h s
  | range => exact rangeK_spec h s
  | next => exact nextK_spec h s
  | entry => exact (entryK_spec (k := fun v => k v M nx) h s).eff s rfl
  | typeAssert => exact (assertK_spec (k := fun v => k v M nx) h s).eff s trivial
  | extract => exact (extractK_spec (k := fun v => k v M nx) h s).eff s trivial
  | call cl =>
    obtain ⟨cal, xs, ts⟩ := cl
    cases cal with
    | builtin b => exact builtK_spec h s
    | value f => cases h
    | invoke r m => cases h
  | _ => cases h
end

/-! ### outcomes, exits -/
inductive Oc where
  | ret (v : AV)
  | pan (v : AV)
inductive Ex where
  | normal
  | exit (id : Nat)
  | ret
  | pan (v : AV)
abbrev Kt := Ex → Tr AV → List AD → Mem → Nat → Bool
abbrev EvT := Code → Nat → Bool → Tr AV → List AD → Mem → Nat → Kt → Bool
def ExR (ρ : Env) : Ex → Exit → Prop
  | .normal, e => e = .normal
  | .exit id, e => e = .exit id
  | .ret, e => e = .ret
  | .pan v, e => ∃ r, ren ρ v = some r ∧ e = .panic [{ v := r, recovered := false }]
def OcR (ρ : Env) : Oc → Ending → Prop
  | .ret v, e => ∃ r, ren ρ v = some r ∧ e = .returned r
  | .pan v, e => ∃ r, ren ρ v = some r ∧ e = .panicked [{ v := r, recovered := false }]
def Post (T : Tabs P) (c : Cn) (ρ : Env) (K : Kt) : Exit → Act → World → Prop := fun e a w => ∃ ρ' x fr ds M, Ext ρ ρ' ∧ ExR ρ' x e ∧ K x fr ds M ρ'.length = true ∧ Rl T c ρ' fr ds M ρ'.length a w
def Good (T : Tabs P) (ih : EvT) : Prop := ∀ code N inR fr ds M nx K, ih code N inR fr ds M nx K = true → ∀ (c : Cn) ρ a w, c.N = N → (inR = false → c.ro = none) → Rl T c ρ fr ds M nx a w → code.wpIn (FW c.ro) 0 P (Post T c ρ K) a w
/-- What a call leaves. -/
def CallPost (T : Tabs P) (hF : Hp) (ρ : Env) (w : World) (Kc : Oc → Mem → Nat → Bool) : Ending → World → Prop := fun e w' => ∃ ρ' oc M, Ext ρ ρ' ∧ OcR ρ' oc e ∧ Kc oc M ρ'.length = true ∧ Rep ρ' M hF w' ∧ Same w w'
theorem Post.mono {T : Tabs P} {c : Cn} {ρ ρ' : Env} {K : Kt} {e : Exit} {a : Act} {w : World} (x : Ext ρ ρ') (h : Post T c ρ' K e a w) : Post T c ρ K e a w := by
  obtain ⟨ρ'', x', fr, ds, M, h1, h2⟩ := h
  exact ⟨ρ'', x', fr, ds, M, x.trans h1, h2⟩

/-! ### slots -/
def putK (N : Nat) (fr : Tr AV) (d : Option Tmp) (v : AV) (k : Tr AV → Bool) : Bool := Option.rec (k fr) (fun d => both (Nat.blt d N) (fr.set d v k)) d
theorem putK_spec {N : Nat} {fr : Tr AV} {d : Option Tmp} {v : AV} {k : Tr AV → Bool} (h : putK N fr d v k = true) {ρ : Env} {a : Act} {r : Value} (ha : a.tmps.size = N) (hs : Fk ρ fr a.tmps) (hr : ren ρ v = some r) : ∃ fr', k fr' = true ∧ Fk ρ fr' (a.put d r).tmps := by
  cases d with
  | none => exact ⟨fr, h, hs⟩
  | some d =>
    obtain ⟨h1, h2⟩ := both_eq.1 (show both (Nat.blt d N) (fr.set d v k) = true from h)
    rw [Nat.blt_eq] at h1
    obtain ⟨fr', h3, h4⟩ := Tr.set_spec h2
    exact ⟨fr', h4, hs.set h3 (by omega) hr⟩
theorem put_size (a : Act) (d : Option Tmp) (v : Value) : (a.put d v).tmps.size = a.tmps.size := by cases d <;> simp [Act.put]
theorem put_defers (a : Act) (d : Option Tmp) (v : Value) : (a.put d v).defers = a.defers := by cases d <;> rfl
/-- Is the operation wanted? -/
def wantK (ops : List Oper) (fr : Tr AV) (g : Option (Nat × Bool)) (yes no : Bool) : Bool := Option.rec yes (fun p => Prod.rec (fun j want => Option.rec false (fun o => Option.rec false (fun t => Option.rec false (fun v => match v with
  | .bool b => Bool.rec (Bool.rec yes no want) (Bool.rec no yes want) b
  | .tup [] => no
  | _ => false) (fr.get t)) (Oper.rec (fun d _ _ _ _ _ => d) o)) (nth ops j)) p) g
theorem oper_dst (o : Oper) : (Oper.rec (fun d _ _ _ _ _ => d) o : Option Tmp) = o.dst := by cases o; rfl
theorem wantK_spec {ops : List Oper} {fr : Tr AV} {g : Option (Nat × Bool)} {yes no : Bool} (h : wantK ops fr g yes no = true) {ρ : Env} {a : Act} (hs : Fk ρ fr a.tmps) : ∃ b, cond b yes no = true ∧ ∀ d op ty pos af, Region.wanted ⟨d, op, ty, pos, af, g⟩ (yielded ops.toArray a.tmps) = b := by
  cases g with
  | none => exact ⟨true, h, fun d op ty pos af => by simp [Region.wanted]⟩
  | some p =>
    obtain ⟨j, want⟩ := p
    obtain ⟨o, h1, h⟩ := opt_rec (show (Option.rec false (fun o => Option.rec false (fun t => Option.rec false (fun v => match v with
      | .bool b => Bool.rec (Bool.rec yes no want) (Bool.rec no yes want) b
      | .tup [] => no
      | _ => false) (fr.get t)) (Oper.rec (fun d _ _ _ _ _ => d) o)) (nth ops j) : Bool) = true from h)
    obtain ⟨t, h2, h⟩ := opt_rec h
    obtain ⟨v, h3, h⟩ := opt_rec h
    rw [oper_dst] at h2
    rw [nth_eq] at h1
    obtain ⟨r, h4, h5⟩ := hs t v h3
    have hj : (ops[j]?.bind fun x => x.dst) = some t := by simp [h1, h2]
    have hy : ∀ d op ty pos af, Region.wanted ⟨d, op, ty, pos, af, some (j, want)⟩ (yielded ops.toArray a.tmps) = (yielded ops.toArray a.tmps j == some want) := fun d op ty pos af => rfl
    split at h
    · rename_i b
      obtain rfl : r = .bool b := by simpa [ren] using h5.symm
      refine ⟨b == want, by cases b <;> cases want <;> exact h, fun d op ty pos af => ?_⟩
      rw [hy]
      simp [yielded, hj, h4]
    · obtain rfl : r = .tuple #[] := by simpa [ren, renL] using h5.symm
      refine ⟨false, h, fun d op ty pos af => ?_⟩
      rw [hy]
      simp [yielded, hj, h4]
    · cases h
end
end Go.Ev
