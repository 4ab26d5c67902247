/- The evaluator, part R: the evaluator itself. -/
import Derived.Test.YtabnachcikdhoaaEvQ
set_option linter.unusedSimpArgs false
set_option linter.unusedVariables false
namespace Go.Ev
open Go.Sl
noncomputable section
variable {P : Program}

/-! ### operations but calls -/
def litK (P : Program) (T : Tabs P) (fr : Tr AV) (M : Mem) (nx : Nat) (t : TypeId) (len : Nat) (parts : Array (Nat × Operand)) (k : AV → Mem → Nat → Bool) : Bool := match parts with
  | ⟨[]⟩ => (match len with
    | 0 => sliceLit0K T M nx t k
    | n + 1 => sliceLitK P T fr M nx t (n + 1) #[] k)
  | ⟨p :: ps⟩ => sliceLitK P T fr M nx t len ⟨p :: ps⟩ k
def conv2K (P : Program) (T : Tabs P) (fr : Tr AV) (M : Mem) (nx : Nat) (ts td : TypeId) (x : Operand) (k : AV → Mem → Nat → Bool) : Bool := Option.rec false (fun r => match r with
  | ⟨.sl _, _, _⟩ => toSlK T fr M nx ts td x k
  | _ => convK P T fr M ts td x fun v => k v M nx) (T.T td)
def builtK (P : Program) (T : Tabs P) (fr : Tr AV) (M : Mem) (nx : Nat) (b : Builtin) (xs : Array Operand) (ts : Array TypeId) (k : AV → Mem → Nat → Bool) : Bool := match b with
  | .len => (match xs, ts with
    | ⟨[x]⟩, ⟨[t]⟩ => lenK T fr M t x fun v => k v M nx
    | _, _ => false)
  | .append => (match xs, ts with
    | ⟨[x, y]⟩, ⟨[t, tx]⟩ => appendK P T fr M nx t tx x y k
    | _, _ => false)
  | .copy => (match xs, ts with
    | ⟨[x, y]⟩, ⟨[t, _]⟩ => copyK T fr M nx t x y k
    | _, _ => false)
  | .delete => (match xs, ts with
    | ⟨[x, y]⟩, ⟨[t, _]⟩ => deleteK P T fr M nx t x y k
    | _, _ => false)
  | .min => minK P T fr xs fun v => k v M nx
  | .max => maxK P T fr xs fun v => k v M nx
  | _ => false
def opK (P : Program) (T : Tabs P) (fr : Tr AV) (M : Mem) (nx : Nat) (op : Op) (k : AV → Mem → Nat → Bool) : Bool := match op with
  | .move x => argK T fr x fun v => k v M nx
  | .assign x => argK T fr x fun v => k v M nx
  | .pick c x y => pickK T fr c x y fun v => k v M nx
  | .alloc t => allocK P M nx t k
  | .box t x => boxK T fr M nx t x k
  | .sliceToArrayPointer t x => arrPtrK T fr t x fun v => k v M nx
  | .build t parts => buildK P T fr t parts fun v => k v M nx
  | .buildSlice t len parts => litK P T fr M nx t len parts k
  | .insert t m x y => mapUpdK P T fr M nx t m x y k
  | .load t x => loadK T fr M t x fun v => k v M nx
  | .store t x y => storeK T fr M nx t x y k
  | .nilCheck x => nilCheckK T fr x fun v => k v M nx
  | .binOp op tx x y _ => binXK P T fr op tx x y fun v => k v M nx
  | .unOp op _ x => unK P T fr op x fun v => k v M nx
  | .convert ts td x => conv2K P T fr M nx ts td x k
  | .makeInterface t x => mkIfcK T fr t x fun v => k v M nx
  | .makeFunc f xs ys => mkFnK T fr f xs ys fun v => k v M nx
  | .makeMap t r => makeMapK T fr M nx t r k
  | .makeSlice t l c => makeSlK P T fr M nx t l c k
  | .slice t x lo hi mx => sliceK P T fr t x lo hi mx fun v => k v M nx
  | .fieldAddr t x f => fieldAddrK T fr t x f fun v => k v M nx
  | .field t x f => fieldK T fr t x f fun v => k v M nx
  | .indexAddr t x y => indexAddrK T fr t x y fun v => k v M nx
  | .index t x y => indexK T fr t x y fun v => k v M nx
  | .lookup t x y ok => lookupK P T fr M t x y ok fun v => k v M nx
  | .mapUpdate t m x y => mapUpdK P T fr M nx t m x y k
  | .mapEntry t m x => mapEntK P T fr M nx t m x k
  | .entryStore _ m s x => entStK T fr M nx m s x k
  | .range t x => rangeK T fr M nx t x k
  | .next it s => nextK T fr M nx it s k
  | .entry it => entryK T fr M it fun v => k v M nx
  | .typeAssert x _ t ok => assertK P T fr x t ok fun v => k v M nx
  | .extract x i => extractK T fr x i fun v => k v M nx
  | .call c => (match c with
    | ⟨.builtin b, xs, ts⟩ => builtK P T fr M nx b xs ts k
    | _ => false)
  | _ => false
section
variable {T : Tabs P} {c : Cn} {ρ : Env} {fr : Tr AV} {ds : List AD} {M : Mem} {nx : Nat} {a : Act} {w : World}
theorem litK_spec {t : TypeId} {len : Nat} {parts : Array (Nat × Operand)} {k : AV → Mem → Nat → Bool} (h : litK P T fr M nx t len parts k = true) (s : Rel T c ρ fr ds M nx a w) : Eff P c ρ a w (.buildSlice t len parts) k := by
  obtain ⟨l⟩ := parts
  cases l with
  | nil => cases len with
    | zero => exact sliceLit0K_spec h s
    | succ n => exact sliceLitK_spec h s
  | cons p ps => exact sliceLitK_spec h s
theorem conv2K_spec {ts td : TypeId} {x : Operand} {k : AV → Mem → Nat → Bool} (h : conv2K P T fr M nx ts td x k = true) (s : Rel T c ρ fr ds M nx a w) : Eff P c ρ a w (.convert ts td x) k := by
  obtain ⟨⟨d, _, _⟩, h1, g⟩ := opt_rec h
  cases d <;> first | exact toSlK_spec g s | exact (convK_spec (k := fun v => k v M nx) g s).eff s rfl
theorem builtK_spec {b : Builtin} {xs : Array Operand} {ts : Array TypeId} {k : AV → Mem → Nat → Bool} (h : builtK P T fr M nx b xs ts k = true) (s : Rel T c ρ fr ds M nx a w) : Eff P c ρ a w (.call ⟨.builtin b, xs, ts⟩) k := by
  obtain ⟨xs⟩ := xs
  obtain ⟨ts⟩ := ts
  cases b <;> first
    | cases h
    | exact (minK_spec (k := fun v => k v M nx) h s).eff s trivial
    | exact (maxK_spec (k := fun v => k v M nx) h s).eff s trivial
    | skip
  · match xs, ts, h with
    | [x, y], [t, tx], h => exact appendK_spec h s
  · match xs, ts, h with
    | [x, y], [t, _], h => exact copyK_spec h s
  · match xs, ts, h with
    | [x, y], [t, _], h => exact deleteK_spec h s
  · match xs, ts, h with
    | [x], [t], h => exact (lenK_spec (k := fun v => k v M nx) h s).eff s rfl
theorem opK_spec {op : Op} {k : AV → Mem → Nat → Bool} (h : opK P T fr M nx op k = true) (s : Rel T c ρ fr ds M nx a w) : Eff P c ρ a w op k := by
  cases op with
  | move x => exact (moveK (k := fun v => k v M nx) h s).eff s trivial
  | assign x => exact (assignK (k := fun v => k v M nx) h s).eff s trivial
  | pick => exact (pickK_spec (k := fun v => k v M nx) h s).eff s trivial
  | alloc => exact allocK_spec h s
  | box => exact boxK_spec h s
  | build => exact (buildK_spec (k := fun v => k v M nx) h s).eff s trivial
  | buildSlice => exact litK_spec h s
  | insert => exact insertK_spec h s
  | load => exact (loadK_spec (k := fun v => k v M nx) h s).eff s rfl
  | store => exact storeK_spec h s
  | sliceToArrayPointer => exact (arrPtrK_spec (k := fun v => k v M nx) h s).eff s trivial
  | nilCheck => exact (nilCheckK_spec (k := fun v => k v M nx) h s).eff s trivial
  | binOp => exact (binXK_spec (k := fun v => k v M nx) h s).eff s trivial
  | unOp => exact (unK_spec (k := fun v => k v M nx) h s).eff s trivial
  | convert => exact conv2K_spec h s
  | makeInterface => exact (mkIfcK_spec (k := fun v => k v M nx) h s).eff s trivial
  | makeFunc => exact (mkFnK_spec (k := fun v => k v M nx) h s).eff s trivial
  | makeMap => exact makeMapK_spec h s
  | makeSlice => exact makeSlK_spec h s
  | slice => exact (sliceK_spec (k := fun v => k v M nx) h s).eff s trivial
  | fieldAddr => exact (fieldAddrK_spec (k := fun v => k v M nx) h s).eff s trivial
  | field => exact (fieldK_spec (k := fun v => k v M nx) h s).eff s trivial
  | indexAddr => exact (indexAddrK_spec (k := fun v => k v M nx) h s).eff s trivial
  | index => exact (indexK_spec (k := fun v => k v M nx) h s).eff s trivial
  | lookup => exact (lookupK_spec (k := fun v => k v M nx) h s).eff s rfl
  | mapUpdate => exact mapUpdK_spec h s
  | mapEntry => exact mapEntK_spec h s
  | entryStore => exact entStK_spec h s
  | range => exact rangeK_spec h s
  | next => exact nextK_spec h s
  | entry => exact (entryK_spec (k := fun v => k v M nx) h s).eff s rfl
  | typeAssert => exact (assertK_spec (k := fun v => k v M nx) h s).eff s trivial
  | extract => exact (extractK_spec (k := fun v => k v M nx) h s).eff s trivial
  | call cl =>
    obtain ⟨cal, xs, ts⟩ := cl
    cases cal with
    | builtin b => exact builtK_spec h s
    | value f => cases h
    | invoke r m => cases h
  | _ => cases h
end

/-! ### outcomes, exits -/
inductive Oc where
  | ret (v : AV)
  | pan (v : AV)
inductive Ex where
  | normal
  | exit (id : Nat)
  | ret
  | pan (v : AV)
abbrev Kt := Ex → Tr AV → List AD → Mem → Nat → Bool
abbrev EvT := Code → Nat → Bool → Tr AV → List AD → Mem → Nat → Kt → Bool
def ExR (ρ : Env) : Ex → Exit → Prop
  | .normal, e => e = .normal
  | .exit id, e => e = .exit id
  | .ret, e => e = .ret
  | .pan v, e => ∃ r, ren ρ v = some r ∧ e = .panic [{ v := r, recovered := false }]
def OcR (ρ : Env) : Oc → Ending → Prop
  | .ret v, e => ∃ r, ren ρ v = some r ∧ e = .returned r
  | .pan v, e => ∃ r, ren ρ v = some r ∧ e = .panicked [{ v := r, recovered := false }]
def Post (T : Tabs P) (c : Cn) (ρ : Env) (K : Kt) : Exit → Act → World → Prop := fun e a w => ∃ ρ' x fr ds M, Ext ρ ρ' ∧ ExR ρ' x e ∧ K x fr ds M ρ'.length = true ∧ Rl T c ρ' fr ds M ρ'.length a w
def Good (T : Tabs P) (ih : EvT) : Prop := ∀ code N inR fr ds M nx K, ih code N inR fr ds M nx K = true → ∀ (c : Cn) ρ a w, c.N = N → (inR = false → c.ro = none) → Rl T c ρ fr ds M nx a w → code.wpIn (FW c.ro) 0 P (Post T c ρ K) a w
/-- What a call leaves. -/
def CallPost (T : Tabs P) (hF : Hp) (ρ : Env) (w : World) (Kc : Oc → Mem → Nat → Bool) : Ending → World → Prop := fun e w' => ∃ ρ' oc M, Ext ρ ρ' ∧ OcR ρ' oc e ∧ Kc oc M ρ'.length = true ∧ Rep ρ' M hF w' ∧ Same w w'
theorem Post.mono {T : Tabs P} {c : Cn} {ρ ρ' : Env} {K : Kt} {e : Exit} {a : Act} {w : World} (x : Ext ρ ρ') (h : Post T c ρ' K e a w) : Post T c ρ K e a w := by
  obtain ⟨ρ'', x', fr, ds, M, h1, h2⟩ := h
  exact ⟨ρ'', x', fr, ds, M, x.trans h1, h2⟩

/-! ### slots -/
def putK (N : Nat) (fr : Tr AV) (d : Option Tmp) (v : AV) (k : Tr AV → Bool) : Bool := Option.rec (k fr) (fun d => both (Nat.blt d N) (fr.set d v k)) d
theorem putK_spec {N : Nat} {fr : Tr AV} {d : Option Tmp} {v : AV} {k : Tr AV → Bool} (h : putK N fr d v k = true) {ρ : Env} {a : Act} {r : Value} (ha : a.tmps.size = N) (hs : Fk ρ fr a.tmps) (hr : ren ρ v = some r) : ∃ fr', k fr' = true ∧ Fk ρ fr' (a.put d r).tmps := by
  cases d with
  | none => exact ⟨fr, h, hs⟩
  | some d =>
    obtain ⟨h1, h2⟩ := both_eq.1 (show both (Nat.blt d N) (fr.set d v k) = true from h)
    rw [Nat.blt_eq] at h1
    obtain ⟨fr', h3, h4⟩ := Tr.set_spec h2
    exact ⟨fr', h4, hs.set h3 (by omega) hr⟩
theorem put_size (a : Act) (d : Option Tmp) (v : Value) : (a.put d v).tmps.size = a.tmps.size := by cases d <;> simp [Act.put]
theorem put_defers (a : Act) (d : Option Tmp) (v : Value) : (a.put d v).defers = a.defers := by cases d <;> rfl
/-- Is the operation wanted? -/
def wantK (ops : List Oper) (fr : Tr AV) (g : Option (Nat × Bool)) (yes no : Bool) : Bool := Option.rec yes (fun p => Prod.rec (fun j want => Option.rec false (fun o => Option.rec false (fun t => Option.rec false (fun v => match v with
  | .bool b => Bool.rec (Bool.rec yes no want) (Bool.rec no yes want) b
  | .tup [] => no
  | _ => false) (fr.get t)) (Oper.rec (fun d _ _ _ _ _ => d) o)) (nth ops j)) p) g
theorem oper_dst (o : Oper) : (Oper.rec (fun d _ _ _ _ _ => d) o : Option Tmp) = o.dst := by cases o; rfl
theorem wantK_spec {ops : List Oper} {fr : Tr AV} {g : Option (Nat × Bool)} {yes no : Bool} (h : wantK ops fr g yes no = true) {ρ : Env} {a : Act} (hs : Fk ρ fr a.tmps) : ∃ b, cond b yes no = true ∧ ∀ d op ty pos af, Region.wanted ⟨d, op, ty, pos, af, g⟩ (yielded ops.toArray a.tmps) = b := by
  cases g with
  | none => exact ⟨true, h, fun d op ty pos af => by simp [Region.wanted]⟩
  | some p =>
    obtain ⟨j, want⟩ := p
    obtain ⟨o, h1, h⟩ := opt_rec (show (Option.rec false (fun o => Option.rec false (fun t => Option.rec false (fun v => match v with
      | .bool b => Bool.rec (Bool.rec yes no want) (Bool.rec no yes want) b
      | .tup [] => no
      | _ => false) (fr.get t)) (Oper.rec (fun d _ _ _ _ _ => d) o)) (nth ops j) : Bool) = true from h)
    obtain ⟨t, h2, h⟩ := opt_rec h
    obtain ⟨v, h3, h⟩ := opt_rec h
    rw [oper_dst] at h2
    rw [nth_eq] at h1
    obtain ⟨r, h4, h5⟩ := hs t v h3
    have hj : (ops[j]?.bind fun x => x.dst) = some t := by simp [h1, h2]
    have hy : ∀ d op ty pos af, Region.wanted ⟨d, op, ty, pos, af, some (j, want)⟩ (yielded ops.toArray a.tmps) = (yielded ops.toArray a.tmps j == some want) := fun d op ty pos af => rfl
    split at h
    · rename_i b
      obtain rfl : r = .bool b := by simpa [ren] using h5.symm
      refine ⟨b == want, by cases b <;> cases want <;> exact h, fun d op ty pos af => ?_⟩
      rw [hy]
      simp [yielded, hj, h4]
    · obtain rfl : r = .tuple #[] := by simpa [ren, renL] using h5.symm
      refine ⟨false, h, fun d op ty pos af => ?_⟩
      rw [hy]
      simp [yielded, hj, h4]
    · cases h
end
end Go.Ev
