/- The evaluator, part X1: functions without a body: the place of a byte, bytes compared, a map's clone. -/
import Derived.Test.YtppdclebbcmcaaaEvS
set_option linter.unusedSimpArgs false
set_option linter.unusedVariables false
namespace Go.Ev
open Go.Sl
noncomputable section
variable {P : Program}
abbrev Ky := List UInt8
def IsExt (P : Program) (f : Nat) (e : Array Value → Sem Value) : Prop := ∃ fn, P.funcs[f]? = some fn ∧ fn.body = none ∧ (fn.name == "runtime.NumGoroutine") = false ∧ (Extern.findNext fn).isNone = true ∧ Extern.find fn = some e
theorem isExt_run {f : Nat} {e : Array Value → Sem Value} (h : IsExt P f e) {rs : Array Value} {v : Value} {w w' : World} (hr : (e rs).run P w = .ok v w') : (callFunc f rs).run P w = .ok (.value v) w' := by
  obtain ⟨fn, hfn, hb, hn, hx, he⟩ := h
  have h1 : Extern.findNext fn = none := by simpa using hx
  have hn' : ¬ fn.name = "runtime.NumGoroutine" := by simpa using hn
  simp only [callFunc, hfn, hb, h1, he, mark]
  have hm : (Sem.mark (Mark.extern f) (Sem.pure ()) : Sem Unit).run P w = .ok () w := rfl
  simp [hn', hfn, hb, h1, he, hm, hr]
/-- What a function without a body leaves. -/
def XPost (P : Program) (ρ : Env) (hF : Hp) (w : World) (s : Sem Value) (k : AV → Mem → Nat → Bool) : Prop := ∃ ρ' v r M' w', Ext ρ ρ' ∧ ren ρ' v = some r ∧ k v M' ρ'.length = true ∧ Rep ρ' M' hF w' ∧ Same w w' ∧ s.run P w = .ok r w'
theorem XPost.pure {ρ : Env} {hF : Hp} {w : World} {s : Sem Value} {k : AV → Mem → Nat → Bool} {M : Mem} {v : AV} {r : Value} (hv : ren ρ v = some r) (hk : k v M ρ.length = true) (hr : Rep ρ M hF w) (h : s.run P w = .ok r w) : XPost P ρ hF w s k := ⟨ρ, v, r, M, w, .refl ρ, hv, hk, hr, .refl w, h⟩

/-! ### the bytes of a text or a slice -/
theorem ba_get? (s : Ky) (i : Nat) : (⟨⟨s⟩⟩ : ByteArray)[i]? = s[i]? := by
  by_cases h : i < s.length
  · have h' : i < (⟨⟨s⟩⟩ : ByteArray).size := h
    rw [List.getElem?_eq_getElem h, getElem?_pos (⟨⟨s⟩⟩ : ByteArray) i h']; rfl
  · have h' : ¬ i < (⟨⟨s⟩⟩ : ByteArray).size := h
    rw [List.getElem?_eq_none (by omega), getElem?_neg (⟨⟨s⟩⟩ : ByteArray) i h']
theorem ba_get! (s : Ky) (i : Nat) : (⟨⟨s⟩⟩ : ByteArray)[i]! = s[i]?.getD default := by
  rw [getElem!_def, ba_get?]
  cases s[i]? <;> rfl
theorem push_append (a : Ky) (c : UInt8) : (⟨⟨a⟩⟩ : ByteArray).push c = ⟨⟨a ++ [c]⟩⟩ := by
  show (⟨⟨List.concat a c⟩⟩ : ByteArray) = _
  rw [List.concat_eq_append]
theorem run_loadBytes {w : World} {b : Nat} {l : List Value} {e : TypeId} {fz : Nat × Nat} (h : w.heap[b]? = some (.cells ⟨l⟩ e fz)) : ∀ (x : Ky) (o : Nat) (acc : Ky), At l o (u8s x) →
    (Extern.Bytes.loadBytes ⟨b, o, none⟩ x.length ⟨⟨acc⟩⟩).run P w = .ok ⟨⟨acc ++ x⟩⟩ w
  | [], o, acc, _ => by simp [Extern.Bytes.loadBytes]
  | c :: x, o, acc, hA => by
    have h0 : l[o]? = some (.int .u8 c.toNat) := by have := hA 0 _ (show (u8s (c :: x))[0]? = some (.int .u8 c.toNat) from rfl); simpa using this
    have hc : w.cell? ⟨b, o, none⟩ = some (.int .u8 c.toNat) := by rw [cell_of h]; exact h0
    have hA' : At l (o + 1) (u8s x) := fun j v hj => by
      have := hA (j + 1) v (show (u8s (c :: x))[j + 1]? = some v from hj)
      rwa [show o + (j + 1) = o + 1 + j by omega] at this
    have ih := run_loadBytes h x (o + 1) (acc ++ [c]) hA'
    have e : ((c.toNat : Int).toNat).toUInt8 = c := by simp
    have hadd : (⟨b, o, none⟩ : Addr).add 1 = ⟨b, o + 1, none⟩ := Addr.add_mid ..
    have hl : (load ⟨b, o, none⟩ : Sem Value).run P w = .ok (.int .u8 c.toNat) w := by simp [load, Sem.run, hc]
    simp only [List.length_cons, Extern.Bytes.loadBytes, Sem.run_bind, hl, Result.andThen_ok]
    rw [hadd, e, push_append]
    rw [ih]; simp
def bytesA (M : Mem) (v : AV) (k : List Nat → Bool) : Bool := match v with
  | .str l => k l
  | .nils => k []
  | .sl i o n _ _ => bytesK M i o n k
  | .em _ _ _ _ => k []
  | _ => false
theorem bytesA_spec {M : Mem} {v : AV} {k : List Nat → Bool} (h : bytesA M v k = true) {ρ : Env} {hF : Hp} {w : World} {r : Value} (hr : Rep ρ M hF w) (hv : ren ρ v = some r) :
    ∃ l, k l = true ∧ small l = true ∧ (Extern.Bytes.bytesOf r).run P w = .ok ⟨⟨l.map UInt8.ofNat⟩⟩ w := by
  cases v <;> try (cases h; done)
  · obtain ⟨h1, rfl⟩ := ren_str hv
    exact ⟨_, h, h1, rfl⟩
  · obtain rfl : r = .slice none 0 0 := by simpa [ren] using hv.symm
    exact ⟨[], h, rfl, rfl⟩
  · rename_i i o n c s
    simp only [ren, Option.map_eq_some_iff] at hv
    obtain ⟨e, he, rfl⟩ := hv
    obtain ⟨bs, e', cs, t, fz, h1, h2, h3, h4, h5, h6⟩ := bytesK_spec (show bytesK M i o n k = true from h) hr
    rw [he] at h4; cases h4
    refine ⟨bs, h1, h2, ?_⟩
    have := run_loadBytes (P := P) h5 (bs.map UInt8.ofNat) (e.2.1 + o) [] h6
    rw [List.length_map, h3] at this
    exact this
  · simp only [ren, Option.map_eq_some_iff] at hv
    obtain ⟨e, he, rfl⟩ := hv
    exact ⟨[], h, rfl, rfl⟩

/-! ### the place of a byte -/
def idxN (b : Nat) (l : List Nat) : Nat → Option Nat := List.rec (fun _ => none) (fun x _ ih i => Bool.rec (ih (Nat.succ i)) (some i) (Nat.beq x b)) l
theorem idxN_spec {b : Nat} (hb : b < 256) : ∀ {l : List Nat} {i : Nat}, small l = true → idxN b l i = ((l.map UInt8.ofNat).findIdx? (· == UInt8.ofNat b)).map (· + i)
  | [], i, _ => rfl
  | x :: l, i, h => by
    obtain ⟨h1, h2⟩ := small_cons h
    show (Bool.rec (idxN b l (i + 1)) (some i) (Nat.beq x b) : Option Nat) = _
    rw [List.map_cons, List.findIdx?_cons]
    cases q : Nat.beq x b with
    | true =>
      have := Nat.eq_of_beq_eq_true q
      subst this
      simp
    | false =>
      have hne : (UInt8.ofNat x == UInt8.ofNat b) = false := by
        rw [beq_eq_false_iff_ne]
        intro e
        rw [(u8_inj h1 hb).1 e] at q
        simp at q
      rw [hne]
      show idxN b l (i + 1) = _
      rw [idxN_spec hb h2]
      simp only [Bool.false_eq_true, if_false, Option.map_map]
      congr 1
      funext y; simp; omega
theorem range_find (s : Ky) (c : UInt8) : ((List.range s.length).find? fun i => (⟨⟨s⟩⟩ : ByteArray)[i]! == c) = s.findIdx? (· == c) := by
  cases h : s.findIdx? (· == c) with
  | none =>
    rw [List.find?_eq_none]
    intro i hi
    have hi : i < s.length := by simpa using hi
    rw [ba_get!, List.getElem?_eq_getElem hi]
    have := List.findIdx?_eq_none_iff.1 h s[i] (List.getElem_mem hi)
    simpa using this
  | some i =>
    obtain ⟨hi, h1, h2⟩ := List.findIdx?_eq_some_iff_getElem.1 h
    rw [List.find?_range_eq_some]
    refine ⟨?_, by simpa using hi, fun j hj => ?_⟩
    · rw [ba_get!, List.getElem?_eq_getElem hi]; simpa using h1
    · rw [ba_get!, List.getElem?_eq_getElem (by omega)]
      have := h2 j hj
      simpa using this
def idxK (vs : List AV) (M : Mem) (nx : Nat) (k : AV → Mem → Nat → Bool) : Bool := match vs with
  | [x, .int .u8 (.ofNat b)] => both (Nat.blt b 256) (bytesA M x fun l => Option.rec (k (.int .i64 (.negSucc 0)) M nx) (fun i => forceN i fun i => k (.int .i64 (.ofNat i)) M nx) (idxN b l 0))
  | _ => false
theorem idxK_spec {vs : List AV} {M : Mem} {nx : Nat} {k : AV → Mem → Nat → Bool} (h : idxK vs M nx k = true) {ρ : Env} {hF : Hp} {w : World} {rs : List Value} (hr : Rep ρ M hF w) (hn : ρ.length = nx) (hv : RL ρ vs rs) : XPost P ρ hF w (Extern.BytealgIndexByte.indexByte rs.toArray) k := by
  unfold idxK at h
  split at h
  case h_2 => cases h
  rename_i x b
  obtain ⟨h1, h⟩ := both_eq.1 h
  rw [Nat.blt_eq] at h1
  obtain ⟨r, rs', rfl, hx, hv⟩ := hv.out
  obtain ⟨r2, rs'', rfl, hb, hv⟩ := hv.out
  obtain rfl := hv.outNil
  obtain rfl : r2 = .int .u8 (.ofNat b) := by simpa [ren] using hb.symm
  obtain ⟨l, h2, h3, h4⟩ := bytesA_spec (P := P) h hr hx
  have hi := idxN_spec h1 (i := 0) h3
  have hf := range_find (l.map UInt8.ofNat) (UInt8.ofNat b)
  have run : ∀ o, ((List.range (l.map UInt8.ofNat).length).find? fun i => (⟨⟨l.map UInt8.ofNat⟩⟩ : ByteArray)[i]! == UInt8.ofNat b) = o → (Extern.BytealgIndexByte.indexByte [r, .int .u8 (.ofNat b)].toArray).run P w = .ok (match o with | some i => goInt i | none => goInt (-1)) w := fun o ho => by
    have h0 : Extern.BytealgIndexByte.indexByte [r, .int .u8 (.ofNat b)].toArray = (do
      let z ← Extern.Bytes.bytesOf r
      let c ← Extern.Bytes.asByte (.int .u8 (.ofNat b))
      match (List.range z.size).find? fun i => z[i]! == c with
      | some i => pure (goInt i)
      | none => pure (goInt (-1))) := rfl
    have h1 : Extern.Bytes.asByte (.int .u8 (.ofNat b)) = pure (UInt8.ofNat b) := rfl
    rw [h0, Sem.run_bind, h4, h1]
    have ho' : ((List.range (⟨⟨l.map UInt8.ofNat⟩⟩ : ByteArray).size).find? fun i => (⟨⟨l.map UInt8.ofNat⟩⟩ : ByteArray)[i]! == UInt8.ofNat b) = o := ho
    simp only [Result.andThen_ok, pure_bind, ho']
    cases o <;> rfl
  have hrun := run _ rfl
  rw [hf] at hrun
  cases q : (l.map UInt8.ofNat).findIdx? (· == UInt8.ofNat b) with
  | none =>
    rw [q] at hrun hi
    rw [hi] at h2
    exact XPost.pure (v := .int .i64 (.negSucc 0)) rfl (by rw [hn]; exact h2) hr hrun
  | some i =>
    rw [q] at hrun hi
    rw [hi] at h2
    have h2 : (forceN i fun i => k (.int .i64 (.ofNat i)) M nx) = true := h2
    rw [forceN_eq] at h2
    exact XPost.pure (v := .int .i64 (.ofNat i)) rfl (by rw [hn]; exact h2) hr hrun

/-! ### bytes compared -/
def cmpI (x y : Ky) : Int := Extern.BytealgCompare.cmp ⟨⟨x⟩⟩ ⟨⟨y⟩⟩
theorem cmpI_nil (x : Ky) : cmpI x [] = if 0 < x.length then 1 else 0 := by
  cases x <;> rfl
theorem cmpI_nil' (y : Ky) : cmpI [] y = if 0 < y.length then -1 else 0 := by
  cases y <;> rfl
theorem cmpI_cons (c d : UInt8) (x y : Ky) : cmpI (c :: x) (d :: y) = if c = d then cmpI x y else if c < d then -1 else 1 := by
  unfold cmpI Extern.BytealgCompare.cmp
  have hs : min (⟨⟨c :: x⟩⟩ : ByteArray).size (⟨⟨d :: y⟩⟩ : ByteArray).size = min x.length y.length + 1 := by
    show min (x.length + 1) (y.length + 1) = _; omega
  have hs2 : min (⟨⟨x⟩⟩ : ByteArray).size (⟨⟨y⟩⟩ : ByteArray).size = min x.length y.length := rfl
  rw [hs, hs2, List.range_succ_eq_map, List.find?_cons]
  have e0 : ∀ (a : UInt8) (z : Ky), (⟨⟨a :: z⟩⟩ : ByteArray)[0]! = a := fun a z => by rw [ba_get!]; rfl
  have e1 : ∀ (a : UInt8) (z : Ky) (i : Nat), (⟨⟨a :: z⟩⟩ : ByteArray)[i + 1]! = (⟨⟨z⟩⟩ : ByteArray)[i]! := fun a z i => by rw [ba_get!, ba_get!]; rfl
  by_cases h : c = d
  · subst h
    rw [e0, e0]
    simp only [bne_self_eq_false, List.find?_map, Function.comp_def, Nat.succ_eq_add_one, e1, if_true]
    cases hf : (List.range (min x.length y.length)).find? fun i => (⟨⟨x⟩⟩ : ByteArray)[i]! != (⟨⟨y⟩⟩ : ByteArray)[i]! with
    | some i => simp only [Option.map_some, e1]
    | none =>
      simp only [Option.map_none]
      have : ∀ z : Ky, (⟨⟨c :: z⟩⟩ : ByteArray).size = (⟨⟨z⟩⟩ : ByteArray).size + 1 := fun z => rfl
      rw [this, this]
      simp
  · rw [e0, e0]
    simp only [show (c != d) = true by simpa using h, if_neg h]
    rw [e0, e0]
def cmpN (l : List Nat) : List Nat → Int := List.rec (fun m => List.rec (.ofNat 0) (fun _ _ _ => .negSucc 0) m) (fun x _ ih m => List.rec (.ofNat 1) (fun y t _ => Bool.rec (Bool.rec (.ofNat 1) (.negSucc 0) (Nat.blt x y)) (ih t) (Nat.beq x y)) m) l
theorem cmpN_spec : ∀ {l m : List Nat}, small l = true → small m = true → cmpI (l.map UInt8.ofNat) (m.map UInt8.ofNat) = cmpN l m
  | [], [], _, _ => rfl
  | [], y :: m, _, _ => rfl
  | x :: l, [], _, _ => rfl
  | x :: l, y :: m, h1, h2 => by
    obtain ⟨a1, a2⟩ := small_cons h1
    obtain ⟨b1, b2⟩ := small_cons h2
    rw [List.map_cons, List.map_cons, cmpI_cons]
    show _ = (Bool.rec (Bool.rec (.ofNat 1) (.negSucc 0) (Nat.blt x y)) (cmpN l m) (Nat.beq x y) : Int)
    cases q : Nat.beq x y with
    | true =>
      have := Nat.eq_of_beq_eq_true q
      subst this
      rw [if_pos rfl]; exact cmpN_spec a2 b2
    | false =>
      rw [if_neg (fun e => by rw [(u8_inj a1 b1).1 e] at q; simp at q)]
      have hlt : (UInt8.ofNat x < UInt8.ofNat y) ↔ x < y := by
        rw [UInt8.lt_iff_toNat_lt, u8_ofNat a1, u8_ofNat b1]
      cases q' : Nat.blt x y with
      | true => rw [Nat.blt_eq] at q'; rw [if_pos (hlt.2 q')]; rfl
      | false => rw [if_neg (fun e => by have := hlt.1 e; rw [← Nat.blt_eq, q'] at this; cases this)]; rfl
def cmpK (vs : List AV) (M : Mem) (nx : Nat) (k : AV → Mem → Nat → Bool) : Bool := match vs with
  | [x, y] => bytesA M x fun l => bytesA M y fun m => forceI (cmpN l m) fun c => k (.int .i64 c) M nx
  | _ => false
theorem cmpK_spec {vs : List AV} {M : Mem} {nx : Nat} {k : AV → Mem → Nat → Bool} (h : cmpK vs M nx k = true) {ρ : Env} {hF : Hp} {w : World} {rs : List Value} (hr : Rep ρ M hF w) (hn : ρ.length = nx) (hv : RL ρ vs rs) : XPost P ρ hF w (Extern.BytealgCompare.compare rs.toArray) k := by
  unfold cmpK at h
  split at h
  case h_2 => cases h
  obtain ⟨r, rs', rfl, hx, hv⟩ := hv.out
  obtain ⟨r2, rs'', rfl, hy, hv⟩ := hv.out
  obtain rfl := hv.outNil
  obtain ⟨l, h2, h3, h4⟩ := bytesA_spec (P := P) h hr hx
  obtain ⟨m, h5, h6, h7⟩ := bytesA_spec (P := P) h2 hr hy
  rw [forceI_eq] at h5
  refine XPost.pure (v := .int .i64 (cmpN l m)) rfl (by rw [hn]; exact h5) hr ?_
  have h0 : Extern.BytealgCompare.compare [r, r2].toArray = (do pure (goInt (Extern.BytealgCompare.cmp (← Extern.Bytes.bytesOf r) (← Extern.Bytes.bytesOf r2)))) := rfl
  rw [h0]
  simp only [Sem.run_bind, h4, Result.andThen_ok, h7]
  rw [← cmpN_spec h3 h6]
  rfl

/-! ### a map's clone -/
def cloneK (vs : List AV) (M : Mem) (nx : Nat) (k : AV → Mem → Nat → Bool) : Bool := match vs with
  | [.iface t (.map i)] => Option.rec false (fun ck => match ck with
    | .map es cl => M.set nx (.map es cl) fun M' => forceN (Nat.succ nx) fun nx' => k (.iface t (.map nx)) M' nx'
    | _ => false) (M.get i)
  | _ => false
theorem cloneK_spec {vs : List AV} {M : Mem} {nx : Nat} {k : AV → Mem → Nat → Bool} (h : cloneK vs M nx k = true) {ρ : Env} {hF : Hp} {w : World} {rs : List Value} (hr : Rep ρ M hF w) (hn : ρ.length = nx) (hv : RL ρ vs rs) : XPost P ρ hF w (Extern.MapsClone.clone rs.toArray) k := by
  unfold cloneK at h
  split at h
  case h_2 => cases h
  rename_i t i
  obtain ⟨r, rs', rfl, hx, hv⟩ := hv.out
  obtain rfl := hv.outNil
  obtain ⟨ck, h1, h⟩ := opt_rec h
  cases ck <;> try (cases h; done)
  rename_i es cl
  simp only [ren, Option.map_eq_some_iff] at hx
  obtain ⟨x, ⟨e, he, rfl⟩, rfl⟩ := hx
  obtain ⟨e', he', ⟨L, hL, hb⟩, _⟩ := hr.own _ _ h1
  rw [he] at he'; cases he'
  obtain ⟨M', h2, h3⟩ := Tr.set_spec h
  rw [forceN_eq] at h3
  subst hn
  have hle : le (mem w) (mem (w.alloc (.map ⟨L⟩ cl))) := le_alloc w _
  have hnew : (w.alloc (.map ⟨L⟩ cl)).heap[w.heap.size]? = some (.map ⟨L⟩ cl) := World.alloc_heap_new w _
  refine ⟨ρ ++ [(w.heap.size, 0, 0)], .iface t (.map ρ.length), .iface t (.map (some w.heap.size)), M', w.alloc (.map ⟨L⟩ cl), Ext.one _ _, by simp [ren], by rw [Env.length_app]; exact h3, hr.add h2 rfl (by simp) hle ⟨L, renM_ext (Ext.one _ _) hL, hnew⟩, .alloc w _, ?_⟩
  have hg : (getObj e.1).run P w = .ok (.map ⟨L⟩ cl) w := by simp [getObj, Sem.run, hb]
  have h0 : Extern.MapsClone.clone [Value.iface t (.map (some e.1))].toArray = (do
    let .map entries clock ← getObj e.1 | stuck "maps.clone: a map expected"
    pure (.iface t (.map (some (← newObj (.map entries clock)))))) := rfl
  rw [h0, Sem.run_bind, hg]
  rfl

/-! ### by number -/
def extOf (c : Nat) : Array Value → Sem Value := match c with
  | 0 => Extern.BytealgIndexByte.indexByte
  | 1 => Extern.BytealgCompare.compare
  | _ => Extern.MapsClone.clone
def kindK (c : Nat) (vs : List AV) (M : Mem) (nx : Nat) (k : AV → Mem → Nat → Bool) : Bool := Nat.rec (idxK vs M nx k) (fun c _ => Nat.rec (cmpK vs M nx k) (fun _ _ => cloneK vs M nx k) c) c
def xK (l : List (Nat × Nat)) (f : Nat) (vs : List AV) (M : Mem) (nx : Nat) (k : AV → Mem → Nat → Bool) : Bool := List.rec false (fun p _ ih => Prod.rec (fun g c => Bool.rec ih (kindK c vs M nx k) (Nat.beq g f)) p) l
theorem xK_ok {l : List (Nat × Nat)} (hl : ∀ p ∈ l, IsExt P p.1 (extOf p.2)) : ∀ f vs M nx k, xK l f vs M nx k = true → ∀ ρ hF w rs, Rep ρ M hF w → ρ.length = nx → RL ρ vs rs → ∃ ρ' v r M' w', Ext ρ ρ' ∧ ren ρ' v = some r ∧ k v M' ρ'.length = true ∧ Rep ρ' M' hF w' ∧ Same w w' ∧ (callFunc f rs.toArray).run P w = .ok (.value r) w' := by
  induction l with
  | nil => intro f vs M nx k h; cases h
  | cons p l ih =>
    obtain ⟨g, c⟩ := p
    intro f vs M nx k h ρ hF w rs hr hn hv
    have h : (Bool.rec (xK l f vs M nx k) (kindK c vs M nx k) (Nat.beq g f) : Bool) = true := h
    cases q : Nat.beq g f with
    | false => rw [q] at h; exact ih (fun p hp => hl p (List.mem_cons_of_mem _ hp)) f vs M nx k h ρ hF w rs hr hn hv
    | true =>
      rw [q] at h
      have := Nat.eq_of_beq_eq_true q
      subst this
      have hx := hl (g, c) List.mem_cons_self
      have key : XPost P ρ hF w (extOf c rs.toArray) k := by
        match c, h with
        | 0, h => exact idxK_spec h hr hn hv
        | 1, h => exact cmpK_spec h hr hn hv
        | _ + 2, h => exact cloneK_spec h hr hn hv
      obtain ⟨ρ', v, r, M', w', k1, k2, k3, k4, k5, k6⟩ := key
      exact ⟨ρ', v, r, M', w', k1, k2, k3, k4, k5, isExt_run hx k6⟩
end
end Go.Ev
