/- The library: bytes compared. -/
import Derived.Test.YtbbfhchceimflaaDoorLbA
set_option linter.unusedSimpArgs false
set_option linter.unusedVariables false
namespace Go.Lb
open Go Go.Sl
theorem push_append (a : Ky) (c : UInt8) : (⟨⟨a⟩⟩ : ByteArray).push c = ⟨⟨a ++ [c]⟩⟩ := by
  show (⟨⟨List.concat a c⟩⟩ : ByteArray) = _
  rw [List.concat_eq_append]
theorem run_loadBytes {P : Program} {w : World} {b : Nat} {l : List Value} {e : TypeId} {fz : Nat × Nat} (h : w.heap[b]? = some (.cells ⟨l⟩ e fz)) : ∀ (x : Ky) (o : Nat) (acc : Ky), At l o (u8s x) →
    (Extern.Bytes.loadBytes ⟨b, o, none⟩ x.length ⟨⟨acc⟩⟩).run P w = .ok ⟨⟨acc ++ x⟩⟩ w
  | [], o, acc, _ => by simp [Extern.Bytes.loadBytes]
  | c :: x, o, acc, hA => by
    have h0 : l[o]? = some (.int .u8 c.toNat) := by have := hA 0 _ (show (u8s (c :: x))[0]? = some (.int .u8 c.toNat) from rfl); simpa using this
    have hc : w.cell? ⟨b, o, none⟩ = some (.int .u8 c.toNat) := by rw [cell_of h]; exact h0
    have hA' : At l (o + 1) (u8s x) := fun j v hj => by
      have := hA (j + 1) v (show (u8s (c :: x))[j + 1]? = some v from hj)
      rwa [show o + (j + 1) = o + 1 + j by omega] at this
    have ih := run_loadBytes (P := P) h x (o + 1) (acc ++ [c]) hA'
    have e : ((c.toNat : Int).toNat).toUInt8 = c := by simp
    have hadd : (⟨b, o, none⟩ : Addr).add 1 = ⟨b, o + 1, none⟩ := Addr.add_mid ..
    have hl : (load ⟨b, o, none⟩ : Sem Value).run P w = .ok (.int .u8 c.toNat) w := by simp [load, Sem.run, hc]
    simp only [List.length_cons, Extern.Bytes.loadBytes, Sem.run_bind, hl, Result.andThen_ok]
    rw [hadd, e, push_append]
    rw [ih]; simp
theorem run_bytesOf {P : Program} {w : World} {b o c : Nat} {l : List Value} {e : TypeId} {fz : Nat × Nat} {x : Ky} (h : w.heap[b]? = some (.cells ⟨l⟩ e fz)) (hA : At l o (u8s x)) :
    (Extern.Bytes.bytesOf (.slice (some ⟨b, o, none⟩) x.length c)).run P w = .ok ⟨⟨x⟩⟩ w := by
  have := run_loadBytes (P := P) h x o [] hA
  exact this
def cmpI (x y : Ky) : Int := Extern.BytealgCompare.cmp ⟨⟨x⟩⟩ ⟨⟨y⟩⟩
theorem cmpI_nil (x : Ky) : cmpI x [] = if 0 < x.length then 1 else 0 := by
  cases x <;> rfl
theorem cmpI_nil' (y : Ky) : cmpI [] y = if 0 < y.length then -1 else 0 := by
  cases y <;> rfl
theorem cmpI_cons (c d : UInt8) (x y : Ky) : cmpI (c :: x) (d :: y) = if c = d then cmpI x y else if c < d then -1 else 1 := by
  unfold cmpI Extern.BytealgCompare.cmp
  have hs : min (⟨⟨c :: x⟩⟩ : ByteArray).size (⟨⟨d :: y⟩⟩ : ByteArray).size = min x.length y.length + 1 := by
    show min (x.length + 1) (y.length + 1) = _; omega
  have hs2 : min (⟨⟨x⟩⟩ : ByteArray).size (⟨⟨y⟩⟩ : ByteArray).size = min x.length y.length := rfl
  rw [hs, hs2, List.range_succ_eq_map, List.find?_cons]
  have e0 : ∀ (a : UInt8) (z : Ky), (⟨⟨a :: z⟩⟩ : ByteArray)[0]! = a := fun a z => by rw [ba_get!]; rfl
  have e1 : ∀ (a : UInt8) (z : Ky) (i : Nat), (⟨⟨a :: z⟩⟩ : ByteArray)[i + 1]! = (⟨⟨z⟩⟩ : ByteArray)[i]! := fun a z i => by rw [ba_get!, ba_get!]; rfl
  by_cases h : c = d
  · subst h
    rw [e0, e0]
    simp only [bne_self_eq_false, List.find?_map, Function.comp_def, Nat.succ_eq_add_one, e1, if_true]
    cases hf : (List.range (min x.length y.length)).find? fun i => (⟨⟨x⟩⟩ : ByteArray)[i]! != (⟨⟨y⟩⟩ : ByteArray)[i]! with
    | some i => simp only [Option.map_some, e1]
    | none =>
      simp only [Option.map_none]
      have : ∀ z : Ky, (⟨⟨c :: z⟩⟩ : ByteArray).size = (⟨⟨z⟩⟩ : ByteArray).size + 1 := fun z => rfl
      rw [this, this]
      simp
  · rw [e0, e0]
    simp only [show (c != d) = true by simpa using h, if_neg h]
    rw [e0, e0]
theorem cmpI_pos : ∀ x y : Ky, (0 < cmpI x y) ↔ Op.bytesLess y x = true
  | [], y => by rw [cmpI_nil']; cases y <;> simp [Op.bytesLess]
  | c :: x, [] => by rw [cmpI_nil]; simp [Op.bytesLess]
  | c :: x, d :: y => by
    rw [cmpI_cons]
    have ih := cmpI_pos x y
    simp only [Op.bytesLess, Bool.or_eq_true, Bool.and_eq_true, decide_eq_true_eq, beq_iff_eq]
    by_cases h : c = d
    · subst h; simp [ih]
    · rw [if_neg h]
      have h' : ¬ d = c := fun e => h e.symm
      simp only [h', false_and, or_false]
      by_cases q : c < d
      · rw [if_pos q]
        have : ¬ d < c := fun e => absurd (UInt8.lt_trans q e) (UInt8.lt_irrefl _)
        simp [this]
      · rw [if_neg q]
        have : d < c := by
          rcases UInt8.lt_or_lt_of_ne h with e | e
          · exact absurd e q
          · exact e
        simp [this]
theorem rd_get {Γ : List HProp} {hF : Hp} {b : Nat} {o : Obj} (h : Rd Γ hF b o) {w : World} (s : Sat Γ hF w) : w.heap[b]? = some o := h w s
set_option maxRecDepth 100000
set_option maxHeartbeats 4000000
attribute [local irreducible] GK GO Yl Wt Ef Hd GH KH wpListIn Code.wpIn toBody roundQ poolOf rs RS YieldOk IterOk VOk row star exs mp lp Sat pt FnOk Rd bodyPost bodyPostM Lv Ret Exit.then Exit.inBlock Exit.noGoto Int.decLt Int.decLe Int.instDecidableEq
set_option pp.deepTerms true
set_option pp.maxSteps 1000000
variable {hF : Hp}
theorem bcompare_ok {b1 b2 o1 o2 c1 c2 t1 t2 : Nat} {l1 l2 : List Value} {x y : Ky} (h1 : At l1 o1 (u8s x)) (h2 : At l2 o2 (u8s y)) :
    FnOk Go.Proofs.Tryd.prog 75 [.slice (some ⟨b1, o1, none⟩) x.length c1, .slice (some ⟨b2, o2, none⟩) y.length c2] [blk b1 t1 (0, 0) l1, blk b2 t2 (0, 0) l2] hF (fun v Γ => v = .int .i64 (cmpI x y) ∧ Γ = [blk b1 t1 (0, 0) l1, blk b2 t2 (0, 0) l2]) := by
  refine FnOk.intro 8 Go.Proofs.Tryd.func75 rfl rfl fun w0 => ?_
  (repeat (first | refine GK.ro ?_ | (refine GK.box ?_; intro bl) | (refine GK.mkMap ?_; intro bm) | (refine GK.build0 tb ?_; intro bs)))
  refine GL.cons ?_
  refine GO.ext (e := Extern.BytealgCompare.compare) rfl rfl (by decide +kernel) (by kernel_rfl) (by kernel_rfl) (by first | exact Wt.none | exact Wt.some rfl rfl (by first | exact rfl | decide +kernel)) rfl rfl (fun w s => ?_) (v := .int .i64 (cmpI x y)) ?_
  · have k1 : w.heap[b1]? = some (.cells ⟨l1⟩ t1 (0, 0)) := rd_get (Γ := [blk b1 t1 (0, 0) l1, blk b2 t2 (0, 0) l2]) (Rd.blk 0 rfl) s
    have k2 : w.heap[b2]? = some (.cells ⟨l2⟩ t2 (0, 0)) := rd_get (Γ := [blk b1 t1 (0, 0) l1, blk b2 t2 (0, 0) l2]) (Rd.blk 1 rfl) s
    have r1 := run_bytesOf (P := Go.Proofs.Tryd.prog) (c := c1) k1 h1
    have r2 := run_bytesOf (P := Go.Proofs.Tryd.prog) (c := c2) k2 h2
    have h0 : Extern.BytealgCompare.compare [.slice (some ⟨b1, o1, none⟩) x.length c1, .slice (some ⟨b2, o2, none⟩) y.length c2].toArray = (do
      pure (goInt (Extern.BytealgCompare.cmp (← Extern.Bytes.bytesOf (.slice (some ⟨b1, o1, none⟩) x.length c1)) (← Extern.Bytes.bytesOf (.slice (some ⟨b2, o2, none⟩) y.length c2))))) := rfl
    rw [h0]
    simp only [Sem.run_bind, r1, r2, Result.andThen_ok]
    rfl
  (repeat (first | refine GK.ro ?_ | (refine GK.box ?_; intro bl) | (refine GK.mkMap ?_; intro bm) | (refine GK.build0 tb ?_; intro bs)))
  exact GQ.fin1 rfl (Rv.tmp rfl) (fun _ s => Sat.sub (by repeat (first | exact SubR.nil | apply SubR.cons 0 rfl | apply SubR.cons 1 rfl | apply SubR.cons 2 rfl | apply SubR.cons 3 rfl | apply SubR.cons 4 rfl | apply SubR.cons 5 rfl | apply SubR.cons 6 rfl | apply SubR.cons 7 rfl | apply SubR.cons 8 rfl | apply SubR.cons 9 rfl | apply SubR.cons 10 rfl | apply SubR.cons 11 rfl | apply SubR.cons 12 rfl | apply SubR.cons 13 rfl | apply SubR.cons 14 rfl | apply SubR.cons 15 rfl)) s) ⟨rfl, rfl⟩
end Go.Lb
