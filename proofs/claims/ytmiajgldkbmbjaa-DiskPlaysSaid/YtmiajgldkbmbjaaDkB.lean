/- The disk as a chunk of memory; Read, Write, settle. -/
import Derived.Test.YtmiajgldkbmbjaaDkA
namespace Go.Dk
open Go Go.Sl
attribute [local irreducible] GK GO Yl Wt Ef Hd GH KH wpList Code.wp Sat pt FnOk Rd bodyPost Ret Exit.then Exit.inBlock Exit.noGoto exs Int.decLt Int.decLe Int.instDecidableEq

/-! ### sectors one behind the other -/
def flat (l : List (List UInt8)) : List Value := l.flatMap u8s
def flatP (l : List (Nat × List UInt8)) : List Value := l.flatMap fun p => .int .i64 p.1 :: u8s p.2
theorem flat_length {l : List (List UInt8)} (h : ∀ s ∈ l, s.length = 256) : (flat l).length = l.length * 256 := by
  induction l with
  | nil => rfl
  | cons a l ih =>
    have := ih fun s hs => h s (by simp [hs])
    have h0 := h a (by simp)
    simp only [flat, List.flatMap_cons, List.length_append, u8s_length, h0, List.length_cons] at *
    omega
theorem flatP_length {l : List (Nat × List UInt8)} (h : ∀ p ∈ l, p.2.length = 256) : (flatP l).length = l.length * 257 := by
  induction l with
  | nil => rfl
  | cons a l ih =>
    have := ih fun s hs => h s (by simp [hs])
    have h0 := h a (by simp)
    simp only [flatP, List.flatMap_cons, List.length_append, u8s_length, h0, List.length_cons] at *
    omega
theorem flat_split {l : List (List UInt8)} (h : ∀ s ∈ l, s.length = 256) {i : Nat} {s : List UInt8} (hs : l[i]? = some s) : ∃ x y, flat l = x ++ u8s s ++ y ∧ x.length = i * 256 ∧ ∀ s' : List UInt8, flat (l.set i s') = x ++ u8s s' ++ y := by
  induction l generalizing i with
  | nil => simp at hs
  | cons a l ih =>
    cases i with
    | zero => simp at hs; subst hs; exact ⟨[], flat l, by simp [flat], by simp, fun s' => by simp [flat]⟩
    | succ i =>
      obtain ⟨x, y, h1, h2, h3⟩ := ih (fun s hs => h s (by simp [hs])) (i := i) (by simpa using hs)
      refine ⟨u8s a ++ x, y, ?_, ?_, fun s' => ?_⟩
      · have : flat (a :: l) = u8s a ++ flat l := by simp [flat]
        rw [this, h1]; simp
      · simp [h2, h a (by simp)]; omega
      · have : flat ((a :: l).set (i + 1) s') = u8s a ++ flat (l.set i s') := by simp [flat]
        rw [this, h3]; simp
theorem flatP_split {l : List (Nat × List UInt8)} (h : ∀ p ∈ l, p.2.length = 256) {i : Nat} {p : Nat × List UInt8} (hs : l[i]? = some p) : ∃ x y, flatP l = x ++ (.int .i64 p.1 :: u8s p.2) ++ y ∧ x.length = i * 257 := by
  induction l generalizing i with
  | nil => simp at hs
  | cons a l ih =>
    cases i with
    | zero => simp at hs; subst hs; exact ⟨[], flatP l, by simp [flatP], by simp⟩
    | succ i =>
      obtain ⟨x, y, h1, h2⟩ := ih (fun s hs => h s (by simp [hs])) (i := i) (by simpa using hs)
      refine ⟨(.int .i64 a.1 :: u8s a.2) ++ x, y, ?_, ?_⟩
      · have : flatP (a :: l) = (.int .i64 a.1 :: u8s a.2) ++ flatP l := by simp [flatP]
        rw [this, h1]; simp
      · simp [h2, h a (by simp)]; omega
theorem flatP_snoc (l : List (Nat × List UInt8)) (p : Nat × List UInt8) : flatP (l ++ [p]) = flatP l ++ (.int .i64 p.1 :: u8s p.2) := by simp [flatP]
theorem flat_at {l : List (List UInt8)} (h : ∀ s ∈ l, s.length = 256) {i : Nat} {s : List UInt8} (hs : l[i]? = some s) (t : List Value) : At (flat l ++ t) (i * 256) (u8s s) := by
  obtain ⟨x, y, h1, h2, _⟩ := flat_split h hs
  rw [h1, ← h2, List.append_assoc]; exact At.mid x (u8s s) (y ++ t)
theorem flatP_at {l : List (Nat × List UInt8)} (h : ∀ p ∈ l, p.2.length = 256) {i : Nat} {p : Nat × List UInt8} (hs : l[i]? = some p) (t : List Value) : At (flatP l ++ t) (i * 257) (.int .i64 p.1 :: u8s p.2) := by
  obtain ⟨x, y, h1, h2⟩ := flatP_split h hs
  rw [h1, ← h2, List.append_assoc]; exact At.mid x _ (y ++ t)

/-! ### the chunk -/
structure DX where
  s : Nat
  sc : Nat
  st : List Value
  sz : Nat × Nat
  pp : Option Addr
  pc : Nat
  m : Nat
  last : List (Int × Value)
def DX.cells (x : DX) (D : DM) : List Value := dcells (some ⟨x.s, 0, none⟩) D.sure.length x.sc x.pp D.pend.length x.pc x.m D.off D.armed D.plan D.opn
structure DX.Ok (D : DM) (x : DX) : Prop where
  ok : D.Ok
  cap : D.sure.length ≤ x.sc
  tail : x.st.length = (x.sc - D.sure.length) * 256
  fz : free x.sz 0 (flat D.sure ++ x.st).length = true
  last : ∀ i : Int, mget x.last i = (lastIx D.pend i).map fun (j : Nat) => Value.int .i64 ((j : Int) + 1)
def DX.chunks (d : Nat) (D : DM) (x : DX) : List HProp :=
  [dblk d (x.cells D), blk x.s 66 x.sz (flat D.sure ++ x.st), row (.slice x.pp D.pend.length x.pc) 68 257 D.pend.length (flatP D.pend), mp x.m x.last]
/-- At d lies a disk that is D. -/
def dk (d : Nat) (D : DM) : HProp := exs (DX.Ok D) (DX.chunks d D)

theorem shut_dk {d : Nat} {D : DM} {x : DX} {Γ : List HProp} {hF : Hp} {w : World} (h : x.Ok D) (s : Sat (dblk d (x.cells D) :: blk x.s 66 x.sz (flat D.sure ++ x.st) :: row (.slice x.pp D.pend.length x.pc) 68 257 D.pend.length (flatP D.pend) :: mp x.m x.last :: Γ) hF w) :
    Sat (dk d D :: Γ) hF w := Sat.shut x h s

variable {d : Nat} {D : DM} {hF : Hp}
/-- Bytes in new memory. -/
abbrev brow (v : Value) (l : List UInt8) : HProp := row v 5 1 l.length (u8s l)

theorem read_ok (i : Int) : FnOk Go.Proofs.Try.prog 14 [dptr d, .int .i64 i] [dk d D] hF
    (fun v Γ => ∃ p c, v = .tuple #[.slice p (D.read i).1.length c, .int .i64 (D.read i).2] ∧ Γ = [brow (.slice p (D.read i).1.length c) (D.read i).1, dk d D]) := by
  refine FnOk.intro 42 Go.Proofs.Try.func14 rfl rfl fun w0 => ?_
  refine GK.opens 0 rfl fun x hx => ?_
  obtain ⟨xs, xsc, xst, xsz, xpp, xpc, xm, xl⟩ := x
  have hw : wrongI D.off D.sure.length i = D.wrong i := rfl
  (repeat (first | refine GK.run ?_ | (refine GK.box ?_; intro bl) | (refine GK.mkMap ?_; intro bm) | (refine GK.build0 tb ?_; intro bs)))
  refine GL.cons ?_
  refine GO.call [0] (fun hF' _ _ => wrong_ok hx.ok.pos i) .none (by kernel_rfl) rfl rfl rfl ?_
  rintro v Γ' ⟨rfl, rfl⟩
  rw [hw]
  (repeat (first | refine GK.run ?_ | (refine GK.box ?_; intro bl) | (refine GK.mkMap ?_; intro bm) | (refine GK.build0 tb ?_; intro bs)))
  refine G.cond rfl (fun h => ?_) (fun h => ?_)
  · have h : ¬ D.wrong i = 0 := by simpa using h
    (repeat (first | refine GK.run ?_ | (refine GK.box ?_; intro bl) | (refine GK.mkMap ?_; intro bm) | (refine GK.build0 tb ?_; intro bs)))
    refine GK.heap (Γ' := [brow (.slice none 0 0) [], dk d D]) (fun w s => (shut_dk hx (s.sel [0, 0, 0, 0] rfl)).row_nil) (GQ.end2 rfl rfl rfl ⟨none, 0, ?_, ?_⟩)
    · simp [DM.read, h]
    · simp [DM.read, h]
  · have h : D.wrong i = 0 := by simpa using h
    have hb : 0 ≤ i ∧ i < D.sure.length := by
      unfold DM.wrong at h
      split at h
      · cases h
      · split at h
        · cases h
        · omega
    obtain ⟨sec, hsec⟩ : ∃ sec, D.sure[i.toNat]? = some sec := ⟨_, List.getElem?_eq_getElem (by omega)⟩
    have hsz : sec.length = 256 := hx.ok.size _ (List.mem_of_getElem? hsec)
    have hread : D.read i = (D.get i.toNat, 0) := by simp [DM.read, h]
    rw [hread]
    have hi : ((i.toNat : Nat) : Int) = i := by omega
    (repeat (first | refine GK.run ?_ | (refine GK.box ?_; intro bl) | (refine GK.mkMap ?_; intro bm) | (refine GK.build0 tb ?_; intro bs)))
    refine GL.cons ?_
    refine GO.yield .none (Yt.loadRow tb rfl rfl (Rd.blk 1 rfl) (A := u8s sec) (by rw [Nat.zero_add]; exact flat_at hx.ok.size hsec _) (by simp [hsz])) ?_
    refine GL.cons ?_; refine Gt.allocAny tb (by first | exact Wt.none | exact Wt.some rfl rfl (by first | exact rfl | decide +kernel)) (by exact rfl) (by exact rfl) ?_
    intro b1 l1 h1
    (repeat (first | refine GK.run ?_ | (refine GK.box ?_; intro bl) | (refine GK.mkMap ?_; intro bm) | (refine GK.build0 tb ?_; intro bs)))
    refine GL.cons ?_
    refine Gt.storeAll tb 0 .none rfl rfl rfl (by simp [hsz]) (u8s_one _) rfl (by simp [h1, hsz]) ?_
    (repeat (first | refine GK.run ?_ | (refine GK.box ?_; intro bl) | (refine GK.mkMap ?_; intro bm) | (refine GK.build0 tb ?_; intro bs)))
    have hl := hx.last i
    have fin : ∀ (sec' : List UInt8) (q : Value), sec'.length = 256 → D.get i.toNat = sec' → True := fun _ _ _ _ => trivial
    cases e : lastIx D.pend i with
    | none =>
      rw [e] at hl
      have hg : D.get i.toNat = sec := by simp [DM.get, hi, e, hsec]
      refine GL.cons ?_
      refine GO.yield .none (Yl.look1 (α := Int) (a := i) 4 (.int rfl) rfl rfl rfl rfl rfl (by rw [hl]; try rfl)) ?_
      (repeat (first | refine GK.run ?_ | (refine GK.box ?_; intro bl) | (refine GK.mkMap ?_; intro bm) | (refine GK.build0 tb ?_; intro bs)))
      refine GL.cons ?_
      refine Gt.append tb 0 .none rfl (.inl ⟨_, rfl⟩) rfl rfl rfl rfl rfl (Src.slice (m := 256) (Rd.blk 1 rfl) (At.all _) (by simp [hsz]) (u8s_one _)) (by omega) (by omega) ?_
      intro p c
      (repeat (first | refine GK.run ?_ | (refine GK.box ?_; intro bl) | (refine GK.mkMap ?_; intro bm) | (refine GK.build0 tb ?_; intro bs)))
      rw [hg]
      refine GK.heap (Γ' := [brow (.slice p 256 c) sec, dk d D]) (fun w s => ?_) (GQ.end2 rfl rfl rfl ⟨p, c, by simp [hsz], by simp [hsz]⟩)
      have hr : row (.slice p (0 + 256) c) 5 1 (0 + 256) ([] ++ u8s sec) = brow (.slice p 256 c) sec := by simp [brow, hsz]
      rw [hr] at s
      exact (shut_dk hx (s.sel [2, 2, 2, 2, 0] rfl)).sel [1, 0] rfl
    | some j =>
      rw [e] at hl
      obtain ⟨q, hq, hqi⟩ := lastIx_lt e
      have hj : j < D.pend.length := (List.getElem?_eq_some_iff.1 hq).1
      have hqs := (hx.ok.pend q (List.mem_of_getElem? hq)).2
      have hcnt := hx.ok.count
      have hg : D.get i.toNat = q.2 := by simp [DM.get, hi, e, hq]
      refine GL.cons ?_
      refine GO.yield .none (Yl.look1 (α := Int) (a := i) 4 (.int rfl) rfl rfl rfl rfl rfl (by rw [hl]; try rfl)) ?_
      (repeat (first | refine GK.run ?_ | (refine GK.box ?_; intro bl) | (refine GK.mkMap ?_; intro bm) | (refine GK.build0 tb ?_; intro bs)))
      refine G.cond rfl (fun h2 => ?_) (fun h2 => ?_)
      · refine GK.openRow 3 rfl (by omega) fun b tail fz hp hc ht hxs hf => ?_
        subst hp
        (repeat (first | refine GK.run ?_ | (refine GK.box ?_; intro bl) | (refine GK.mkMap ?_; intro bm) | (refine GK.build0 tb ?_; intro bs)))
        have ej : ((j : Int) + 1 - 1).toNat = j := by omega
        refine GL.cons ?_
        refine GO.yield .none (Yt.loadRow tb rfl rfl (Rd.blk 0 rfl) (A := u8s q.2) (by rw [ej, Nat.zero_add]; exact (flatP_at (fun p hp => (hx.ok.pend p hp).2) hq _).drop (i := 1)) (by simp [hqs])) ?_
        (repeat (first | refine GK.run ?_ | (refine GK.box ?_; intro bl) | (refine GK.mkMap ?_; intro bm) | (refine GK.build0 tb ?_; intro bs)))
        refine GL.cons ?_
        refine Gt.storeAll tb 1 .none rfl rfl rfl (by simp [hqs]) (u8s_one _) rfl (by simp [hqs, hsz]) ?_
        (repeat (first | refine GK.run ?_ | (refine GK.box ?_; intro bl) | (refine GK.mkMap ?_; intro bm) | (refine GK.build0 tb ?_; intro bs)))
        refine GL.cons ?_
        refine Gt.append tb 0 .none rfl (.inl ⟨_, rfl⟩) rfl rfl rfl rfl rfl (Src.slice (m := 256) (Rd.blk 2 rfl) (At.all _) (by simp [hqs]) (u8s_one _)) (by omega) (by omega) ?_
        intro p c
        (repeat (first | refine GK.run ?_ | (refine GK.box ?_; intro bl) | (refine GK.mkMap ?_; intro bm) | (refine GK.build0 tb ?_; intro bs)))
        rw [hg]
        refine GK.heap (Γ' := [brow (.slice p 256 c) q.2, dk d D]) (fun w s => ?_) (GQ.end2 rfl rfl rfl ⟨p, c, by simp [hqs], by simp [hqs]⟩)
        have hr : row (.slice p (0 + 256) c) 5 1 (0 + 256) ([] ++ u8s q.2) = brow (.slice p 256 c) q.2 := by simp [brow, hqs]
        rw [hr] at s
        exact (shut_dk hx (((s.sel [1, 2, 2, 2, 0] rfl).row_blk hc ht hxs hf).sel [1, 1, 0, 0, 0] rfl)).sel [1, 0] rfl
      · exact absurd h2 (by simp)
end Go.Dk
