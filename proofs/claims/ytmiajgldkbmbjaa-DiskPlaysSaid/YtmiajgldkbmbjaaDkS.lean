/- A law's calls as plain data; Whole; a disk behind writes. -/
import Derived.Test.YtmiajgldkbmbjaaDkL
import Derived.Test.YtmiajgldkbmbjaaSlS
namespace Go.Dk
open Go Go.Sl

structure ActM where
  kind : Int
  n : Int
  bytes : List UInt8
  short : Bool
  keep : List Int
structure ActM.Ok (a : ActM) : Prop where
  kind : -9223372036854775808 ≤ a.kind ∧ a.kind ≤ 9223372036854775807
  n : -9223372036854775808 ≤ a.n ∧ a.n ≤ 9223372036854775807
  bytes : a.bytes.length ≤ 140737488351232
  keep : a.keep.length * 8 ≤ 140737488351232
/-- The row's five cells hold this call. -/
def actAt (hF : Hp) (row : List Value) (a : ActM) : Prop := ∃ bv kv, row = [.int .i64 a.kind, .int .i64 a.n, bv, .bool a.short, kv] ∧ roB hF bv a.bytes ∧ ro hF kv a.keep.length (i64s a.keep) ∧ a.Ok
/-- The slice v holds these calls, in memory that is only read. -/
def roActs (hF : Hp) (v : Value) (l : List ActM) : Prop := ∃ els : List (List Value), els.length = l.length ∧ ro hF v l.length els.flatten ∧ l.length ≤ 140737488351232 ∧ (∀ r ∈ els, r.length = 5) ∧ ∀ (i : Nat) (a : ActM), l[i]? = some a → ∃ row, els[i]? = some row ∧ actAt hF row a
theorem actAt.mono {hF hF' : Hp} {row : List Value} {a : ActM} (h : actAt hF row a) (hl : le hF hF') : actAt hF' row a := by
  obtain ⟨bv, kv, h1, h2, h3, h4⟩ := h
  exact ⟨bv, kv, h1, h2.mono hl, h3.mono hl, h4⟩

theorem roActs.mono {hF hF' : Hp} {v : Value} {l : List ActM} (h : roActs hF v l) (hl : le hF hF') : roActs hF' v l := by
  obtain ⟨els, h1, h2, h3, h4, h5⟩ := h
  refine ⟨els, h1, h2.mono hl, h3, h4, fun i a hi => ?_⟩
  obtain ⟨row, h6, h7⟩ := h5 i a hi
  exact ⟨row, h6, h7.mono hl⟩
theorem zip_of {α β : Type} {p : β → α → Prop} : ∀ {els : List β}, (∀ r ∈ els, ∃ a, p r a) → ∃ l : List α, l.length = els.length ∧ ∀ (i : Nat) (a : α), l[i]? = some a → ∃ r, els[i]? = some r ∧ p r a
  | [], _ => ⟨[], rfl, fun i a h => by simp at h⟩
  | r :: els, h => by
    obtain ⟨x, hx⟩ := h r (by simp)
    obtain ⟨l, hl, hp⟩ := zip_of (els := els) (p := p) (fun r hr => h r (by simp [hr]))
    refine ⟨x :: l, by simp [hl], fun i a hi => ?_⟩
    cases i with
    | zero => simp at hi; subst hi; exact ⟨r, rfl, hx⟩
    | succ i => simpa using hp i a (by simpa using hi)
theorem acts_of {H : Type} {enc : TypeId × Value → H} {W : World} {cs : List Value} {d : DataW H} (h : Reads enc Go.Proofs.Try.prog W 22 cs d) : ∃ v l, cs = [v] ∧ roActs (mem W) v l := by
  obtain ⟨v, els, h1, h2, h3, h4⟩ := h.slice (e := 35) (sz := 5) rfl (by kernel_rfl) (by omega)
  have hb : (Go.Proofs.Try.prog).bytesOf 35 = 72 := by kernel_rfl
  rw [hb] at h3
  have key : ∀ r ∈ els, ∃ a, actAt (mem W) r a := fun r hr => by
    obtain ⟨hlen, d', hd⟩ := h4 r hr
    obtain ⟨_, q0⟩ := hd.field rfl 0 rfl
    obtain ⟨_, q1⟩ := hd.field rfl 1 rfl
    obtain ⟨_, q2⟩ := hd.field rfl 2 rfl
    obtain ⟨_, q3⟩ := hd.field rfl 3 rfl
    obtain ⟨_, q4⟩ := hd.field rfl 4 rfl
    obtain ⟨kind, e0, w0⟩ := q0.int rfl
    obtain ⟨n, e1, w1⟩ := q1.int rfl
    obtain ⟨bv, bytes, e2, b1, b2⟩ := q2.bytes rfl rfl (by kernel_rfl) (by kernel_rfl)
    obtain ⟨short, e3⟩ := q3.bool rfl
    obtain ⟨kv, keep, e4, k1, k2, _⟩ := q4.ints rfl rfl (by kernel_rfl) (by kernel_rfl)
    refine ⟨⟨kind, n, bytes, short, keep⟩, bv, kv, ?_, b1, k1, ⟨i64_of w0, i64_of w1, b2, k2⟩⟩
    match r, hlen, e0, e1, e2, e3, e4 with
    | [a0, a1, a2, a3, a4], _, e0, e1, e2, e3, e4 =>
      have e0 : [a0] = [Value.int .i64 kind] := e0
      have e1 : [a1] = [Value.int .i64 n] := e1
      have e2 : [a2] = [bv] := e2
      have e3 : [a3] = [Value.bool short] := e3
      have e4 : [a4] = [kv] := e4
      cases e0; cases e1; cases e2; cases e3; cases e4; rfl
  obtain ⟨l, hl, ha⟩ := zip_of key
  exact ⟨v, l, h1, els, hl.symm, by rw [hl]; exact h2, by have : reachBytes = 140737488351232 := rfl; omega, fun r hr => (h4 r hr).1, ha⟩

/-- A sector out of any bytes. -/
def whole (b : List UInt8) : List UInt8 := (b ++ rep (256 - b.length) 0).take 256
theorem whole_length (b : List UInt8) : (whole b).length = 256 := by
  simp [whole, rep_length]; omega
attribute [local irreducible] GK GO Yl Wt Ef Hd GH KH wpList Code.wp Sat pt FnOk Rd bodyPost Ret Exit.then Exit.inBlock Exit.noGoto exs Int.decLt Int.decLe Int.instDecidableEq
attribute [local irreducible] rep whole
variable {hF : Hp}
theorem whole_ok (bv : Value) (b : List UInt8) (hb : roB hF bv b) (hl : b.length ≤ 140737488351232) : FnOk Go.Proofs.Try.prog 12 [bv] [] hF (fun v Γ => v = str (whole b) ∧ Γ = []) := by
  refine FnOk.intro 16 Go.Proofs.Try.func12 rfl rfl fun w0 => ?_
  obtain ⟨bp, bc, rfl, hbo⟩ := hb
  (repeat (first | refine GK.run ?_ | (refine GK.box ?_; intro bl) | (refine GK.mkMap ?_; intro bm) | (refine GK.build0 tb ?_; intro bs)))
  have hsrc : Src Go.Proofs.Try.prog ⟨16, [], hF, w0⟩ [row (.slice (some ⟨bs, 0, none⟩) 0 0) 5 1 0 []] (.slice bp b.length bc) b.length 1 (u8s b) := by
    by_cases h0 : 0 < b.length
    · obtain ⟨bb, bo, cs, e, fz, rfl, h1, h2⟩ := hbo h0
      exact Src.slice (Rd.ro h1) h2 (by simp) (u8s_one _)
    · have : b = [] := List.length_eq_zero_iff.1 (by omega)
      subst this
      exact Src.none
  refine GL.cons ?_
  refine Gt.append0 tb 0 .none rfl (.inl ⟨_, rfl⟩) rfl rfl rfl rfl rfl hsrc (by omega) (by omega) ?_
  intro np nc
  (repeat (first | refine GK.run ?_ | (refine GK.box ?_; intro bl) | (refine GK.mkMap ?_; intro bm) | (refine GK.build0 tb ?_; intro bs)))
  refine GK.weak (by repeat (first | exact trivial | refine ⟨rfl, ?_⟩)) (fun w s => ?_) (G.loop (fun x : Nat × Option Addr × Nat => 256 - b.length - x.1)
    (fun x => [(3, .slice x.2.1 (b.length + x.1) x.2.2)])
    (fun x => [row (.slice x.2.1 (b.length + x.1) x.2.2) 5 1 (b.length + x.1) (u8s (b ++ rep x.1 0))])
    (fun x => x.1 ≤ 256 - b.length) (fun x hi => ?_) (0, np, nc) (Nat.zero_le _))
  · show Sat [row (.slice np (b.length + 0) nc) _ 1 (b.length + 0) (u8s (b ++ rep 0 0))] _ _
    rw [show b ++ rep 0 0 = b from by unfold rep; simp]
    exact s
  obtain ⟨k, sp, sc⟩ := x
  replace hi : k ≤ 256 - b.length := hi
  (repeat (first | refine GK.run ?_ | (refine GK.box ?_; intro bl) | (refine GK.mkMap ?_; intro bm) | (refine GK.build0 tb ?_; intro bs)))
  refine G.cond rfl (fun h => ?_) (fun h => ?_)
  · have h : b.length + k < 256 := by simp at h; omega
    (repeat (first | refine GK.run ?_ | (refine GK.box ?_; intro bl) | (refine GK.mkMap ?_; intro bm) | (refine GK.build0 tb ?_; intro bs)))
    refine GL.cons ?_; refine Gt.buildLit tb (sz := 0) (n := 0) (by first | exact Wt.none | exact Wt.some rfl rfl (by first | exact rfl | decide +kernel)) rfl rfl (by kernel_rfl) rfl rfl rfl rfl rfl rfl ?_
    intro bx
    (repeat (first | refine GK.run ?_ | (refine GK.box ?_; intro bl) | (refine GK.mkMap ?_; intro bm) | (refine GK.build0 tb ?_; intro bs)))
    refine GL.cons ?_; refine Gt.append tb 1 (by first | exact Wt.none | exact Wt.some rfl rfl (by first | exact rfl | decide +kernel)) rfl (.inl ⟨_, rfl⟩) rfl rfl rfl rfl rfl (Src.slice (m := 1) (Rd.blk 0 rfl) (At.all _) rfl (one_of_all rfl)) (by omega) (by omega) ?_
    intro p2 c2
    (repeat (first | refine GK.run ?_ | (refine GK.box ?_; intro bl) | (refine GK.mkMap ?_; intro bm) | (refine GK.build0 tb ?_; intro bs)))
    refine GQ.again (k + 1, p2, c2) (by show k + 1 ≤ _; omega) (by show _ - (k + 1) < _ - k; omega) (by repeat (first | exact trivial | refine ⟨rfl, ?_⟩)) (fun w s => ?_)
    have e : u8s (b ++ rep (k + 1) 0) = u8s (b ++ rep k 0) ++ [.int .u8 0] := by
      unfold rep; rw [List.replicate_succ', ← List.append_assoc, u8s_append]; rfl
    show Sat [row _ _ 1 _ (u8s (b ++ rep (k + 1) 0))] _ _
    rw [e]
    exact s.sel [0] rfl
  · have h : ¬ b.length + k < 256 := by simp at h; omega
    (repeat (first | refine GK.run ?_ | (refine GK.box ?_; intro bl) | (refine GK.mkMap ?_; intro bm) | (refine GK.build0 tb ?_; intro bs)))
    refine GK.openRow 0 rfl (by omega) fun b' tail fz hp hc ht hxs hf => ?_
    cases hp
    have hk : k = 256 - b.length := by omega
    replace hc : b.length + k ≤ sc := hc
    refine GL.cons ?_
    refine GO.yield .none (Yt.slice_h tb rfl rfl rfl rfl (by show (0 : Int) ≤ 256 ∧ (256 : Int) ≤ (sc : Int); omega)) ?_
    refine GL.cons ?_
    refine GO.yield .none (Yl.bytesStr (s := whole b) rfl rfl rfl rfl (Rd.blk 0 rfl) ?_ (by rw [whole_length]; rfl)) ?_
    · have := (At.front (u8s (b ++ rep k 0)) tail).sub (i := 0) (n := 256)
      have e : u8s (whole b) = ((u8s (b ++ rep k 0)).drop 0).take 256 := by
        rw [hk]; unfold whole u8s; rw [List.drop_zero, List.map_take]
      rw [e]; exact this
    (repeat (first | refine GK.run ?_ | (refine GK.box ?_; intro bl) | (refine GK.mkMap ?_; intro bm) | (refine GK.build0 tb ?_; intro bs)))
    exact GK.heap (Γ' := []) (fun w s => s.sel [] rfl) (GQ.end1 rfl rfl ⟨rfl, rfl⟩)

end Go.Dk
