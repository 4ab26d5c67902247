/- The document's disk: its chunk of memory; New, does, Arm, Write, Clone. -/
import Derived.Test.YtmiajgldkbmbjaaDkU
namespace Go.Dk
open Go Go.Sl
def strs (l : List (List UInt8)) : List Value := l.map str
def puts (l : List (Nat × List UInt8)) : List Value := l.flatMap fun p => [.int .i64 p.1, str p.2]
theorem strs_length (l : List (List UInt8)) : (strs l).length = l.length := by simp [strs]
theorem puts_length (l : List (Nat × List UInt8)) : (puts l).length = l.length * 2 := by
  induction l with
  | nil => rfl
  | cons a l ih => simp only [puts, List.flatMap_cons, List.length_append, List.length_cons, List.length_nil] at ih ⊢; omega
theorem puts_snoc (l : List (Nat × List UInt8)) (p : Nat × List UInt8) : puts (l ++ [p]) = puts l ++ [.int .i64 p.1, str p.2] := by simp [puts]
theorem puts_at {l : List (Nat × List UInt8)} {i : Nat} {p : Nat × List UInt8} (h : l[i]? = some p) (t : List Value) : (puts l ++ t)[i * 2]? = some (.int .i64 p.1) ∧ (puts l ++ t)[i * 2 + 1]? = some (str p.2) := by
  induction l generalizing i with
  | nil => simp at h
  | cons a l ih =>
    cases i with
    | zero => simp at h; subst h; exact ⟨rfl, rfl⟩
    | succ i =>
      have := ih (i := i) (by simpa using h)
      have e : puts (a :: l) ++ t = .int .i64 a.1 :: str a.2 :: (puts l ++ t) := by simp [puts]
      rw [e, show (i + 1) * 2 = i * 2 + 2 by omega, show i * 2 + 2 + 1 = (i * 2 + 1) + 2 by omega]
      exact this
theorem puts_one {l : List (Nat × List UInt8)} : ∀ u ∈ puts l, u.oneCell' = true := by
  intro u hu
  obtain ⟨a, _, hu⟩ := List.mem_flatMap.1 hu
  rcases List.mem_cons.1 hu with rfl | hu
  · rfl
  · rcases List.mem_cons.1 hu with rfl | hu
    · rfl
    · simp at hu
theorem strs_one {l : List (List UInt8)} : ∀ u ∈ strs l, u.oneCell' = true := by
  intro u hu
  obtain ⟨a, _, rfl⟩ := List.mem_map.1 hu
  rfl
structure RX where
  sp : Option Addr
  sc : Nat
  pp : Option Addr
  pc : Nat
def rcells (D : DM) (x : RX) : List Value := [.slice x.sp D.sure.length x.sc, .slice x.pp D.pend.length x.pc, .bool D.off, .bool D.armed, .int .i64 D.plan, .int .i64 D.opn]
abbrev rblk (d : Nat) (l : List Value) : HProp := blk d 73 (0, 0) l
def RX.chunks (d : Nat) (D : DM) (x : RX) : List HProp :=
  [rblk d (rcells D x), row (.slice x.sp D.sure.length x.sc) 9 1 D.sure.length (strs D.sure), row (.slice x.pp D.pend.length x.pc) 76 2 D.pend.length (puts D.pend)]
/-- At d lies the document's disk D. -/
def rk (d : Nat) (D : DM) : HProp := exs (fun _ : RX => D.Ok) (RX.chunks d D)
theorem shut_rk {d : Nat} {D : DM} {x : RX} {Γ : List HProp} {hF : Hp} {w : World} (h : D.Ok) (s : Sat (rblk d (rcells D x) :: row (.slice x.sp D.sure.length x.sc) 9 1 D.sure.length (strs D.sure) :: row (.slice x.pp D.pend.length x.pc) 76 2 D.pend.length (puts D.pend) :: Γ) hF w) :
    Sat (rk d D :: Γ) hF w := Sat.shut x h s
attribute [local irreducible] GK GO Yl Wt Ef Hd GH KH wpList Code.wp Sat pt FnOk Rd bodyPost Ret Exit.then Exit.inBlock Exit.noGoto exs Int.decLt Int.decLe Int.instDecidableEq
attribute [local irreducible] rep whole
variable {d : Nat} {D : DM} {hF : Hp}
theorem rdoes_ok (x : RX) (hx : D.Ok) : FnOk Go.Proofs.Try.prog 37 [dptr d] [rblk d (rcells D x)] hF (fun v Γ => v = .bool D.goes.1 ∧ Γ = [rblk d (rcells D.goes.2 x)]) := by
  refine FnOk.intro 37 Go.Proofs.Try.func37 rfl rfl fun w0 => ?_
  have hp := hx.plan
  have ho := hx.opn
  (repeat (first | refine GK.run ?_ | (refine GK.box ?_; intro bl) | (refine GK.mkMap ?_; intro bm) | (refine GK.build0 tb ?_; intro bs)))
  refine GK.split 7 _ rfl (fun h => ?_) (fun h => ?_)
  · have h : D.armed = true := h
    (repeat (first | refine GK.run ?_ | (refine GK.box ?_; intro bl) | (refine GK.mkMap ?_; intro bm) | (refine GK.build0 tb ?_; intro bs)))
    refine G.cond rfl (fun h1 => ?_) (fun h1 => ?_)
    · have h1 : D.plan = 0 := by simpa using h1
      (repeat (first | refine GK.run ?_ | (refine GK.box ?_; intro bl) | (refine GK.mkMap ?_; intro bm) | (refine GK.build0 tb ?_; intro bs)))
      refine GQ.end1 rfl rfl ?_
      unfold DM.goes
      rw [if_pos ⟨h, h1⟩]
      exact ⟨rfl, rfl⟩
    · have h1 : ¬ D.plan = 0 := by simpa using h1
      (repeat (first | refine GK.run ?_ | (refine GK.box ?_; intro bl) | (refine GK.mkMap ?_; intro bm) | (refine GK.build0 tb ?_; intro bs)))
      refine G.cond rfl (fun h2 => ?_) (fun h2 => ?_)
      · (repeat (first | refine GK.run ?_ | (refine GK.box ?_; intro bl) | (refine GK.mkMap ?_; intro bm) | (refine GK.build0 tb ?_; intro bs)))
        refine GQ.end1 rfl rfl ?_
        unfold DM.goes
        rw [if_neg (by rintro ⟨_, h⟩; exact h1 h), if_pos h]
        exact ⟨rfl, rfl⟩
      · exact absurd h2 (by rw [h]; simp)
  · have h : D.armed = false := h
    (repeat (first | refine GK.run ?_ | (refine GK.box ?_; intro bl) | (refine GK.mkMap ?_; intro bm) | (refine GK.build0 tb ?_; intro bs)))
    refine G.cond rfl (fun h2 => ?_) (fun h2 => ?_)
    · exact absurd h2 (by rw [h]; simp)
    · (repeat (first | refine GK.run ?_ | (refine GK.box ?_; intro bl) | (refine GK.mkMap ?_; intro bm) | (refine GK.build0 tb ?_; intro bs)))
      refine GQ.end1 rfl rfl ?_
      unfold DM.goes
      rw [if_neg (by rw [h]; simp), if_neg (by rw [h]; simp)]
      exact ⟨rfl, rfl⟩
theorem rarm_ok (n : Int) (hn : n ≤ 9223372036854775807) : FnOk Go.Proofs.Try.prog 34 [dptr d, .int .i64 n] [rk d D] hF (fun v Γ => v = .int .i64 (D.arm n).1 ∧ Γ = [rk d (D.arm n).2]) := by
  refine FnOk.intro 18 Go.Proofs.Try.func34 rfl rfl fun w0 => ?_
  refine GK.opens 0 rfl fun x hx => ?_
  (repeat (first | refine GK.run ?_ | (refine GK.box ?_; intro bl) | (refine GK.mkMap ?_; intro bm) | (refine GK.build0 tb ?_; intro bs)))
  refine G.cond rfl (fun h => ?_) (fun h => ?_)
  · have h : D.off = true := h
    (repeat (first | refine GK.run ?_ | (refine GK.box ?_; intro bl) | (refine GK.mkMap ?_; intro bm) | (refine GK.build0 tb ?_; intro bs)))
    refine GK.heap (Γ' := [rk d D]) (fun w s => shut_rk (x := x) hx (s.sel [0, 0, 0] rfl)) (GQ.end1 rfl rfl ?_)
    simp [DM.arm, h]
  · have h : D.off = false := h
    (repeat (first | refine GK.run ?_ | (refine GK.box ?_; intro bl) | (refine GK.mkMap ?_; intro bm) | (refine GK.build0 tb ?_; intro bs)))
    refine G.cond rfl (fun h1 => ?_) (fun h1 => ?_)
    · have h1 : n < 0 := by simpa using h1
      (repeat (first | refine GK.run ?_ | (refine GK.box ?_; intro bl) | (refine GK.mkMap ?_; intro bm) | (refine GK.build0 tb ?_; intro bs)))
      refine GK.heap (Γ' := [rk d D]) (fun w s => shut_rk (x := x) hx (s.sel [0, 0, 0] rfl)) (GQ.end1 rfl rfl ?_)
      simp [DM.arm, h, h1]
    · have h1 : ¬ n < 0 := by simpa using h1
      (repeat (first | refine GK.run ?_ | (refine GK.box ?_; intro bl) | (refine GK.mkMap ?_; intro bm) | (refine GK.build0 tb ?_; intro bs)))
      refine GK.heap (Γ' := [rk d { D with armed := true, plan := n }]) (fun w s => shut_rk (x := x) { hx with plan := ⟨by show 0 ≤ n; omega, hn⟩ } (s.sel [0, 0, 0] rfl)) (GQ.end1 rfl rfl ?_)
      simp [DM.arm, h, h1]
theorem rblank_ok : FnOk Go.Proofs.Try.prog 31 [] [] hF (fun v Γ => v = str blank ∧ Γ = []) := by
  refine FnOk.intro 3 Go.Proofs.Try.func31 rfl rfl fun w0 => ?_
  (repeat (first | refine GK.run ?_ | (refine GK.box ?_; intro bl) | (refine GK.mkMap ?_; intro bm) | (refine GK.build0 tb ?_; intro bs)))
  refine GL.cons ?_
  refine Gt.makeSlice tb (zl := [.int .u8 0]) (n := 256) (c := 256) .none rfl rfl (by kernel_rfl) rfl rfl rfl (Nat.le_refl _) (by omega) (by omega) ?_
  intro s
  (repeat (first | refine GK.run ?_ | (refine GK.box ?_; intro bl) | (refine GK.mkMap ?_; intro bm) | (refine GK.build0 tb ?_; intro bs)))
  have e : (List.replicate 256 [Value.int .u8 0]).flatten = u8s blank := by
    unfold blank rep
    rw [List.flatten_replicate_singleton]
    unfold u8s
    rw [List.map_replicate]; rfl
  rw [e]
  refine GL.cons ?_
  refine GO.yield .none (Yl.rowStr (s := blank) 0 rfl rfl rfl rfl rfl) ?_
  (repeat (first | refine GK.run ?_ | (refine GK.box ?_; intro bl) | (refine GK.mkMap ?_; intro bm) | (refine GK.build0 tb ?_; intro bs)))
  exact GK.heap (Γ' := []) (fun w s => s.sel [] rfl) (GQ.end1 rfl rfl ⟨rfl, rfl⟩)
end Go.Dk
