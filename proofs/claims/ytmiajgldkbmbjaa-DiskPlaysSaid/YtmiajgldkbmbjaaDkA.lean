/- The disk's small functions. -/
import Derived.Test.YtmiajgldkbmbjaaSlT
import Derived.Test.YtmiajgldkbmbjaaSlM
import Derived.Test.YtmiajgldkbmbjaaSlJ
import Derived.Test.YtmiajgldkbmbjaaSlZ
import Derived.Test.YtmiajgldkbmbjaaDkM
namespace Go.Dk
open Go Go.Sl
attribute [local irreducible] GK GO Yl Wt Ef Hd GH KH wpList Code.wp Sat pt FnOk Rd bodyPost Ret Exit.then Exit.inBlock Exit.noGoto exs Int.decLt Int.decLe Int.instDecidableEq

/-- A disk's seven cells. -/
def dcells (sp : Option Addr) (n sc : Nat) (pp : Option Addr) (k pc : Nat) (m : Nat) (off armed : Bool) (plan opn : Int) : List Value :=
  [.slice sp n sc, .slice pp k pc, .map (some m), .bool off, .bool armed, .int .i64 plan, .int .i64 opn]
abbrev dblk (d : Nat) (l : List Value) : HProp := blk d 61 (0, 0) l
abbrev dptr (d : Nat) : Value := .pointer (some ⟨d, 0, none⟩)

variable {sp pp : Option Addr} {n sc k pc m d : Nat} {off armed : Bool} {plan opn : Int} {hF : Hp}

theorem none_ok (hn : 0 < n) : FnOk Go.Proofs.Try.prog 27 [dptr d] [dblk d (dcells sp n sc pp k pc m off armed plan opn)] hF
    (fun v Γ => v = .bool false ∧ Γ = [dblk d (dcells sp n sc pp k pc m off armed plan opn)]) := by
  refine FnOk.intro 13 Go.Proofs.Try.func27 rfl rfl fun w0 => ?_
  (repeat (first | refine GK.run ?_ | (refine GK.box ?_; intro bl) | (refine GK.mkMap ?_; intro bm) | (refine GK.build0 tb ?_; intro bs)))
  refine GQ.end1 rfl rfl ⟨?_, rfl⟩
  simp; omega

theorem none_nil : FnOk Go.Proofs.Try.prog 27 [.pointer none] [] hF (fun v Γ => v = .bool true ∧ Γ = []) := by
  refine FnOk.intro 13 Go.Proofs.Try.func27 rfl rfl fun w0 => ?_
  (repeat (first | refine GK.run ?_ | (refine GK.box ?_; intro bl) | (refine GK.mkMap ?_; intro bm) | (refine GK.build0 tb ?_; intro bs)))
  exact GQ.end1 rfl rfl ⟨rfl, rfl⟩

def wrongI (off : Bool) (n : Nat) (i : Int) : Int := if off then 50 else if i < 0 ∨ n ≤ i then 2 else 0

theorem wrong_ok (hn : 0 < n) (i : Int) : FnOk Go.Proofs.Try.prog 29 [dptr d, .int .i64 i] [dblk d (dcells sp n sc pp k pc m off armed plan opn)] hF
    (fun v Γ => v = .int .i64 (wrongI off n i) ∧ Γ = [dblk d (dcells sp n sc pp k pc m off armed plan opn)]) := by
  refine FnOk.intro 25 Go.Proofs.Try.func29 rfl rfl fun w0 => ?_
  (repeat (first | refine GK.run ?_ | (refine GK.box ?_; intro bl) | (refine GK.mkMap ?_; intro bm) | (refine GK.build0 tb ?_; intro bs)))
  refine GL.cons ?_
  refine GO.call [0] (fun hF' _ _ => none_ok hn) .none (by kernel_rfl) rfl rfl rfl ?_
  rintro v Γ' ⟨rfl, rfl⟩
  (repeat (first | refine GK.run ?_ | (refine GK.box ?_; intro bl) | (refine GK.mkMap ?_; intro bm) | (refine GK.build0 tb ?_; intro bs)))
  refine G.cond rfl (fun h => ?_) (fun h => ?_)
  · (repeat (first | refine GK.run ?_ | (refine GK.box ?_; intro bl) | (refine GK.mkMap ?_; intro bm) | (refine GK.build0 tb ?_; intro bs)))
    exact GQ.end1 rfl rfl ⟨by simp [wrongI, h], rfl⟩
  · (repeat (first | refine GK.run ?_ | (refine GK.box ?_; intro bl) | (refine GK.mkMap ?_; intro bm) | (refine GK.build0 tb ?_; intro bs)))
    refine GK.split 16 _ rfl (fun h1 => ?_) (fun h1 => ?_)
    · (repeat (first | refine GK.run ?_ | (refine GK.box ?_; intro bl) | (refine GK.mkMap ?_; intro bm) | (refine GK.build0 tb ?_; intro bs)))
      exact GQ.end1 rfl rfl ⟨by simp at h1; simp [wrongI, h, h1], rfl⟩
    · (repeat (first | refine GK.run ?_ | (refine GK.box ?_; intro bl) | (refine GK.mkMap ?_; intro bm) | (refine GK.build0 tb ?_; intro bs)))
      refine G.cond rfl (fun h2 => ?_) (fun h2 => ?_)
      · (repeat (first | refine GK.run ?_ | (refine GK.box ?_; intro bl) | (refine GK.mkMap ?_; intro bm) | (refine GK.build0 tb ?_; intro bs)))
        exact GQ.end1 rfl rfl ⟨by simp at h1 h2; simp [wrongI, h, h2], rfl⟩
      · (repeat (first | refine GK.run ?_ | (refine GK.box ?_; intro bl) | (refine GK.mkMap ?_; intro bm) | (refine GK.build0 tb ?_; intro bs)))
        exact GQ.end1 rfl rfl ⟨by simp at h1 h2; simp [wrongI, h]; omega, rfl⟩

theorem wrong_nil (i : Int) : FnOk Go.Proofs.Try.prog 29 [.pointer none, .int .i64 i] [] hF (fun v Γ => v = .int .i64 1 ∧ Γ = []) := by
  refine FnOk.intro 25 Go.Proofs.Try.func29 rfl rfl fun w0 => ?_
  (repeat (first | refine GK.run ?_ | (refine GK.box ?_; intro bl) | (refine GK.mkMap ?_; intro bm) | (refine GK.build0 tb ?_; intro bs)))
  refine GL.cons ?_
  refine GO.call [] (fun hF' _ _ => none_nil) .none (by kernel_rfl) rfl rfl rfl ?_
  rintro v Γ' ⟨rfl, rfl⟩
  (repeat (first | refine GK.run ?_ | (refine GK.box ?_; intro bl) | (refine GK.mkMap ?_; intro bm) | (refine GK.build0 tb ?_; intro bs)))
  exact GQ.end1 rfl rfl ⟨rfl, rfl⟩

/-- An operation is counted, or the power goes. -/
theorem goes_ok (hp : 0 ≤ plan ∧ plan ≤ 9223372036854775807) (ho : 0 ≤ opn ∧ opn ≤ 1000000000000000000) :
    FnOk Go.Proofs.Try.prog 30 [dptr d] [dblk d (dcells sp n sc pp k pc m off armed plan opn)] hF
    (fun v Γ => if armed = true ∧ plan = 0 then v = .bool false ∧ Γ = [dblk d (dcells sp n sc pp k pc m true armed plan opn)]
      else v = .bool true ∧ Γ = [dblk d (dcells sp n sc pp k pc m off armed (if armed then plan - 1 else plan) (opn + 1))]) := by
  refine FnOk.intro 29 Go.Proofs.Try.func30 rfl rfl fun w0 => ?_
  (repeat (first | refine GK.run ?_ | (refine GK.box ?_; intro bl) | (refine GK.mkMap ?_; intro bm) | (refine GK.build0 tb ?_; intro bs)))
  refine G.cond rfl (fun h => ?_) (fun h => ?_)
  · (repeat (first | refine GK.run ?_ | (refine GK.box ?_; intro bl) | (refine GK.mkMap ?_; intro bm) | (refine GK.build0 tb ?_; intro bs)))
    refine G.cond rfl (fun h1 => ?_) (fun h1 => ?_)
    · (repeat (first | refine GK.run ?_ | (refine GK.box ?_; intro bl) | (refine GK.mkMap ?_; intro bm) | (refine GK.build0 tb ?_; intro bs)))
      refine GQ.end1 rfl rfl ?_
      rw [if_pos ⟨h, by simpa using h1⟩]
      exact ⟨rfl, rfl⟩
    · (repeat (first | refine GK.run ?_ | (refine GK.box ?_; intro bl) | (refine GK.mkMap ?_; intro bm) | (refine GK.build0 tb ?_; intro bs)))
      refine GQ.end1 rfl rfl ?_
      have h1 : ¬ plan = 0 := by simpa using h1
      rw [if_neg (by simp [h1]), if_pos h]
      exact ⟨rfl, rfl⟩
  · (repeat (first | refine GK.run ?_ | (refine GK.box ?_; intro bl) | (refine GK.mkMap ?_; intro bm) | (refine GK.build0 tb ?_; intro bs)))
    refine GQ.end1 rfl rfl ?_
    rw [if_neg (by simp [h]), if_neg (by simp [h])]
    exact ⟨rfl, rfl⟩
end Go.Dk
