/- Patches as plain data and as cells; two lines are alike. -/
import Derived.Test.YtbbfhchceimflaaDoorPaD
import Derived.Test.YtbbfhchceimflaaDoorOcA
set_option linter.unusedSimpArgs false
set_option linter.unusedVariables false
namespace Go.Pb
open Go Go.Sl Go.Lb Go.Pa Go.Oc
set_option maxRecDepth 100000
set_option maxHeartbeats 1000000
structure Vx where
  h : By
  line : Int
  deriving DecidableEq
structure Op1 where
  kind : Int
  path : By
  up : Vx
  down : Vx
  lines : List By
  deriving DecidableEq
structure Pch where
  author : By
  time : Int
  note : By
  deps : List By
  ops : List Op1
  deriving DecidableEq
def i64ok (x : Int) : Prop := -9223372036854775808 ≤ x ∧ x ≤ 9223372036854775807
structure Vx.Ok (v : Vx) : Prop where
  h : v.h.length = 32
  line : i64ok v.line
structure Op1.Ok (o : Op1) : Prop where
  kind : i64ok o.kind
  path : o.path.length ≤ 1000000
  up : o.up.Ok
  down : o.down.Ok
  lines : o.lines.length ≤ 1000000
  line : ∀ s ∈ o.lines, s.length ≤ 1000000
structure Pch.Ok (p : Pch) : Prop where
  author : p.author.length ≤ 1000000
  time : i64ok p.time
  note : p.note.length ≤ 1000000
  deps : p.deps.length ≤ 1000000
  dep : ∀ h ∈ p.deps, h.length = 32
  ops : p.ops.length ≤ 1000000
  op : ∀ o ∈ p.ops, o.Ok
def zeroH : By := List.replicate 32 0
def topV : Vx := ⟨zeroH, 0⟩
def botV : Vx := ⟨zeroH, 1⟩
def vxC (v : Vx) : List Value := u8s v.h ++ [.int .i64 v.line]
def opC (x : Op1 × Value) : List Value := .int .i64 x.1.kind :: str x.1.path :: (vxC x.1.up ++ (vxC x.1.down ++ [x.2]))
def paC (p : Pch) (dv ov : Value) : List Value := [str p.author, .int .i64 p.time, str p.note, dv, ov]
def hs (l : List By) : List Value := l.flatMap u8s
theorem vxC_len {v : Vx} (h : v.Ok) : (vxC v).length = 33 := by unfold vxC; simp [u8s_len, h.h]
theorem vxC_hash (v : Vx) : At (vxC v) 0 (u8s v.h) := by
  intro j u e
  unfold vxC
  rw [Nat.zero_add, List.getElem?_append_left (List.getElem?_eq_some_iff.1 e).1]; exact e
theorem vxC_line {v : Vx} (h : v.Ok) : (vxC v)[32]? = some (.int .i64 v.line) := by
  unfold vxC; rw [List.getElem?_append_right (by rw [u8s_len, h.h]; omega)]; simp [u8s_len, h.h]
theorem opC_len {x : Op1 × Value} (h : x.1.Ok) : (opC x).length = 69 := by unfold opC; simp [vxC_len h.up, vxC_len h.down]
theorem opC_up (x : Op1 × Value) : At (opC x) 2 (vxC x.1.up) := by
  intro j v e
  unfold opC
  rw [show 2 + j = j + 1 + 1 by omega, List.getElem?_cons_succ, List.getElem?_cons_succ]
  rw [List.getElem?_append_left (List.getElem?_eq_some_iff.1 e).1]; exact e
theorem opC_down {x : Op1 × Value} (h : x.1.Ok) : At (opC x) 35 (vxC x.1.down) := by
  intro j v e
  unfold opC
  rw [show 35 + j = (33 + j) + 1 + 1 by omega, List.getElem?_cons_succ, List.getElem?_cons_succ, List.getElem?_append_right (by rw [vxC_len h.up]; omega), vxC_len h.up, show 33 + j - 33 = j by omega]
  rw [List.getElem?_append_left (List.getElem?_eq_some_iff.1 e).1]; exact e
theorem opC_lines {x : Op1 × Value} (h : x.1.Ok) : (opC x)[68]? = some x.2 := by
  unfold opC
  rw [List.getElem?_cons_succ, List.getElem?_cons_succ, List.getElem?_append_right (by rw [vxC_len h.up]; omega), vxC_len h.up, List.getElem?_append_right (by rw [vxC_len h.down]; omega), vxC_len h.down]; rfl
/-- The patch's slices, in this memory. -/
structure PaAt (H : Hp) (p : Pch) (dv ov : Value) : Prop where
  deps : rs H dv p.deps.length 32 (hs p.deps)
  ops : ∃ xs : List (Op1 × Value), xs.map (·.1) = p.ops ∧ rs H ov p.ops.length 69 (xs.flatMap opC) ∧ ∀ x ∈ xs, rs H x.2 x.1.lines.length 1 (strs x.1.lines)
theorem PaAt.mono {H H' : Hp} {p : Pch} {dv ov : Value} (h : PaAt H p dv ov) (hl : le H H') : PaAt H' p dv ov := by
  obtain ⟨h1, xs, h2, h3, h4⟩ := h
  exact ⟨h1.mono hl, xs, h2, h3.mono hl, fun x hx => (h4 x hx).mono hl⟩
/-- The variable bottom. -/
def Bot (H : Hp) : Prop := ∃ e fz, H 0 = some (.cells ⟨vxC botV⟩ e fz)
theorem Bot.mono {H H' : Hp} (h : Bot H) (hl : le H H') : Bot H' := by obtain ⟨e, fz, h⟩ := h; exact ⟨e, fz, hl _ _ h⟩
theorem zeroH_len : zeroH.length = 32 := rfl
theorem botV_ok : botV.Ok := ⟨rfl, by unfold i64ok botV; decide⟩
theorem topV_ok : topV.Ok := ⟨rfl, by unfold i64ok topV; decide⟩
theorem vx_beq {a b : Vx} : (a.h == b.h && decide (a.line = b.line)) = decide (a = b) := by
  cases a; cases b; rw [Bool.eq_iff_iff]; simp
theorem equal_vx (w : World) {a b : Vx} (ha : a.Ok) (hb : b.Ok) : (Op.equal 57 (.agg ⟨vxC a⟩) (.agg ⟨vxC b⟩)).run Go.Proofs.Tryd.prog w = .ok (decide (a = b)) w := by
  have hf : (Program.fieldsOf Go.Proofs.Tryd.prog 57).toList = [⟨"Patch", 37, 0, false, "", "", 0⟩, ⟨"Line", 3, 32, false, "", "", 32⟩] := by kernel_rfl
  have hp : ∀ (l : List Value) (i : Nat) (v : Value), l[i]? = some v → (part 3 ⟨l⟩ i).run Go.Proofs.Tryd.prog w = .ok v w := fun l i v h => by simp [part, run_isAgg (show isRow Go.Proofs.Tryd.prog 3 = some false by kernel_rfl), h]
  have hq : ∀ (v : Vx), v.Ok → (part 37 ⟨vxC v⟩ 0).run Go.Proofs.Tryd.prog w = .ok (.agg ⟨u8s v.h⟩) w := fun v h => by
    have : (vxC v).take 32 = u8s v.h := by unfold vxC; rw [List.take_left' (by rw [u8s_len, h.h])]
    simp [part, run_isAgg (show isRow Go.Proofs.Tryd.prog 37 = some true by kernel_rfl), Sl.run_sizeOf (show tsize Go.Proofs.Tryd.prog 37 = some 32 by kernel_rfl), List.extract_eq_take_drop, this]
  show (Op.equalIn (9999 + 1) _ _ _).run _ w = _
  rw [run_equalIn_struct w 9999 57 _ _ (by kernel_rfl) (by kernel_rfl), hf, ← vx_beq]
  have q1 := hq a ha
  have q2 := hq b hb
  have q3 := hp (vxC a) 32 _ (vxC_line ha)
  have q4 := hp (vxC b) 32 _ (vxC_line hb)
  have q5 : (Op.equalIn 9999 37 (.agg ⟨u8s a.h⟩) (.agg ⟨u8s b.h⟩)).run Go.Proofs.Tryd.prog w = .ok (a.h == b.h) w := run_equalIn_bytes w 9997 37 5 32 (by kernel_rfl) (by kernel_rfl) (fun w => Sl.run_sizeOf (by kernel_rfl) w) a.h b.h ha.h hb.h
  have q6 : (Op.equalIn 9999 3 (.int .i64 a.line) (.int .i64 b.line)).run Go.Proofs.Tryd.prog w = .ok (decide (a.line = b.line)) w := by
    rw [run_equalIn_int w 9998 3 .i64 .i64 a.line b.line (show (Go.Proofs.Tryd.prog).underlying 3 = some (.int .i64) by kernel_rfl)]
    first | rfl | simp
  simp only [Op.eqFields, Sem.run_bind, Sem.run_ite, Sem.run_pure]
  rw [if_pos (by decide), q1, Result.andThen_ok, q2, Result.andThen_ok, q5, Result.andThen_ok]
  cases a.h == b.h
  · rfl
  · rw [if_neg (by decide), if_pos (by decide), q3, Result.andThen_ok, q4, Result.andThen_ok, q6, Result.andThen_ok]
    cases decide (a.line = b.line) <;> rfl
theorem eq_vx {a b : Vx} (ha : a.Ok) (hb : b.Ok) : EqlAt Go.Proofs.Tryd.prog 57 (vxC a) (vxC b) (decide (a = b)) := ⟨by kernel_rfl, fun w => equal_vx w ha hb⟩
theorem eq_hash {a b : By} (ha : a.length = 32) (hb : b.length = 32) : EqlAt Go.Proofs.Tryd.prog 37 (u8s a) (u8s b) (a == b) := EqlAt.bytes (e := 5) (n := 32) (by kernel_rfl) (by kernel_rfl) (by kernel_rfl) (by kernel_rfl) ha hb
end Go.Pb
