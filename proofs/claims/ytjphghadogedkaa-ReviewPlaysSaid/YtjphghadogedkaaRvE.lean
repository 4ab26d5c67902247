/- A board's sheet is taken out and put back; an open one; votes. -/
import Derived.Test.YtjphghadogedkaaRvD
set_option linter.unusedSimpArgs false
set_option linter.unusedVariables false
namespace Go.Re
open Go Go.Sl
set_option maxRecDepth 100000
def bk (b n : Nat) (p : Option Addr) (c : Nat) : HProp := blk b 70 (0, 0) [.slice p n c, .bool true]
def rw_ (n : Nat) (p : Option Addr) (c : Nat) (ad : List Nat) : HProp := row (.slice p n c) 78 1 n (ptrs ad)
theorem board_miss {f : FuncId} {args : List Value} {b : Nat} {L : List Sh} {hF : Hp} {R : Value → List HProp → Prop}
    (h : ∀ hF p c ad, ad.length = L.length → FnOk Go.Proofs.Try.prog f args [bk b L.length p c, rw_ L.length p c ad] hF (fun v Γ => ∃ ex, R v ex ∧ Γ = bk b L.length p c :: rw_ L.length p c ad :: ex)) :
    FnOk Go.Proofs.Try.prog f args [board b L] hF (fun v Γ => ∃ ex, R v ex ∧ Γ = board b L :: ex) := fun w s => by
  obtain ⟨⟨p, c, ad⟩, had, s2⟩ := s.opens
  have s3 : Sat ([bk b L.length p c, rw_ L.length p c ad] ++ [sheets ad L]) hF w := s2.perm ((List.Perm.swap _ _ _).trans ((List.Perm.swap _ _ _).cons _))
  have := (FnOk.frame (Δ := [sheets ad L]) fun hF' _ _ => h hF' p c ad had) w s3
  refine Calls.mono this (Ret.mono ?_)
  rintro v Γ' ⟨Γ'', rfl, ex, hR, rfl⟩ w' s'
  refine ⟨_, ⟨ex, hR, rfl⟩, Sat.shut (p, c, ad) had ?_⟩
  exact s'.perm (List.perm_append_comm (l₁ := bk b L.length p c :: rw_ L.length p c ad :: ex) (l₂ := [sheets ad L]))
theorem board_at {f : FuncId} {args : List Value} {b : Nat} {L : List Sh} {hF : Hp} {i : Nat} {s0 : Sh} {R : Value → List HProp → Sh → Prop} (hi : L[i]? = some s0)
    (h : ∀ hF p c ad a, ad.length = L.length → ad[i]? = some a → FnOk Go.Proofs.Try.prog f args [sheet a s0, bk b L.length p c, rw_ L.length p c ad] hF (fun v Γ => ∃ ex s', R v ex s' ∧ Γ = sheet a s' :: bk b L.length p c :: rw_ L.length p c ad :: ex)) :
    FnOk Go.Proofs.Try.prog f args [board b L] hF (fun v Γ => ∃ ex s', R v ex s' ∧ Γ = board b (L.set i s') :: ex) := fun w s => by
  obtain ⟨⟨p, c, ad⟩, had, s2⟩ := s.opens
  have hil : i < L.length := (List.getElem?_eq_some_iff.1 hi).1
  replace had : ad.length = L.length := had
  obtain ⟨a, ha⟩ : ∃ a, ad[i]? = some a := ⟨_, List.getElem?_eq_getElem (by omega)⟩
  have s3 := Sat.pull ha hi s2
  have s4 : Sat ([sheet a s0, bk b L.length p c, rw_ L.length p c ad] ++ [star ((List.zipWith sheet ad L).eraseIdx i)]) hF w := s3.perm (((List.Perm.swap _ _ _).trans ((List.Perm.swap _ _ _).cons _)).cons _)
  have := (FnOk.frame (Δ := [star ((List.zipWith sheet ad L).eraseIdx i)]) fun hF' _ _ => h hF' p c ad a had ha) w s4
  refine Calls.mono this (Ret.mono ?_)
  rintro v Γ' ⟨Γ'', rfl, ex, s', hR, rfl⟩ w' s5
  refine ⟨_, ⟨ex, s', hR, rfl⟩, ?_⟩
  have s6 : Sat (sheet a s' :: star ((List.zipWith sheet ad L).eraseIdx i) :: bk b L.length p c :: rw_ L.length p c ad :: ex) hF w' := s5.perm ((List.perm_append_comm (l₁ := bk b L.length p c :: rw_ L.length p c ad :: ex) (l₂ := [star ((List.zipWith sheet ad L).eraseIdx i)])).cons _)
  have s7 := Sat.put ha hil s6
  refine Sat.shut (p, c, ad) (by simpa using had) ?_
  simpa [bk, rw_] using s7
/-! Votes. -/
def vset : List (By × Int) → By → Int → List (By × Int)
  | [], a, u => [(a, u)]
  | (k, v) :: r, a, u => if a = k then (a, u) :: r else (k, v) :: vset r a u
def vdel : List (By × Int) → By → List (By × Int)
  | [], _ => []
  | (k, v) :: r, a => if a = k then r else (k, v) :: vdel r a
def vget : List (By × Int) → By → Int
  | [], _ => 0
  | (k, v) :: r, a => if a = k then v else vget r a
theorem enc_vset (vs : List (By × Int)) (a : By) (u : Int) : mset (encV vs) a (.int .i64 u) = encV (vset vs a u) := by
  induction vs with
  | nil => rfl
  | cons x r ih =>
    obtain ⟨k, v⟩ := x
    show mset ((k, .int .i64 v) :: encV r) a (.int .i64 u) = _
    simp only [mset, vset]
    split
    · rfl
    · rw [ih]; rfl
theorem enc_vdel (vs : List (By × Int)) (a : By) : mdel (encV vs) a = encV (vdel vs a) := by
  induction vs with
  | nil => rfl
  | cons x r ih =>
    obtain ⟨k, v⟩ := x
    show mdel ((k, .int .i64 v) :: encV r) a = _
    simp only [mdel, vdel]
    split
    · rfl
    · rw [ih]; rfl
theorem enc_vget (vs : List (By × Int)) (a : By) : (mget (encV vs) a).getD (.int .i64 0) = .int .i64 (vget vs a) := by
  induction vs with
  | nil => rfl
  | cons x r ih =>
    obtain ⟨k, v⟩ := x
    show (mget ((k, .int .i64 v) :: encV r) a).getD _ = _
    rw [mget_cons]
    simp only [vget]
    split
    · rfl
    · exact ih
set_option maxRecDepth 100000
set_option maxHeartbeats 4000000
attribute [local irreducible] GK GO Yl Wt Ef Hd GH KH wpListIn Code.wpIn toBody roundQ poolOf rs RS YieldOk IterOk VOk row star exs mp lp Sat pt FnOk Rd bodyPost bodyPostM Lv Ret Exit.then Exit.inBlock Exit.noGoto Int.decLt Int.decLe Int.instDecidableEq
attribute [local irreducible] u8s strs likeTo propC encV prs ptrs sheetC sheets
set_option pp.deepTerms true
set_option pp.maxSteps 1000000
variable {hF H : Hp}
theorem live_nil {id : Int} : FnOk Go.Proofs.Try.prog 39 [.pointer none, .int .i64 id] [] hF (fun v Γ => v = .tuple #[.pointer none, .int .i64 1] ∧ Γ = []) := by
  refine FnOk.intro 24 Go.Proofs.Try.func39 rfl rfl fun w0 => ?_
  (repeat (first | refine GK.ro ?_ | (refine GK.box ?_; intro bl) | (refine GK.mkMap ?_; intro bm) | (refine GK.build0 tb ?_; intro bs)))
  refine GL.cons ?_; refine GO.callA (fun hF' hle hH => at_nil) (by first | exact Wt.none | exact Wt.some rfl rfl (by first | exact rfl | decide +kernel)) (by kernel_rfl) rfl rfl (by repeat (first | exact SubR.nil | apply SubR.cons 0 rfl | apply SubR.cons 1 rfl | apply SubR.cons 2 rfl | apply SubR.cons 3 rfl | apply SubR.cons 4 rfl | apply SubR.cons 5 rfl | apply SubR.cons 6 rfl | apply SubR.cons 7 rfl | apply SubR.cons 8 rfl | apply SubR.cons 9 rfl | apply SubR.cons 10 rfl | apply SubR.cons 11 rfl | apply SubR.cons 12 rfl | apply SubR.cons 13 rfl | apply SubR.cons 14 rfl | apply SubR.cons 15 rfl)) ?_
  rintro v Γ' ⟨rfl, rfl⟩
  (repeat (first | refine GK.ro ?_ | (refine GK.box ?_; intro bl) | (refine GK.mkMap ?_; intro bm) | (refine GK.build0 tb ?_; intro bs)))
  refine GL.cons ?_; refine GO.callA (fun hF' hle hH => none_nil) (by first | exact Wt.none | exact Wt.some rfl rfl (by first | exact rfl | decide +kernel)) (by kernel_rfl) rfl rfl (by repeat (first | exact SubR.nil | apply SubR.cons 0 rfl | apply SubR.cons 1 rfl | apply SubR.cons 2 rfl | apply SubR.cons 3 rfl | apply SubR.cons 4 rfl | apply SubR.cons 5 rfl | apply SubR.cons 6 rfl | apply SubR.cons 7 rfl | apply SubR.cons 8 rfl | apply SubR.cons 9 rfl | apply SubR.cons 10 rfl | apply SubR.cons 11 rfl | apply SubR.cons 12 rfl | apply SubR.cons 13 rfl | apply SubR.cons 14 rfl | apply SubR.cons 15 rfl)) ?_
  rintro v Γ' ⟨rfl, rfl⟩
  (repeat (first | refine GK.ro ?_ | (refine GK.box ?_; intro bl) | (refine GK.mkMap ?_; intro bm) | (refine GK.build0 tb ?_; intro bs)))
  exact GQ.fin2 rfl (Rv.tmp rfl) (Rv.tmp rfl) (fun _ s => Sat.sub (by repeat (first | exact SubR.nil | apply SubR.cons 0 rfl | apply SubR.cons 1 rfl | apply SubR.cons 2 rfl | apply SubR.cons 3 rfl | apply SubR.cons 4 rfl | apply SubR.cons 5 rfl | apply SubR.cons 6 rfl | apply SubR.cons 7 rfl | apply SubR.cons 8 rfl | apply SubR.cons 9 rfl | apply SubR.cons 10 rfl | apply SubR.cons 11 rfl | apply SubR.cons 12 rfl | apply SubR.cons 13 rfl | apply SubR.cons 14 rfl | apply SubR.cons 15 rfl)) s) ⟨rfl, rfl⟩
theorem live_no {id : Int} {b : Nat} {lv : Value} : FnOk Go.Proofs.Try.prog 39 [.pointer (some ⟨b, 0, none⟩), .int .i64 id] [blk b 70 (0, 0) [lv, .bool false]] hF (fun v Γ => v = .tuple #[.pointer none, .int .i64 1] ∧ Γ = [blk b 70 (0, 0) [lv, .bool false]]) := by
  refine FnOk.intro 24 Go.Proofs.Try.func39 rfl rfl fun w0 => ?_
  (repeat (first | refine GK.ro ?_ | (refine GK.box ?_; intro bl) | (refine GK.mkMap ?_; intro bm) | (refine GK.build0 tb ?_; intro bs)))
  refine GL.cons ?_; refine GO.callA (fun hF' hle hH => at_no) (by first | exact Wt.none | exact Wt.some rfl rfl (by first | exact rfl | decide +kernel)) (by kernel_rfl) rfl rfl (by repeat (first | exact SubR.nil | apply SubR.cons 0 rfl | apply SubR.cons 1 rfl | apply SubR.cons 2 rfl | apply SubR.cons 3 rfl | apply SubR.cons 4 rfl | apply SubR.cons 5 rfl | apply SubR.cons 6 rfl | apply SubR.cons 7 rfl | apply SubR.cons 8 rfl | apply SubR.cons 9 rfl | apply SubR.cons 10 rfl | apply SubR.cons 11 rfl | apply SubR.cons 12 rfl | apply SubR.cons 13 rfl | apply SubR.cons 14 rfl | apply SubR.cons 15 rfl)) ?_
  rintro v Γ' ⟨rfl, rfl⟩
  (repeat (first | refine GK.ro ?_ | (refine GK.box ?_; intro bl) | (refine GK.mkMap ?_; intro bm) | (refine GK.build0 tb ?_; intro bs)))
  refine GL.cons ?_; refine GO.callA (fun hF' hle hH => none_ok) (by first | exact Wt.none | exact Wt.some rfl rfl (by first | exact rfl | decide +kernel)) (by kernel_rfl) rfl rfl (by repeat (first | exact SubR.nil | apply SubR.cons 0 rfl | apply SubR.cons 1 rfl | apply SubR.cons 2 rfl | apply SubR.cons 3 rfl | apply SubR.cons 4 rfl | apply SubR.cons 5 rfl | apply SubR.cons 6 rfl | apply SubR.cons 7 rfl | apply SubR.cons 8 rfl | apply SubR.cons 9 rfl | apply SubR.cons 10 rfl | apply SubR.cons 11 rfl | apply SubR.cons 12 rfl | apply SubR.cons 13 rfl | apply SubR.cons 14 rfl | apply SubR.cons 15 rfl)) ?_
  rintro v Γ' ⟨rfl, rfl⟩
  (repeat (first | refine GK.ro ?_ | (refine GK.box ?_; intro bl) | (refine GK.mkMap ?_; intro bm) | (refine GK.build0 tb ?_; intro bs)))
  exact GQ.fin2 rfl (Rv.tmp rfl) (Rv.tmp rfl) (fun _ s => Sat.sub (by repeat (first | exact SubR.nil | apply SubR.cons 0 rfl | apply SubR.cons 1 rfl | apply SubR.cons 2 rfl | apply SubR.cons 3 rfl | apply SubR.cons 4 rfl | apply SubR.cons 5 rfl | apply SubR.cons 6 rfl | apply SubR.cons 7 rfl | apply SubR.cons 8 rfl | apply SubR.cons 9 rfl | apply SubR.cons 10 rfl | apply SubR.cons 11 rfl | apply SubR.cons 12 rfl | apply SubR.cons 13 rfl | apply SubR.cons 14 rfl | apply SubR.cons 15 rfl)) s) ⟨rfl, rfl⟩
theorem live_miss {id : Int} {b n c : Nat} {p : Option Addr} {ad : List Nat} (hn : ad.length = n) (hl : ad.length ≤ 1099511627776) (hid : atM ad id = none) :
    FnOk Go.Proofs.Try.prog 39 [.pointer (some ⟨b, 0, none⟩), .int .i64 id] [bk b n p c, rw_ n p c ad] hF (fun v Γ => v = .tuple #[.pointer none, .int .i64 111] ∧ Γ = [bk b n p c, rw_ n p c ad]) := by
  refine FnOk.intro 24 Go.Proofs.Try.func39 rfl rfl fun w0 => ?_
  (repeat (first | refine GK.ro ?_ | (refine GK.box ?_; intro bl) | (refine GK.mkMap ?_; intro bm) | (refine GK.build0 tb ?_; intro bs)))
  refine GL.cons ?_; refine GO.callA (fun hF' hle hH => at_ok hn hl) (by first | exact Wt.none | exact Wt.some rfl rfl (by first | exact rfl | decide +kernel)) (by kernel_rfl) rfl rfl (by repeat (first | exact SubR.nil | apply SubR.cons 0 rfl | apply SubR.cons 1 rfl | apply SubR.cons 2 rfl | apply SubR.cons 3 rfl | apply SubR.cons 4 rfl | apply SubR.cons 5 rfl | apply SubR.cons 6 rfl | apply SubR.cons 7 rfl | apply SubR.cons 8 rfl | apply SubR.cons 9 rfl | apply SubR.cons 10 rfl | apply SubR.cons 11 rfl | apply SubR.cons 12 rfl | apply SubR.cons 13 rfl | apply SubR.cons 14 rfl | apply SubR.cons 15 rfl)) ?_
  rw [hid]
  rintro v Γ' ⟨rfl, rfl⟩
  (repeat (first | refine GK.ro ?_ | (refine GK.box ?_; intro bl) | (refine GK.mkMap ?_; intro bm) | (refine GK.build0 tb ?_; intro bs)))
  refine GL.cons ?_; refine GO.callA (fun hF' hle hH => none_ok) (by first | exact Wt.none | exact Wt.some rfl rfl (by first | exact rfl | decide +kernel)) (by kernel_rfl) rfl rfl (by repeat (first | exact SubR.nil | apply SubR.cons 0 rfl | apply SubR.cons 1 rfl | apply SubR.cons 2 rfl | apply SubR.cons 3 rfl | apply SubR.cons 4 rfl | apply SubR.cons 5 rfl | apply SubR.cons 6 rfl | apply SubR.cons 7 rfl | apply SubR.cons 8 rfl | apply SubR.cons 9 rfl | apply SubR.cons 10 rfl | apply SubR.cons 11 rfl | apply SubR.cons 12 rfl | apply SubR.cons 13 rfl | apply SubR.cons 14 rfl | apply SubR.cons 15 rfl)) ?_
  rintro v Γ' ⟨rfl, rfl⟩
  (repeat (first | refine GK.ro ?_ | (refine GK.box ?_; intro bl) | (refine GK.mkMap ?_; intro bm) | (refine GK.build0 tb ?_; intro bs)))
  exact GQ.fin2 rfl (Rv.tmp rfl) (Rv.tmp rfl) (fun _ s => Sat.sub (by repeat (first | exact SubR.nil | apply SubR.cons 0 rfl | apply SubR.cons 1 rfl | apply SubR.cons 2 rfl | apply SubR.cons 3 rfl | apply SubR.cons 4 rfl | apply SubR.cons 5 rfl | apply SubR.cons 6 rfl | apply SubR.cons 7 rfl | apply SubR.cons 8 rfl | apply SubR.cons 9 rfl | apply SubR.cons 10 rfl | apply SubR.cons 11 rfl | apply SubR.cons 12 rfl | apply SubR.cons 13 rfl | apply SubR.cons 14 rfl | apply SubR.cons 15 rfl)) s) ⟨rfl, rfl⟩
theorem live_at {id : Int} {b n c a : Nat} {p : Option Addr} {ad : List Nat} {cells : List Value} {o : Bool} (hn : ad.length = n) (hl : ad.length ≤ 1099511627776) (hid : atM ad id = some a) (ho : cells[0 + 35]? = some (.bool o)) :
    FnOk Go.Proofs.Try.prog 39 [.pointer (some ⟨b, 0, none⟩), .int .i64 id] [blk a 80 (0, 0) cells, bk b n p c, rw_ n p c ad] hF
      (fun v Γ => v = .tuple #[if o then .pointer (some ⟨a, 0, none⟩) else .pointer none, .int .i64 (if o then 0 else 201)] ∧ Γ = [blk a 80 (0, 0) cells, bk b n p c, rw_ n p c ad]) := by
  refine FnOk.intro 24 Go.Proofs.Try.func39 rfl rfl fun w0 => ?_
  (repeat (first | refine GK.ro ?_ | (refine GK.box ?_; intro bl) | (refine GK.mkMap ?_; intro bm) | (refine GK.build0 tb ?_; intro bs)))
  refine GL.cons ?_; refine GO.callA (fun hF' hle hH => at_ok hn hl) (by first | exact Wt.none | exact Wt.some rfl rfl (by first | exact rfl | decide +kernel)) (by kernel_rfl) rfl rfl (by repeat (first | exact SubR.nil | apply SubR.cons 0 rfl | apply SubR.cons 1 rfl | apply SubR.cons 2 rfl | apply SubR.cons 3 rfl | apply SubR.cons 4 rfl | apply SubR.cons 5 rfl | apply SubR.cons 6 rfl | apply SubR.cons 7 rfl | apply SubR.cons 8 rfl | apply SubR.cons 9 rfl | apply SubR.cons 10 rfl | apply SubR.cons 11 rfl | apply SubR.cons 12 rfl | apply SubR.cons 13 rfl | apply SubR.cons 14 rfl | apply SubR.cons 15 rfl)) ?_
  rw [hid]
  rintro v Γ' ⟨rfl, rfl⟩
  (repeat (first | refine GK.ro ?_ | (refine GK.box ?_; intro bl) | (refine GK.mkMap ?_; intro bm) | (refine GK.build0 tb ?_; intro bs)))
  refine GL.cons ?_; refine GO.callA (fun hF' hle hH => none_ok) (by first | exact Wt.none | exact Wt.some rfl rfl (by first | exact rfl | decide +kernel)) (by kernel_rfl) rfl rfl (by repeat (first | exact SubR.nil | apply SubR.cons 0 rfl | apply SubR.cons 1 rfl | apply SubR.cons 2 rfl | apply SubR.cons 3 rfl | apply SubR.cons 4 rfl | apply SubR.cons 5 rfl | apply SubR.cons 6 rfl | apply SubR.cons 7 rfl | apply SubR.cons 8 rfl | apply SubR.cons 9 rfl | apply SubR.cons 10 rfl | apply SubR.cons 11 rfl | apply SubR.cons 12 rfl | apply SubR.cons 13 rfl | apply SubR.cons 14 rfl | apply SubR.cons 15 rfl)) ?_
  rintro v Γ' ⟨rfl, rfl⟩
  have ho2 : cells[0 + 0 + 35]? = some (.bool o) := ho
  (repeat' (first | refine GK.ro ?_ | (refine GK.box ?_; intro bl) | (refine GK.mkMap ?_; intro bm) | (refine GK.build0 tb ?_; intro bs) | (first | refine G.condP rfl (fun hb => ?_) (fun hb => ?_) | refine G.condN rfl (fun hb => ?_) (fun hb => ?_) | refine G.cond rfl (fun hb => ?_) (fun hb => ?_)) | ((fail_if_success refine GL.fork (b := true) rfl rfl ?_ ?_); (fail_if_success refine GL.fork (b := false) rfl rfl ?_ ?_); first | refine GL.forkP rfl rfl (fun hb => ?_) (fun hb => ?_) | refine GL.forkN rfl rfl (fun hb => ?_) (fun hb => ?_) | refine GL.fork rfl rfl (fun hb => ?_) (fun hb => ?_)) | ((fail_if_success refine GL.forkPick (b := true) rfl ?_ ?_); (fail_if_success refine GL.forkPick (b := false) rfl ?_ ?_); refine GL.forkPick rfl (fun hb => ?_) (fun hb => ?_))))
  all_goals (refine GQ.fin2 rfl (Rv.tmp rfl) (Rv.tmp rfl) (fun _ s => Sat.sub (by repeat (first | exact SubR.nil | apply SubR.cons 0 rfl | apply SubR.cons 1 rfl | apply SubR.cons 2 rfl | apply SubR.cons 3 rfl | apply SubR.cons 4 rfl | apply SubR.cons 5 rfl | apply SubR.cons 6 rfl | apply SubR.cons 7 rfl | apply SubR.cons 8 rfl | apply SubR.cons 9 rfl | apply SubR.cons 10 rfl | apply SubR.cons 11 rfl | apply SubR.cons 12 rfl | apply SubR.cons 13 rfl | apply SubR.cons 14 rfl | apply SubR.cons 15 rfl)) s) ⟨?_, rfl⟩; simp_all [ptrO])
end Go.Re
