/- names: paths. -/
import Derived.Test.YtbbfhchceimflaaDoorPaA
import Derived.Test.YtbbfhchceimflaaDoorLbA
set_option linter.unusedSimpArgs false
set_option linter.unusedVariables false
namespace Go.Pa
open Go Go.Sl Go.Lb
/-- What stands between slashes. -/
def splitM : Ky → List Ky
  | [] => [[]]
  | c :: r => if c = 47 then [] :: splitM r else match splitM r with
    | p :: ps => (c :: p) :: ps
    | [] => [[c]]
theorem splitM_none {s : Ky} (h : s.findIdx? (· == (47 : UInt8)) = none) : splitM s = [s] := by
  induction s with
  | nil => rfl
  | cons c r ih =>
    have h1 := List.findIdx?_eq_none_iff.1 h
    have hc : ¬ c = 47 := by have := h1 c (by simp); simpa using this
    have hr : r.findIdx? (· == (47 : UInt8)) = none := List.findIdx?_eq_none_iff.2 fun x hx => h1 x (by simp [hx])
    unfold splitM
    rw [if_neg hc, ih hr]
theorem splitM_some : ∀ {s : Ky} {i : Nat}, s.findIdx? (· == (47 : UInt8)) = some i → splitM s = s.take i :: splitM (s.drop (i + 1))
  | [], i, h => by simp at h
  | c :: r, i, h => by
    by_cases hc : c = 47
    · subst hc
      simp [List.findIdx?_cons] at h
      subst h
      simp [splitM]
    · rw [List.findIdx?_cons] at h
      simp [hc] at h
      obtain ⟨j, hj, rfl⟩ := h
      have ih := splitM_some (s := r) (i := j) (by rw [← hj])
      rw [splitM, if_neg hc, ih]
      simp
/-- Numbered. -/
def en : Nat → List Ky → List (Nat × Ky)
  | _, [] => []
  | i, p :: r => (i, p) :: en (i + 1) r
theorem en_length : ∀ (l : List Ky) (i : Nat), (en i l).length = l.length
  | [], _ => rfl
  | _ :: r, i => by simp [en, en_length r]
theorem en_mem : ∀ {l : List Ky} {i : Nat} {x : Nat × Ky}, x ∈ en i l → x.2 ∈ l ∧ i ≤ x.1 ∧ x.1 < i + l.length
  | p :: r, i, x, h => by
    simp only [en, List.mem_cons] at h
    rcases h with rfl | h
    · simp
    · have := en_mem h
      simp; exact ⟨.inr this.1, by omega, by omega⟩
theorem splitM_len (s : Ky) : (splitM s).length ≤ s.length + 1 ∧ ∀ p ∈ splitM s, p.length ≤ s.length := by
  induction s with
  | nil => simp [splitM]
  | cons c r ih =>
    unfold splitM
    split
    · simp; refine ⟨by omega, fun p hp => ?_⟩
      have := ih.2 p hp; omega
    · split
      · rename_i p ps he
        rw [he] at ih
        simp at ih ⊢
        refine ⟨by omega, by omega, fun q hq => ?_⟩
        have := ih.2.2 q hq; omega
      · simp
def partM (p : Ky) : Bool := wordM p true && !(p == [46]) && !(p == [46, 46])
def okP (x : Nat × Ky) : Bool := decide (x.1 < 8) && partM x.2
def pathM (s : Ky) : Bool := decide (s.length ≤ 64) && (en 0 (splitM s)).all okP
def encP (x : Nat × Ky) : List Value := [.int .i64 x.1, str x.2]
abbrev kbox (b : Nat) (k : Ky) : HProp := blk b 9 (0, 0) [str k]
set_option maxRecDepth 100000
set_option maxHeartbeats 4000000
attribute [local irreducible] GK GO Yl Wt Ef Hd GH KH wpListIn Code.wpIn toBody roundQ poolOf rs RS YieldOk IterOk VOk row star exs mp lp Sat pt FnOk Rd bodyPost bodyPostM Lv Ret Exit.then Exit.inBlock Exit.noGoto Int.decLt Int.decLe Int.instDecidableEq
attribute [local irreducible] letM wordM splitM okP cutM fact
set_option pp.deepTerms true
set_option pp.maxSteps 1000000
variable {hF : Hp}
theorem pieces1_ok (s : Ky) (b1 : Nat) (hs : s.length < 1000000000) : IterOk Go.Proofs.Tryd.prog 103 #[] #[.pointer (some ⟨b1, 0, none⟩)] encP (en 0 (splitM s)) [kbox b1 s] (fun Γ => ∃ r, Γ = [kbox b1 r]) hF := by
  unfold IterOk
  intro y J JB hF' hle hy
  unfold YieldOk at hy
  show FnOk _ _ [y, .pointer (some ⟨b1, 0, none⟩)] _ _ _
  refine FnOk.intro 25 Go.Proofs.Tryd.func103 rfl rfl fun w0 => ?_
  (repeat (first | refine GK.ro ?_ | (refine GK.box ?_; intro bl) | (refine GK.mkMap ?_; intro bm) | (refine GK.build0 tb ?_; intro bs)))
  refine GK.weak (by repeat (first | exact trivial | refine ⟨rfl, ?_⟩)) (fun _ s => Sat.sub (by repeat (first | exact SubR.nil | apply SubR.cons 0 rfl | apply SubR.cons 1 rfl | apply SubR.cons 2 rfl | apply SubR.cons 3 rfl | apply SubR.cons 4 rfl | apply SubR.cons 5 rfl | apply SubR.cons 6 rfl | apply SubR.cons 7 rfl | apply SubR.cons 8 rfl | apply SubR.cons 9 rfl | apply SubR.cons 10 rfl | apply SubR.cons 11 rfl | apply SubR.cons 12 rfl | apply SubR.cons 13 rfl | apply SubR.cons 14 rfl | apply SubR.cons 15 rfl)) s) (G.loop (fun x : Nat × Ky × List (Nat × Ky) => x.2.1.length) (fun x => [(0, y), (1, .pointer (some ⟨b1, 0, none⟩)), (3, .int .i64 (x.1 : Int))]) (fun x => [J x.2.2, kbox b1 x.2.1]) (fun x => en 0 (splitM s) = x.2.2 ++ en x.1 (splitM x.2.1) ∧ x.1 + x.2.1.length < 1000000000) (fun x hx => ?_) (0, s, []) ⟨rfl, by show 0 + s.length < _; omega⟩)
  obtain ⟨i, r, pre⟩ := x
  obtain ⟨he, hl⟩ := hx
  replace he : en 0 (splitM s) = pre ++ en i (splitM r) := he
  replace hl : i + r.length < 1000000000 := hl
  (repeat (first | refine GK.ro ?_ | (refine GK.box ?_; intro bl) | (refine GK.mkMap ?_; intro bm) | (refine GK.build0 tb ?_; intro bs)))
  refine GL.cons ?_; refine GO.callA (fun hF' hle hH => cut_ok r 47 (by omega)) (by first | exact Wt.none | exact Wt.some rfl rfl (by first | exact rfl | decide +kernel)) (by kernel_rfl) rfl rfl (by repeat (first | exact SubR.nil | apply SubR.cons 0 rfl | apply SubR.cons 1 rfl | apply SubR.cons 2 rfl | apply SubR.cons 3 rfl | apply SubR.cons 4 rfl | apply SubR.cons 5 rfl | apply SubR.cons 6 rfl | apply SubR.cons 7 rfl | apply SubR.cons 8 rfl | apply SubR.cons 9 rfl | apply SubR.cons 10 rfl | apply SubR.cons 11 rfl | apply SubR.cons 12 rfl | apply SubR.cons 13 rfl | apply SubR.cons 14 rfl | apply SubR.cons 15 rfl)) ?_
  rintro v Γ' ⟨rfl, rfl⟩
  (repeat (first | refine GK.ro ?_ | (refine GK.box ?_; intro bl) | (refine GK.mkMap ?_; intro bm) | (refine GK.build0 tb ?_; intro bs)))
  cases h : r.findIdx? (· == (47 : UInt8)) with
  | none =>
    have hcut : cutM r 47 = (r, [], false) := by unfold cutM; rw [h]
    rw [splitM_none h] at he
    rw [hcut]
    have hpre : pre ++ [(i, r)] <+: en 0 (splitM s) := by rw [he]; exact List.prefix_refl _
    have hall : en 0 (splitM s) = pre ++ [(i, r)] := he
    refine GL.cons ?_
    refine GO.callV (Γf := [J pre]) (fun hF3 hle3 _ => hy pre (i, r) hF3 hpre hle3) (by first | exact Wt.none | exact Wt.some rfl rfl (by first | exact rfl | decide +kernel)) rfl rfl (by repeat (first | exact SubR.nil | apply SubR.cons 0 rfl | apply SubR.cons 1 rfl | apply SubR.cons 2 rfl | apply SubR.cons 3 rfl | apply SubR.cons 4 rfl | apply SubR.cons 5 rfl | apply SubR.cons 6 rfl | apply SubR.cons 7 rfl | apply SubR.cons 8 rfl | apply SubR.cons 9 rfl | apply SubR.cons 10 rfl | apply SubR.cons 11 rfl | apply SubR.cons 12 rfl | apply SubR.cons 13 rfl | apply SubR.cons 14 rfl | apply SubR.cons 15 rfl)) ?_
    rintro v Γ' (⟨rfl, rfl⟩ | ⟨rfl, rfl⟩)
    · (repeat (first | refine GK.ro ?_ | (refine GK.box ?_; intro bl) | (refine GK.mkMap ?_; intro bm) | (refine GK.build0 tb ?_; intro bs)))
      exact GQ.fin0 (Γ' := [J (pre ++ [(i, r)]), kbox b1 r]) rfl (fun _ s => Sat.sub (by repeat (first | exact SubR.nil | apply SubR.cons 0 rfl | apply SubR.cons 1 rfl | apply SubR.cons 2 rfl | apply SubR.cons 3 rfl | apply SubR.cons 4 rfl | apply SubR.cons 5 rfl | apply SubR.cons 6 rfl | apply SubR.cons 7 rfl | apply SubR.cons 8 rfl | apply SubR.cons 9 rfl | apply SubR.cons 10 rfl | apply SubR.cons 11 rfl | apply SubR.cons 12 rfl | apply SubR.cons 13 rfl | apply SubR.cons 14 rfl | apply SubR.cons 15 rfl)) s) ⟨[kbox b1 r], ⟨r, rfl⟩, .inl (by rw [hall])⟩
    · (repeat (first | refine GK.ro ?_ | (refine GK.box ?_; intro bl) | (refine GK.mkMap ?_; intro bm) | (refine GK.build0 tb ?_; intro bs)))
      exact GQ.fin0 rfl (fun _ s => Sat.sub (by repeat (first | exact SubR.nil | apply SubR.cons 0 rfl | apply SubR.cons 1 rfl | apply SubR.cons 2 rfl | apply SubR.cons 3 rfl | apply SubR.cons 4 rfl | apply SubR.cons 5 rfl | apply SubR.cons 6 rfl | apply SubR.cons 7 rfl | apply SubR.cons 8 rfl | apply SubR.cons 9 rfl | apply SubR.cons 10 rfl | apply SubR.cons 11 rfl | apply SubR.cons 12 rfl | apply SubR.cons 13 rfl | apply SubR.cons 14 rfl | apply SubR.cons 15 rfl)) s) ⟨[kbox b1 r], ⟨r, rfl⟩, .inr ⟨_, hpre, rfl⟩⟩
  | some j =>
    have hcut : cutM r 47 = (r.take j, r.drop (j + 1), true) := by unfold cutM; rw [h]
    have hj : j < r.length := (List.findIdx?_eq_some_iff_getElem.1 h).1
    rw [splitM_some h] at he
    rw [hcut]
    have hpre : pre ++ [(i, r.take j)] <+: en 0 (splitM s) := by rw [he, en]; exact ⟨en (i + 1) (splitM (r.drop (j + 1))), by simp⟩
    have hdl : (r.drop (j + 1)).length = r.length - (j + 1) := by simp
    refine GL.cons ?_
    refine GO.callV (Γf := [J pre]) (fun hF3 hle3 _ => hy pre (i, r.take j) hF3 hpre hle3) (by first | exact Wt.none | exact Wt.some rfl rfl (by first | exact rfl | decide +kernel)) rfl rfl (by repeat (first | exact SubR.nil | apply SubR.cons 0 rfl | apply SubR.cons 1 rfl | apply SubR.cons 2 rfl | apply SubR.cons 3 rfl | apply SubR.cons 4 rfl | apply SubR.cons 5 rfl | apply SubR.cons 6 rfl | apply SubR.cons 7 rfl | apply SubR.cons 8 rfl | apply SubR.cons 9 rfl | apply SubR.cons 10 rfl | apply SubR.cons 11 rfl | apply SubR.cons 12 rfl | apply SubR.cons 13 rfl | apply SubR.cons 14 rfl | apply SubR.cons 15 rfl)) ?_
    rintro v Γ' (⟨rfl, rfl⟩ | ⟨rfl, rfl⟩)
    · (repeat (first | refine GK.ro ?_ | (refine GK.box ?_; intro bl) | (refine GK.mkMap ?_; intro bm) | (refine GK.build0 tb ?_; intro bs)))
      exact GQ.again (i + 1, r.drop (j + 1), pre ++ [(i, r.take j)]) ⟨by show _ = _ ++ en (i + 1) _; rw [he, en]; simp, by show i + 1 + (r.drop (j + 1)).length < _; omega⟩ (by show (r.drop (j + 1)).length < r.length; omega) (by repeat (first | exact trivial | refine ⟨rfl, ?_⟩)) (fun _ s => Sat.sub (by repeat (first | exact SubR.nil | apply SubR.cons 0 rfl | apply SubR.cons 1 rfl | apply SubR.cons 2 rfl | apply SubR.cons 3 rfl | apply SubR.cons 4 rfl | apply SubR.cons 5 rfl | apply SubR.cons 6 rfl | apply SubR.cons 7 rfl | apply SubR.cons 8 rfl | apply SubR.cons 9 rfl | apply SubR.cons 10 rfl | apply SubR.cons 11 rfl | apply SubR.cons 12 rfl | apply SubR.cons 13 rfl | apply SubR.cons 14 rfl | apply SubR.cons 15 rfl)) s)
    · (repeat (first | refine GK.ro ?_ | (refine GK.box ?_; intro bl) | (refine GK.mkMap ?_; intro bm) | (refine GK.build0 tb ?_; intro bs)))
      exact GQ.fin0 rfl (fun _ s => Sat.sub (by repeat (first | exact SubR.nil | apply SubR.cons 0 rfl | apply SubR.cons 1 rfl | apply SubR.cons 2 rfl | apply SubR.cons 3 rfl | apply SubR.cons 4 rfl | apply SubR.cons 5 rfl | apply SubR.cons 6 rfl | apply SubR.cons 7 rfl | apply SubR.cons 8 rfl | apply SubR.cons 9 rfl | apply SubR.cons 10 rfl | apply SubR.cons 11 rfl | apply SubR.cons 12 rfl | apply SubR.cons 13 rfl | apply SubR.cons 14 rfl | apply SubR.cons 15 rfl)) s) ⟨[kbox b1 r], ⟨r, rfl⟩, .inr ⟨_, hpre, rfl⟩⟩
theorem pieces_ok (s : Ky) : FnOk Go.Proofs.Tryd.prog 95 [str s] [] hF (fun v Γ => ∃ b, v = .func (.func 103) #[] #[.pointer (some ⟨b, 0, none⟩)] ∧ Γ = [kbox b s]) := by
  refine FnOk.intro 4 Go.Proofs.Tryd.func95 rfl rfl fun w0 => ?_
  (repeat (first | refine GK.ro ?_ | (refine GK.box ?_; intro bl) | (refine GK.mkMap ?_; intro bm) | (refine GK.build0 tb ?_; intro bs)))
  exact GQ.fin1 rfl (Rv.tmp rfl) (fun _ s => Sat.sub (by repeat (first | exact SubR.nil | apply SubR.cons 0 rfl | apply SubR.cons 1 rfl | apply SubR.cons 2 rfl | apply SubR.cons 3 rfl | apply SubR.cons 4 rfl | apply SubR.cons 5 rfl | apply SubR.cons 6 rfl | apply SubR.cons 7 rfl | apply SubR.cons 8 rfl | apply SubR.cons 9 rfl | apply SubR.cons 10 rfl | apply SubR.cons 11 rfl | apply SubR.cons 12 rfl | apply SubR.cons 13 rfl | apply SubR.cons 14 rfl | apply SubR.cons 15 rfl)) s) ⟨_, rfl, rfl⟩
theorem path_ok (s : Ky) (hs : s.length < 1000000000) : FnOk Go.Proofs.Tryd.prog 76 [str s] [] hF (fun v Γ => v = .bool (pathM s) ∧ Γ = []) := by
  refine FnOk.introM 27 Go.Proofs.Tryd.func76 rfl rfl fun w0 => ?_
  (repeat (first | refine GK.ro ?_ | (refine GK.box ?_; intro bl) | (refine GK.mkMap ?_; intro bm) | (refine GK.build0 tb ?_; intro bs)))
  refine GL.cons ?_; refine GO.alloc (by first | exact Wt.none | exact Wt.some rfl rfl (by first | exact rfl | decide +kernel)) (by exact rfl) ?_
  intro br
  (repeat (first | refine GK.ro ?_ | (refine GK.box ?_; intro bl) | (refine GK.mkMap ?_; intro bm) | (refine GK.build0 tb ?_; intro bs)))
  (first | refine G.condP rfl (fun hb => ?_) (fun hb => ?_) | refine G.condN rfl (fun hb => ?_) (fun hb => ?_) | refine G.cond rfl (fun hb => ?_) (fun hb => ?_))
  · have hp : pathM s = false := by unfold pathM; rw [decide_eq_false (by omega)]; rfl
    rw [hp]
    (repeat (first | refine GK.ro ?_ | (refine GK.box ?_; intro bl) | (refine GK.mkMap ?_; intro bm) | (refine GK.build0 tb ?_; intro bs)))
    refine GQ.leave ?_
    exact GK.fin1 rfl (Rv.cell rfl rfl (Rd.blk 0 rfl) rfl) (fun _ s => Sat.sub (by repeat (first | exact SubR.nil | apply SubR.cons 0 rfl | apply SubR.cons 1 rfl | apply SubR.cons 2 rfl | apply SubR.cons 3 rfl | apply SubR.cons 4 rfl | apply SubR.cons 5 rfl | apply SubR.cons 6 rfl | apply SubR.cons 7 rfl | apply SubR.cons 8 rfl | apply SubR.cons 9 rfl | apply SubR.cons 10 rfl | apply SubR.cons 11 rfl | apply SubR.cons 12 rfl | apply SubR.cons 13 rfl | apply SubR.cons 14 rfl | apply SubR.cons 15 rfl)) s) ⟨rfl, rfl⟩
  (repeat (first | refine GK.ro ?_ | (refine GK.box ?_; intro bl) | (refine GK.mkMap ?_; intro bm) | (refine GK.build0 tb ?_; intro bs)))
  refine GL.cons ?_; refine GO.callA (fun hF' hle hH => pieces_ok s) (by first | exact Wt.none | exact Wt.some rfl rfl (by first | exact rfl | decide +kernel)) (by kernel_rfl) rfl rfl (by repeat (first | exact SubR.nil | apply SubR.cons 0 rfl | apply SubR.cons 1 rfl | apply SubR.cons 2 rfl | apply SubR.cons 3 rfl | apply SubR.cons 4 rfl | apply SubR.cons 5 rfl | apply SubR.cons 6 rfl | apply SubR.cons 7 rfl | apply SubR.cons 8 rfl | apply SubR.cons 9 rfl | apply SubR.cons 10 rfl | apply SubR.cons 11 rfl | apply SubR.cons 12 rfl | apply SubR.cons 13 rfl | apply SubR.cons 14 rfl | apply SubR.cons 15 rfl)) ?_
  rintro v Γ' ⟨b, rfl, rfl⟩
  (repeat (first | refine GK.ro ?_ | (refine GK.box ?_; intro bl) | (refine GK.mkMap ?_; intro bm) | (refine GK.build0 tb ?_; intro bs)))
  refine G.forRange (fun p => [fact (∀ x ∈ p, okP x = true), blk br 4 (0, 0) [.bool false]]) (fun c p Γ2 => c = .ret ∧ (∃ x ∈ p, okP x = false) ∧ Γ2 = [blk br 4 (0, 0) [.bool false]]) (pieces1_ok s b hs) rfl (by kernel_rfl) (fun _ => rfl) (fun hF w s => ?_) (fun l1 p x hF1 w1 hpx hle1 => ?_) ?_ ?_
  · exact Sat.fact (fun x hx => by cases hx) (s.sel [1, 0] rfl)
  · have hm : x ∈ en 0 (splitM s) := hpx.subset (by simp)
    have hxl := en_mem hm
    have hpl := (splitM_len s).2 x.2 hxl.1
    refine GK.known fun hp => ?_
    (repeat (first | refine GK.ro ?_ | (refine GK.box ?_; intro bl) | (refine GK.mkMap ?_; intro bm) | (refine GK.build0 tb ?_; intro bs)))
    refine GQ.to_body fun hF2 w2 hle2 => ?_
    have bad : okP x = false → ∃ y ∈ p ++ [x], okP y = false := fun h => ⟨x, by simp, h⟩
    have good : okP x = true → ∀ y ∈ p ++ [x], okP y = true := fun h y hy => by
      rcases List.mem_append.1 hy with hy | hy
      · exact hp y hy
      · rw [List.mem_singleton.1 hy]; exact h
    (repeat' (first | refine GK.ro ?_ | (refine GK.box ?_; intro bl) | (refine GK.mkMap ?_; intro bm) | (refine GK.build0 tb ?_; intro bs) | (first | refine G.condP rfl (fun hb => ?_) (fun hb => ?_) | refine G.condN rfl (fun hb => ?_) (fun hb => ?_) | refine G.cond rfl (fun hb => ?_) (fun hb => ?_)) | ((fail_if_success refine GL.fork (b := true) rfl rfl ?_ ?_); (fail_if_success refine GL.fork (b := false) rfl rfl ?_ ?_); first | refine GL.forkP rfl rfl (fun hb => ?_) (fun hb => ?_) | refine GL.forkN rfl rfl (fun hb => ?_) (fun hb => ?_) | refine GL.fork rfl rfl (fun hb => ?_) (fun hb => ?_)) | ((fail_if_success refine GL.forkPick (b := true) rfl ?_ ?_); (fail_if_success refine GL.forkPick (b := false) rfl ?_ ?_); refine GL.forkPick rfl (fun hb => ?_) (fun hb => ?_))))
    · exact GQ.round_ret ⟨rfl, bad (by unfold okP; simp; omega), rfl⟩
    refine GL.cons ?_; refine GO.callA (fun hF' hle hH => word_ok x.2 true (by omega)) (by first | exact Wt.none | exact Wt.some rfl rfl (by first | exact rfl | decide +kernel)) (by kernel_rfl) rfl rfl (by repeat (first | exact SubR.nil | apply SubR.cons 0 rfl | apply SubR.cons 1 rfl | apply SubR.cons 2 rfl | apply SubR.cons 3 rfl | apply SubR.cons 4 rfl | apply SubR.cons 5 rfl | apply SubR.cons 6 rfl | apply SubR.cons 7 rfl | apply SubR.cons 8 rfl | apply SubR.cons 9 rfl | apply SubR.cons 10 rfl | apply SubR.cons 11 rfl | apply SubR.cons 12 rfl | apply SubR.cons 13 rfl | apply SubR.cons 14 rfl | apply SubR.cons 15 rfl)) ?_
    rintro v Γ' ⟨rfl, rfl⟩
    have h8 : x.1 < 8 := by omega
    (repeat' (first | refine GK.ro ?_ | (refine GK.box ?_; intro bl) | (refine GK.mkMap ?_; intro bm) | (refine GK.build0 tb ?_; intro bs) | (first | refine G.condP rfl (fun hb => ?_) (fun hb => ?_) | refine G.condN rfl (fun hb => ?_) (fun hb => ?_) | refine G.cond rfl (fun hb => ?_) (fun hb => ?_)) | ((fail_if_success refine GL.fork (b := true) rfl rfl ?_ ?_); (fail_if_success refine GL.fork (b := false) rfl rfl ?_ ?_); first | refine GL.forkP rfl rfl (fun hb => ?_) (fun hb => ?_) | refine GL.forkN rfl rfl (fun hb => ?_) (fun hb => ?_) | refine GL.fork rfl rfl (fun hb => ?_) (fun hb => ?_)) | ((fail_if_success refine GL.forkPick (b := true) rfl ?_ ?_); (fail_if_success refine GL.forkPick (b := false) rfl ?_ ?_); refine GL.forkPick rfl (fun hb => ?_) (fun hb => ?_))))
    all_goals first
      | exact GQ.round_ret ⟨rfl, bad (by unfold okP partM; simp at *; simp [*]), rfl⟩
      | exact GK.heap (fun w s => Sat.fact (good (by unfold okP partM; simp at *; simp [*])) s) (GQ.round_on rfl)
  · rintro D Γc' ⟨r, rfl⟩
    refine GK.sel [1, 1, 0] rfl ?_
    refine GK.known fun hp => ?_
    have hp2 : pathM s = true := by
      unfold pathM
      rw [decide_eq_true (by omega), Bool.true_and]
      exact List.all_eq_true.2 hp
    rw [hp2]
    (repeat (first | refine GK.ro ?_ | (refine GK.box ?_; intro bl) | (refine GK.mkMap ?_; intro bm) | (refine GK.build0 tb ?_; intro bs)))
    refine GQ.leave ?_
    refine GK.heap (Γ' := [dset [D], blk br 4 (0, 0) [.bool true]]) (fun w s => Sat.dset_push ((Sat.dset_nil s).sel [2, 0, 0] rfl)) ?_
    exact GK.popAll (Ds := [D]) (GK.fin1 rfl (Rv.cell rfl rfl (Rd.blk 0 rfl) rfl) (fun w s => s.drop) ⟨rfl, rfl⟩)
  · rintro D Γc' c p Γ2 ⟨r, rfl⟩ hp1 ⟨rfl, ⟨x, hx, hx2⟩, rfl⟩
    have hp2 : pathM s = false := by
      unfold pathM
      have : (en 0 (splitM s)).all okP = false := List.all_eq_false.2 ⟨x, hp1.subset hx, by simp [hx2]⟩
      rw [this, Bool.and_false]
    rw [hp2]
    (repeat (first | refine GK.ro ?_ | (refine GK.box ?_; intro bl) | (refine GK.mkMap ?_; intro bm) | (refine GK.build0 tb ?_; intro bs)))
    refine GQ.leave ?_
    refine GK.heap (Γ' := [dset [D], blk br 4 (0, 0) [.bool false]]) (fun w s => Sat.dset_push ((Sat.dset_nil s).sel [1, 0, 0] rfl)) ?_
    exact GK.popAll (Ds := [D]) (GK.fin1 rfl (Rv.cell rfl rfl (Rd.blk 0 rfl) rfl) (fun w s => s.drop) ⟨rfl, rfl⟩)
end Go.Pa
