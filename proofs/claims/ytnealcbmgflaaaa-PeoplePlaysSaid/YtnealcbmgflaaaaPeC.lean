/- People: an organisation's teams and roles. -/
import Derived.Test.YtnealcbmgflaaaaPeB
import Derived.Test.YtnealcbmgflaaaaPaA
set_option linter.unusedSimpArgs false
set_option linter.unusedVariables false
namespace Go.Pe
open Go Go.Sl Go.Ls
set_option maxRecDepth 100000
def unitV : Value := .agg ⟨[]⟩
def encU (l : List By) : Es := l.map fun u => (u, unitV)
def encV (vs : List (By × Int)) : Es := vs.map fun x => (x.1, .int .i64 x.2)
/-- A team: its name, where it lies, who is in it. -/
abbrev Tm := By × Nat × List By
def encT (l : List Tm) : Es := l.map fun x => (x.1, .map (some x.2.1))
def teamC (x : Tm) : HProp := mp x.2.1 (encU x.2.2)
theorem encU_get (l : List By) (s : By) : (mget (encU l) s).getD unitV = unitV ∧ (mget (encU l) s).isSome = decide (s ∈ l) := by
  induction l with
  | nil => exact ⟨rfl, rfl⟩
  | cons x r ih =>
    unfold encU at ih ⊢
    rw [List.map_cons, mget_cons]
    by_cases h : s = x
    · simp [h]
    · rw [if_neg h]; refine ⟨ih.1, ih.2.trans ?_⟩; simp [h]
def vget : List (By × Int) → By → Int
  | [], _ => 0
  | (k, v) :: r, a => if a = k then v else vget r a
theorem enc_vget (vs : List (By × Int)) (a : By) : (mget (encV vs) a).getD (.int .i64 0) = .int .i64 (vget vs a) := by
  induction vs with
  | nil => rfl
  | cons x r ih =>
    obtain ⟨k, v⟩ := x
    show (mget ((k, Value.int .i64 v) :: encV r) a).getD _ = _
    rw [mget_cons]
    unfold vget
    split
    · rfl
    · exact ih
theorem encV_at {vs : List (By × Int)} {j : Nat} {k : By} {v : Value} (h : (encV vs)[j]? = some (k, v)) : ∃ n, vs[j]? = some (k, n) ∧ v = .int .i64 n := by
  unfold encV at h
  rw [List.getElem?_map] at h
  obtain ⟨⟨a, b⟩, h1, h2⟩ := Option.map_eq_some_iff.1 h
  cases h2; exact ⟨b, h1, rfl⟩
theorem encT_at {l : List Tm} {j : Nat} {k : By} {v : Value} (h : (encT l)[j]? = some (k, v)) : ∃ a m, l[j]? = some (k, a, m) ∧ v = .map (some a) := by
  unfold encT at h
  rw [List.getElem?_map] at h
  obtain ⟨⟨a, b, c⟩, h1, h2⟩ := Option.map_eq_some_iff.1 h
  cases h2; exact ⟨b, c, h1, rfl⟩
theorem encV_erase (vs : List (By × Int)) (j : Nat) : (encV vs).eraseIdx j = encV (vs.eraseIdx j) := by unfold encV; rw [map_eraseIdx]
theorem encT_erase (l : List Tm) (j : Nat) : (encT l).eraseIdx j = encT (l.eraseIdx j) := by unfold encT; rw [map_eraseIdx]
def inT (u : By) (l : List Tm) : List By := (l.filter fun x => decide (u ∈ x.2.2)).map (·.1)
theorem inT_perm {u : By} {a b : List Tm} (h : a.Perm b) : (inT u a).Perm (inT u b) := (h.filter _).map _
theorem inT_cons (u : By) (x : Tm) (l : List Tm) : inT u (x :: l) = (if u ∈ x.2.2 then [x.1] else []) ++ inT u l := by
  unfold inT; rw [List.filter_cons]; by_cases h : u ∈ x.2.2 <;> simp [h]
theorem inT_len (u : By) (l : List Tm) : (inT u l).length ≤ l.length := by unfold inT; rw [List.length_map]; exact List.length_filter_le _ _
def teamsC (m : Nat) (l : List Tm) : List HProp := [mp m (encT l), star (l.map teamC)]
def owners (vs : List (By × Int)) : Nat := (vs.filter fun x => decide (x.2 = 2)).length
theorem owners_perm {a b : List (By × Int)} (h : a.Perm b) : owners a = owners b := (h.filter _).length_eq
theorem owners_cons (x : By × Int) (l : List (By × Int)) : owners (x :: l) = (if x.2 = 2 then 1 else 0) + owners l := by
  unfold owners; rw [List.filter_cons]; by_cases h : x.2 = 2 <;> simp [h]; omega
theorem owners_len (l : List (By × Int)) : owners l ≤ l.length := List.length_filter_le _ _
def lastM (vs : List (By × Int)) (u : By) : Bool := decide (owners vs = 1) && decide (vget vs u = 2)
def freshM (name : By) (there : Bool) (n m : Int) : Int := if Pa.nameM name = false then 150 else if there then 110 else if m ≤ n then 3 else 0
def findM (l : List By) (s : By) : Int := match l.findIdx? (· == s) with
  | some i => i
  | none => -1
theorem findM_cases (l : List By) (s : By) : (decide (0 ≤ findM l s)) = decide (s ∈ l) := by
  unfold findM
  cases h : l.findIdx? (· == s) with
  | none =>
    have : s ∉ l := fun hm => by have := List.findIdx?_eq_none_iff.1 h s hm; simp at this
    simp [this]
  | some i =>
    obtain ⟨hi, h1, _⟩ := List.findIdx?_eq_some_iff_getElem.1 h
    have : s ∈ l := by
      have e : l[i] = s := by simpa using h1
      rw [← e]; exact List.getElem_mem hi
    simp [this]
set_option maxRecDepth 100000
set_option maxHeartbeats 4000000
attribute [local irreducible] GK GO Yl Wt Ef Hd GH KH wpListIn Code.wpIn toBody roundQ poolOf rs RS YieldOk IterOk VOk row star exs mp lp Sat pt FnOk Rd bodyPost bodyPostM Lv Ret Exit.then Exit.inBlock Exit.noGoto Int.decLt Int.decLe Int.instDecidableEq
attribute [local irreducible] u8s strs likeTo rng rngAt keys encU encT encV inT
set_option pp.deepTerms true
set_option pp.maxSteps 1000000
variable {hF H : Hp}
theorem index_ok {l : List By} {p : Option Addr} {c : Nat} {s : By} (hl : l.length ≤ 1099511627776) :
    FnOk Go.Proofs.Try.prog 65 [.slice p l.length c, str s] [row (.slice p l.length c) 9 1 l.length (strs l)] hF (fun v Γ => v = .int .i64 (findM l s) ∧ Γ = [row (.slice p l.length c) 9 1 l.length (strs l)]) := by
  refine FnOk.intro 19 Go.Proofs.Try.func65 rfl rfl fun w0 => ?_
  (repeat (first | refine GK.ro ?_ | (refine GK.box ?_; intro bl) | (refine GK.mkMap ?_; intro bm) | (refine GK.build0 tb ?_; intro bs)))
  refine G.loopK (X := Nat) [(0, _), (1, _), (7, _)] (fun j => [(8, .int .i64 (j : Int))]) (fun j => l.length - j) (fun _ => [row (.slice p l.length c) 9 1 l.length (strs l)]) (fun j => j ≤ l.length ∧ ∀ i < j, ∀ x, l[i]? = some x → x ≠ s) 0 ⟨Nat.zero_le _, fun i hi => by omega⟩ Sub.o (fun _ s => Sat.sub SubR.o s) (fun j hj q hq => ?_)
  obtain ⟨hj, hno⟩ := hj
  dsimp only [List.cons_append, List.nil_append] at hq ⊢
  (repeat (first | refine GK.ro ?_ | (refine GK.box ?_; intro bl) | (refine GK.mkMap ?_; intro bm) | (refine GK.build0 tb ?_; intro bs)))
  (first | refine G.condP rfl (fun hb => ?_) (fun hb => ?_) | refine G.condN rfl (fun hb => ?_) (fun hb => ?_) | refine G.cond rfl (fun hb => ?_) (fun hb => ?_))
  · obtain ⟨x, hx⟩ : ∃ x, l[j]? = some x := ⟨_, List.getElem?_eq_getElem (by omega)⟩
    refine GK.rowPtr 0 rfl (by omega) fun b3 hp => ?_
    subst hp
    have kx : (strs l)[0 + (j : Int).toNat * 1]? = some (str x) := by rw [show 0 + (j : Int).toNat * 1 = j by omega]; exact strs_get hx
    (repeat (first | refine GK.ro ?_ | (refine GK.box ?_; intro bl) | (refine GK.mkMap ?_; intro bm) | (refine GK.build0 tb ?_; intro bs)))
    by_cases he : s = x
    · have hb : (s == x) = true := by simp [he]
      (repeat (first | refine GK.ro ?_ | (refine GK.box ?_; intro bl) | (refine GK.mkMap ?_; intro bm) | (refine GK.build0 tb ?_; intro bs)))
      refine GQ.fin1 rfl (Rv.tmp rfl) (fun _ s => Sat.sub SubR.o s) ⟨?_, rfl⟩
      have : l.findIdx? (· == s) = some j := by
        refine List.findIdx?_eq_some_iff_getElem.2 ⟨by omega, ?_, fun i hi => ?_⟩
        · have := (List.getElem?_eq_some_iff.1 hx).2; simp [this, he]
        · have := hno i hi _ (List.getElem?_eq_getElem (by omega)); simpa using this
      unfold findM; rw [this]
    · have hb : (s == x) = false := by simp [he]
      (repeat (first | refine GK.ro ?_ | (refine GK.box ?_; intro bl) | (refine GK.mkMap ?_; intro bm) | (refine GK.build0 tb ?_; intro bs)))
      (refine GQ.againN (j + 1) ?_ ?_ ?_ ?_; rotate_left; (first | omega | (dsimp only; omega)); exact Sub.o; exact (fun _ s => Sat.sub SubR.o s))
      refine ⟨by omega, fun i hi y hy => ?_⟩
      rcases Nat.lt_or_ge i j with h | h
      · exact hno i h y hy
      · obtain rfl : i = j := by omega
        rw [hx] at hy; cases hy; exact fun e => he e.symm
  · (repeat (first | refine GK.ro ?_ | (refine GK.box ?_; intro bl) | (refine GK.mkMap ?_; intro bm) | (refine GK.build0 tb ?_; intro bs)))
    refine GQ.fin1 rfl (Rv.tmp rfl) (fun _ s => Sat.sub SubR.o s) ⟨?_, rfl⟩
    have : l.findIdx? (· == s) = none := List.findIdx?_eq_none_iff.2 fun x hx => by
      obtain ⟨i, hi⟩ := List.getElem?_of_mem hx
      have := hno i (by have := (List.getElem?_eq_some_iff.1 hi).1; omega) x hi
      simpa using this
    unfold findM; rw [this]
theorem contains_ok {l : List By} {p : Option Addr} {c : Nat} {s : By} (hl : l.length ≤ 1099511627776) :
    FnOk Go.Proofs.Try.prog 52 [.slice p l.length c, str s] [row (.slice p l.length c) 9 1 l.length (strs l)] hF (fun v Γ => v = .bool (decide (s ∈ l)) ∧ Γ = [row (.slice p l.length c) 9 1 l.length (strs l)]) := by
  refine FnOk.intro 9 Go.Proofs.Try.func52 rfl rfl fun w0 => ?_
  (repeat (first | refine GK.ro ?_ | (refine GK.box ?_; intro bl) | (refine GK.mkMap ?_; intro bm) | (refine GK.build0 tb ?_; intro bs)))
  refine GL.cons ?_; refine GO.callA (fun hF' hle hH => index_ok (s := s) hl) Wt.o (by kernel_rfl) rfl rfl SubR.o ?_
  rintro v Γ' ⟨rfl, rfl⟩
  (repeat (first | refine GK.ro ?_ | (refine GK.box ?_; intro bl) | (refine GK.mkMap ?_; intro bm) | (refine GK.build0 tb ?_; intro bs)))
  exact GQ.fin1 rfl (Rv.tmp rfl) (fun _ s => Sat.sub SubR.o s) ⟨by rw [findM_cases], rfl⟩
theorem fresh_ok {name : By} {there : Bool} {n m : Int} (hs : name.length < 9223372036854775807) : FnOk Go.Proofs.Try.prog 48 [str name, .bool there, .int .i64 n, .int .i64 m] [] hF (fun v Γ => v = .int .i64 (freshM name there n m) ∧ Γ = []) := by
  refine FnOk.intro 19 Go.Proofs.Try.func48 rfl rfl fun w0 => ?_
  (repeat (first | refine GK.ro ?_ | (refine GK.box ?_; intro bl) | (refine GK.mkMap ?_; intro bm) | (refine GK.build0 tb ?_; intro bs)))
  refine GL.cons ?_; refine GO.callA (fun hF' hle hH => Pa.name_ok name hs) Wt.o (by kernel_rfl) rfl rfl SubR.o ?_
  rintro v Γ' ⟨rfl, rfl⟩
  cases hn : Pa.nameM name with
  | false =>
    (repeat (first | refine GK.ro ?_ | (refine GK.box ?_; intro bl) | (refine GK.mkMap ?_; intro bm) | (refine GK.build0 tb ?_; intro bs)))
    exact GQ.fin1 rfl (Rv.tmp rfl) (fun _ s => Sat.sub SubR.o s) ⟨by rw [show freshM name there n m = 150 from if_pos hn], rfl⟩
  | true =>
    cases there with
    | true =>
      (repeat (first | refine GK.ro ?_ | (refine GK.box ?_; intro bl) | (refine GK.mkMap ?_; intro bm) | (refine GK.build0 tb ?_; intro bs)))
      exact GQ.fin1 rfl (Rv.tmp rfl) (fun _ s => Sat.sub SubR.o s) ⟨by unfold freshM; rw [hn]; rfl, rfl⟩
    | false =>
      (repeat (first | refine GK.ro ?_ | (refine GK.box ?_; intro bl) | (refine GK.mkMap ?_; intro bm) | (refine GK.build0 tb ?_; intro bs)))
      (first | refine G.condP rfl (fun hb => ?_) (fun hb => ?_) | refine G.condN rfl (fun hb => ?_) (fun hb => ?_) | refine G.cond rfl (fun hb => ?_) (fun hb => ?_))
      · (repeat (first | refine GK.ro ?_ | (refine GK.box ?_; intro bl) | (refine GK.mkMap ?_; intro bm) | (refine GK.build0 tb ?_; intro bs)))
        exact GQ.fin1 rfl (Rv.tmp rfl) (fun _ s => Sat.sub SubR.o s) ⟨by unfold freshM; rw [hn, if_neg (by decide), if_neg (by decide), if_pos (by omega)], rfl⟩
      · (repeat (first | refine GK.ro ?_ | (refine GK.box ?_; intro bl) | (refine GK.mkMap ?_; intro bm) | (refine GK.build0 tb ?_; intro bs)))
        exact GQ.fin1 rfl (Rv.tmp rfl) (fun _ s => Sat.sub SubR.o s) ⟨by unfold freshM; rw [hn, if_neg (by decide), if_neg (by decide), if_neg (by omega)], rfl⟩
theorem last_ok {a mi mr : Nat} {vs : List (By × Int)} {u : By} (hl : vs.length ≤ 1099511627776) :
    FnOk Go.Proofs.Try.prog 50 [.pointer (some ⟨a, 0, none⟩), str u] [blk a 66 (0, 0) [.map (some mi), .map (some mr)], mp mr (encV vs)] hF (fun v Γ => v = .bool (lastM vs u) ∧ Γ = [blk a 66 (0, 0) [.map (some mi), .map (some mr)], mp mr (encV vs)]) := by
  refine FnOk.intro 32 Go.Proofs.Try.func50 rfl rfl fun w0 => ?_
  (repeat (first | refine GK.ro ?_ | (refine GK.box ?_; intro bl) | (refine GK.mkMap ?_; intro bm) | (refine GK.build0 tb ?_; intro bs)))
  refine GL.cons ?_; refine GO.range 1 Wt.o rfl rfl rfl fun r => ?_
  (repeat (first | refine GK.ro ?_ | (refine GK.box ?_; intro bl) | (refine GK.mkMap ?_; intro bm) | (refine GK.build0 tb ?_; intro bs)))
  refine G.loopK (X := Nat × List (By × Int)) [(0, _), (1, _), (12, _)] (fun (n, _) => [(5, .int .i64 (n : Int))]) (fun (_, lf) => lf.length) (fun (_, lf) => [blk a 66 (0, 0) [.map (some mi), .map (some mr)], rng mr r (encV vs) (encV lf)]) (fun (n, lf) => n + owners lf = owners vs) (0, vs) (Nat.zero_add _) Sub.o (fun _ s => Sat.sub SubR.o s) (fun x hx q hq => ?_)
  obtain ⟨n, lf⟩ := x
  dsimp only [List.cons_append, List.nil_append] at hq hx ⊢
  have ho := owners_len vs
  (repeat (first | refine GK.ro ?_ | (refine GK.box ?_; intro bl) | (refine GK.mkMap ?_; intro bm) | (refine GK.build0 tb ?_; intro bs)))
  refine GL.cons ?_; refine GO.next 1 Wt.o rfl rfl (fun h0 => ?_) (fun j k v hv => ?_)
  · have hlf : lf = [] := by cases lf with
      | nil => rfl
      | cons x r => unfold encV at h0; cases h0
    subst hlf
    have hn : n = owners vs := by simpa [owners] using hx
    subst hn
    (repeat (first | refine GK.ro ?_ | (refine GK.box ?_; intro bl) | (refine GK.mkMap ?_; intro bm) | (refine GK.build0 tb ?_; intro bs)))
    refine GK.heap (Γ' := [mp mr (encV vs), blk a 66 (0, 0) [.map (some mi), .map (some mr)]]) (fun w s => Sat.rng_mp s) ?_
    by_cases h1 : owners vs = 1
    · (repeat (first | refine GK.ro ?_ | (refine GK.box ?_; intro bl) | (refine GK.mkMap ?_; intro bm) | (refine GK.build0 tb ?_; intro bs)))
      refine GL.cons ?_; refine GO.yield Wt.o (Yl.look1 0 (KeyT.str rfl) rfl rfl rfl rfl rfl (enc_vget vs u)) ?_
      (repeat (first | refine GK.ro ?_ | (refine GK.box ?_; intro bl) | (refine GK.mkMap ?_; intro bm) | (refine GK.build0 tb ?_; intro bs)))
      refine GQ.fin1 rfl (Rv.tmp rfl) (fun _ s => Sat.sub SubR.o s) ⟨?_, rfl⟩
      unfold lastM; rw [decide_eq_true h1]; rfl
    · (repeat (first | refine GK.ro ?_ | (refine GK.box ?_; intro bl) | (refine GK.mkMap ?_; intro bm) | (refine GK.build0 tb ?_; intro bs)))
      refine GQ.fin1 rfl (Rv.tmp rfl) (fun _ s => Sat.sub SubR.o s) ⟨?_, rfl⟩
      unfold lastM; rw [decide_eq_false h1]; rfl
  · obtain ⟨n2, hv2, rfl⟩ := encV_at hv
    rw [encV_erase]
    have hlp := perm_erase hv2
    have hel : (lf.eraseIdx j).length < lf.length := by have := (List.getElem?_eq_some_iff.1 hv2).1; rw [List.length_eraseIdx_of_lt this]; omega
    rw [owners_perm hlp, owners_cons] at hx
    dsimp only at hx
    (repeat (first | refine GK.ro ?_ | (refine GK.box ?_; intro bl) | (refine GK.mkMap ?_; intro bm) | (refine GK.build0 tb ?_; intro bs)))
    refine GL.cons ?_; refine GO.yield Wt.o (Yl.entry 0 rfl rfl) ?_
    refine GK.heap (fun w s => Sat.rngAt_rng s) ?_
    (repeat (first | refine GK.ro ?_ | (refine GK.box ?_; intro bl) | (refine GK.mkMap ?_; intro bm) | (refine GK.build0 tb ?_; intro bs)))
    (first | refine G.condP rfl (fun hb => ?_) (fun hb => ?_) | refine G.condN rfl (fun hb => ?_) (fun hb => ?_) | refine G.cond rfl (fun hb => ?_) (fun hb => ?_))
    · rw [if_pos hb] at hx
      (repeat (first | refine GK.ro ?_ | (refine GK.box ?_; intro bl) | (refine GK.mkMap ?_; intro bm) | (refine GK.build0 tb ?_; intro bs)))
      (refine GQ.againN ((n + 1, lf.eraseIdx j)) ?_ ?_ ?_ ?_; rotate_left; (first | omega | (dsimp only; omega)); exact Sub.o; exact (fun _ s => Sat.sub SubR.o s))
      show n + 1 + owners (lf.eraseIdx j) = _
      omega
    · rw [if_neg hb] at hx
      (repeat (first | refine GK.ro ?_ | (refine GK.box ?_; intro bl) | (refine GK.mkMap ?_; intro bm) | (refine GK.build0 tb ?_; intro bs)))
      (refine GQ.againN ((n, lf.eraseIdx j)) ?_ ?_ ?_ ?_; rotate_left; (first | omega | (dsimp only; omega)); exact Sub.o; exact (fun _ s => Sat.sub SubR.o s))
      show n + owners (lf.eraseIdx j) = _
      omega
end Go.Pe
