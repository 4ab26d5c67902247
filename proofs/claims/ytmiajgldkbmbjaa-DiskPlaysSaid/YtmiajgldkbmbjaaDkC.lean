/- The disk's Write, settle, Arm, Down, Ops, Sectors, New. -/
import Derived.Test.YtmiajgldkbmbjaaDkB
namespace Go.Dk
open Go Go.Sl
attribute [local irreducible] GK GO Yl Wt Ef Hd GH KH wpList Code.wp Sat pt FnOk Rd bodyPost Ret Exit.then Exit.inBlock Exit.noGoto exs Int.decLt Int.decLe Int.instDecidableEq

/-- The slice v reads as these bytes in what is only read. -/
def roB (hF : Hp) (v : Value) (l : List UInt8) : Prop := ∃ p c, v = .slice p l.length c ∧ (0 < l.length → ∃ b o cs e fz, p = some ⟨b, o, none⟩ ∧ hF b = some (.cells ⟨cs⟩ e fz) ∧ At cs o (u8s l))
theorem roB.mono {hF hF' : Hp} {v : Value} {l : List UInt8} (h : roB hF v l) (hl : le hF hF') : roB hF' v l := by
  obtain ⟨p, c, h1, h2⟩ := h
  refine ⟨p, c, h1, fun hp => ?_⟩
  obtain ⟨b, o, cs, e, fz, q1, q2, q3⟩ := h2 hp
  exact ⟨b, o, cs, e, fz, q1, hl _ _ q2, q3⟩

variable {d : Nat} {D : DM} {hF : Hp}
theorem DM.Ok.goes {D : DM} (h : D.Ok) (ho : D.opn < 1000000000000000000) : D.goes.2.Ok := by
  unfold DM.goes
  split
  · exact { h with }
  · rename_i hn
    refine { h with opn := ?_, plan := ?_ }
    · show 0 ≤ D.opn + 1 ∧ D.opn + 1 ≤ _
      have := h.opn; omega
    · have := h.plan
      show 0 ≤ (if D.armed then D.plan - 1 else D.plan) ∧ _ ≤ _
      by_cases ha : D.armed = true
      · simp only [ha, if_true] at hn ⊢; simp at hn; omega
      · simp only [ha, if_false]; exact this

theorem write_ok (i : Int) (bv : Value) (l : List UInt8) (hro : roB hF bv l) (hcap : D.pend.length < 1000000000) (hopn : D.opn < 1000000000000000000) (hll : l.length ≤ 140737488355328) :
    FnOk Go.Proofs.Try.prog 11 [dptr d, .int .i64 i, bv] [dk d D] hF (fun v Γ => v = .int .i64 (D.write i l).1 ∧ Γ = [dk d (D.write i l).2]) := by
  refine FnOk.intro 44 Go.Proofs.Try.func11 rfl rfl fun w0 => ?_
  refine GK.opens 0 rfl fun x hx => ?_
  obtain ⟨xs, xsc, xst, xsz, xpp, xpc, xm, xl⟩ := x
  have hw : wrongI D.off D.sure.length i = D.wrong i := rfl
  obtain ⟨bp, bc, rfl, hby⟩ := hro
  (repeat (first | refine GK.run ?_ | (refine GK.box ?_; intro bl) | (refine GK.mkMap ?_; intro bm) | (refine GK.build0 tb ?_; intro bs)))
  refine GL.cons ?_
  refine GO.call [0] (fun hF' _ _ => wrong_ok hx.ok.pos i) .none (by kernel_rfl) rfl rfl rfl ?_
  rintro v Γ' ⟨rfl, rfl⟩
  rw [hw]
  (repeat (first | refine GK.run ?_ | (refine GK.box ?_; intro bl) | (refine GK.mkMap ?_; intro bm) | (refine GK.build0 tb ?_; intro bs)))
  refine G.cond rfl (fun h => ?_) (fun h => ?_)
  · have h : ¬ D.wrong i = 0 := by simpa using h
    (repeat (first | refine GK.run ?_ | (refine GK.box ?_; intro bl) | (refine GK.mkMap ?_; intro bm) | (refine GK.build0 tb ?_; intro bs)))
    refine GK.heap (Γ' := [dk d D]) (fun w s => shut_dk hx (s.sel [0, 0, 0, 0] rfl)) (GQ.end1 rfl rfl ?_)
    simp [DM.write, h]
  · have h : D.wrong i = 0 := by simpa using h
    have hb : 0 ≤ i ∧ i < D.sure.length := by
      unfold DM.wrong at h
      split at h
      · cases h
      · split at h
        · cases h
        · omega
    (repeat (first | refine GK.run ?_ | (refine GK.box ?_; intro bl) | (refine GK.mkMap ?_; intro bm) | (refine GK.build0 tb ?_; intro bs)))
    refine G.cond rfl (fun h1 => ?_) (fun h1 => ?_)
    · have h1 : ¬ l.length = 256 := by simp at h1; omega
      (repeat (first | refine GK.run ?_ | (refine GK.box ?_; intro bl) | (refine GK.mkMap ?_; intro bm) | (refine GK.build0 tb ?_; intro bs)))
      refine GK.heap (Γ' := [dk d D]) (fun w s => shut_dk hx (s.sel [0, 0, 0, 0] rfl)) (GQ.end1 rfl rfl ?_)
      simp [DM.write, h, h1]
    · have h1 : l.length = 256 := by simp at h1; omega
      obtain ⟨bb, bo, cs, e, fz, rfl, hbb, hat⟩ := hby (by omega)
      (repeat (first | refine GK.run ?_ | (refine GK.box ?_; intro bl) | (refine GK.mkMap ?_; intro bm) | (refine GK.build0 tb ?_; intro bs)))
      refine GL.cons ?_
      refine GO.call [0] (fun hF' _ _ => goes_ok hx.ok.plan hx.ok.opn) .none (by kernel_rfl) rfl rfl rfl ?_
      intro v Γ' hg
      by_cases hgo : D.armed = true ∧ D.plan = 0
      · rw [if_pos hgo] at hg
        obtain ⟨rfl, rfl⟩ := hg
        (repeat (first | refine GK.run ?_ | (refine GK.box ?_; intro bl) | (refine GK.mkMap ?_; intro bm) | (refine GK.build0 tb ?_; intro bs)))
        refine GK.heap (Γ' := [dk d D.goes.2]) (fun w s => ?_) (GQ.end1 rfl rfl ?_)
        · have e : D.goes.2 = { D with off := true } := by simp [DM.goes, hgo]
          rw [e]
          exact shut_dk (x := ⟨xs, xsc, xst, xsz, xpp, xpc, xm, xl⟩) { hx with ok := { hx.ok with } } (s.sel [0, 0, 0, 0] rfl)
        · simp [DM.write, h, h1, DM.goes, hgo]
      · rw [if_neg hgo] at hg
        obtain ⟨rfl, rfl⟩ := hg
        have hgoes : D.goes = (true, { D with plan := if D.armed then D.plan - 1 else D.plan, opn := D.opn + 1 }) := by simp [DM.goes, hgo]
        have hpl : (flatP D.pend).length = D.pend.length * 257 := flatP_length fun p hp => (hx.ok.pend p hp).2
        (repeat (first | refine GK.run ?_ | (refine GK.box ?_; intro bl) | (refine GK.mkMap ?_; intro bm) | (refine GK.build0 tb ?_; intro bs)))
        refine G.draw [14] [dblk d (dcells (some ⟨xs, 0, none⟩) D.sure.length xsc xpp D.pend.length xpc xm D.off D.armed (if D.armed then D.plan - 1 else D.plan) (D.opn + 1))] (by kernel_rfl) ?_
        ((first | refine GH.tk 0 [0] ?_ | refine GH.tks 0 [0] ?_); (first | refine GH.tk 1 [0] ?_ | refine GH.tks 1 [0] ?_); (first | refine GH.tk 2 [0] ?_ | refine GH.tks 2 [0] ?_); (first | refine GH.tk 3 [0] ?_ | refine GH.tks 3 [0] ?_); (first | refine GH.tk 4 [0] ?_ | refine GH.tks 4 [0] ?_); (first | refine GH.tk 5 [0] ?_ | refine GH.tks 5 [0] ?_); (first | refine GH.tk 6 [0] ?_ | refine GH.tks 6 [0] ?_); (first | refine GH.tk 7 [0] ?_ | refine GH.tks 7 [0] ?_))
        refine GH.take 8 rfl (by kernel_rfl) .none (fun _ s => s.sel [0] rfl) (Yt.loadRow tb rfl rfl (Rd.ro hbb) hat (by simp [h1])) ?_
        refine GH.take 9 rfl (by kernel_rfl) .none (fun _ s => s.sel [0] rfl) (Yt.buildSeq (ps := [(0, 1), (1, 256)]) (l := .int .i64 i :: u8s l) tb rfl rfl rfl rfl (by simp [SeqL, Value.cells, h1]) (by simp [Value.cells])) ?_
        refine GH.step 10 rfl (by kernel_rfl) ?_
        refine Gt.buildAll tb (sz := 256) (n := 0) (cells := .int .i64 i :: u8s l) .none rfl rfl rfl rfl rfl rfl (by simp [Value.cells, h1]) (by omega) (by simp [Value.cells]) ?_
        intro b2
        refine GH.keep (fun _ s => s.sel [1] rfl) ?_
        refine GH.step 11 rfl (by kernel_rfl) ?_
        refine Gt.append tb 3 .none rfl (.inl ⟨_, rfl⟩) rfl rfl rfl rfl rfl (Src.slice (m := 1) (Rd.blk 0 rfl) (At.all _) (by simp [h1]) ?_) (by omega) (by omega) ?_
        · intro u hu
          rcases List.mem_cons.1 hu with rfl | hu
          · rfl
          · exact u8s_one _ u hu
        intro p c
        refine GH.keep (fun _ s => s.sel [2] rfl) ?_
        ((first | refine GH.tk 12 [2] ?_ | refine GH.tks 12 [2] ?_); (first | refine GH.tk 13 [2] ?_ | refine GH.tks 13 [2] ?_))
        refine GH.step 14 rfl (by kernel_rfl) ?_
        refine Gt.store tb 2 .none rfl rfl rfl rfl rfl rfl rfl rfl ?_
        refine GH.on rfl ?_
        refine GH.fin (by kernel_rfl) ?_
        (repeat (first | refine GK.run ?_ | (refine GK.box ?_; intro bl) | (refine GK.mkMap ?_; intro bm) | (refine GK.build0 tb ?_; intro bs)))
        refine G.draw [10] [dblk d (dcells (some ⟨xs, 0, none⟩) D.sure.length xsc p (D.pend.length + 1) c xm D.off D.armed (if D.armed then D.plan - 1 else D.plan) (D.opn + 1))] (by kernel_rfl) ?_
        ((first | refine GH.tk 0 [2] ?_ | refine GH.tks 0 [2] ?_); (first | refine GH.tk 1 [2] ?_ | refine GH.tks 1 [2] ?_); (first | refine GH.tk 2 [2] ?_ | refine GH.tks 2 [2] ?_); (first | refine GH.tk 3 [2] ?_ | refine GH.tks 3 [2] ?_); (first | refine GH.tk 4 [2] ?_ | refine GH.tks 4 [2] ?_); (first | refine GH.tk 5 [2] ?_ | refine GH.tks 5 [2] ?_); (first | refine GH.tk 6 [2] ?_ | refine GH.tks 6 [2] ?_); (first | refine GH.tk 7 [2] ?_ | refine GH.tks 7 [2] ?_); (first | refine GH.tk 8 [2] ?_ | refine GH.tks 8 [2] ?_); (first | refine GH.tk 9 [2] ?_ | refine GH.tks 9 [2] ?_))
        refine GH.step 10 rfl (by kernel_rfl) ?_
        refine GO.mapUpdate (α := Int) (a := i) 4 .none (.int rfl) rfl rfl rfl rfl rfl ?_
        refine GH.on rfl ?_
        refine GH.fin (by kernel_rfl) ?_
        (repeat (first | refine GK.run ?_ | (refine GK.box ?_; intro bl) | (refine GK.mkMap ?_; intro bm) | (refine GK.build0 tb ?_; intro bs)))
        refine GK.heap (Γ' := [dk d (D.write i l).2]) (fun w s => ?_) (GQ.end1 rfl rfl ⟨by simp [DM.write, h, h1, hgoes], rfl⟩)
        have hD : (D.write i l).2 = { D.goes.2 with pend := D.pend ++ [(i.toNat, l)] } := by simp [DM.write, h, h1, hgoes]
        rw [hD]
        have hok := hx.ok.goes hopn
        rw [hgoes] at hok ⊢
        have hlen : (D.pend ++ [(i.toNat, l)]).length = D.pend.length + 1 := by simp
        have hfl : flatP (D.pend ++ [(i.toNat, l)]) = flatP D.pend ++ .int .i64 i :: u8s l := by rw [flatP_snoc]; simp only []; congr 3; omega
        refine shut_dk (x := ⟨xs, xsc, xst, xsz, p, c, xm, mset xl i (.int .i64 (((D.pend.length + 1 : Nat) : Nat) : Int))⟩) ?_ ?_
        · refine { hx with ok := { hok with pend := ?_, count := ?_ }, last := ?_ }
          · intro q hq
            rcases List.mem_append.1 hq with hq | hq
            · exact hx.ok.pend q hq
            · simp at hq; subst hq; exact ⟨by show i.toNat < D.sure.length; omega, h1⟩
          · show (D.pend ++ [(i.toNat, l)]).length ≤ _; rw [hlen]; omega
          · intro t
            rw [mget_mset, lastIx_snoc]
            have ht : ((i.toNat : Nat) : Int) = i := by omega
            by_cases e : t = i
            · subst e; simp [ht]
            · rw [if_neg e, if_neg (by simp only []; omega)]; exact hx.last t
        · show Sat (dblk d (dcells _ _ _ p (D.pend ++ [(i.toNat, l)]).length c _ _ _ _ _) :: _ :: row (.slice p (D.pend ++ [(i.toNat, l)]).length c) _ 257 (D.pend ++ [(i.toNat, l)]).length (flatP (D.pend ++ [(i.toNat, l)])) :: _) _ _
          rw [hlen, hfl]
          exact s.sel [2, 2, 0, 1] rfl
end Go.Dk
