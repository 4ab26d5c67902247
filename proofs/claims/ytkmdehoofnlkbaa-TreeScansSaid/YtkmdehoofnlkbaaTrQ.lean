/- A node's entries from a key on, one by one. -/
import Derived.Test.YtkmdehoofnlkbaaEnW
import Derived.Test.YtkmdehoofnlkbaaTrK
namespace Go.Tr
open Go Go.Sl
/-! ### the plain law -/
def rest : Nat → T → Ky → Nat → List En
  | 0, t, _, i => t.l.drop i
  | d + 1, t, key, i => inter ((t.ks.drop i).map fun k => lfrom (flat d k) key) (t.l.drop i)
def sub : Nat → T → Ky → Nat → List En
  | 0, _, _, _ => []
  | d + 1, t, key, i => lfrom (flat d (kid t i)) key
theorem drop_kid {t : T} {i : Nat} (h : i < t.ks.length) : t.ks.drop i = kid t i :: t.ks.drop (i + 1) := by
  rw [List.drop_eq_getElem_cons h]; simp [kid, List.getD, List.getElem?_eq_getElem h]
theorem drop_ent {l : List En} {i : Nat} (h : i < l.length) : l.drop i = ent l i :: l.drop (i + 1) := by
  rw [List.drop_eq_getElem_cons h]; simp [ent, List.getD, List.getElem?_eq_getElem h]
theorem rest_step {d : Nat} {t : T} (hw : WF d t) {key : Ky} {i : Nat} (hi : i < t.l.length) : rest d t key i = sub d t key i ++ ent t.l i :: rest d t key (i + 1) := by
  cases d with
  | zero => show t.l.drop i = [] ++ ent t.l i :: t.l.drop (i + 1); rw [drop_ent hi]; rfl
  | succ d =>
    have h1 := hw.1
    simp only [rest, sub]
    rw [drop_kid (t := t) (i := i) (by omega), drop_ent hi, drop_kid (t := t) (i := i + 1) (by omega)]
    simp [inter, iright]
theorem rest_last {d : Nat} {t : T} (hw : WF d t) {key : Ky} : rest d t key t.l.length = sub d t key t.l.length := by
  cases d with
  | zero => show t.l.drop _ = []; simp
  | succ d =>
    have h1 := hw.1
    simp only [rest, sub]
    rw [drop_kid (t := t) (i := t.l.length) (by omega), List.drop_length, List.drop_eq_nil_of_le (by omega)]
    simp [inter, iright]
theorem kid_srt {d : Nat} {t : T} (hw : WF (d + 1) t) (hs : Srt (flat (d + 1) t)) {k : T} (hk : k ∈ t.ks) : Srt (flat d k) := by
  obtain ⟨i, hi⟩ := List.mem_iff_getElem?.1 hk
  have hlt := (List.getElem?_eq_some_iff.1 hi).1
  obtain ⟨e1, e2⟩ := split_kid hi
  have ht : t = .mk (t.l.take i ++ t.l.drop i) (t.ks.take i ++ k :: t.ks.drop (i + 1)) := by rw [List.take_append_drop, ← e1, T.eta]
  have hf := @flat_split d (t.l.take i) (t.l.drop i) (t.ks.take i) (t.ks.drop (i + 1)) k (by have := hw.1; simp; omega)
  rw [← ht] at hf
  rw [hf] at hs
  exact srt_right (srt_left hs)
theorem iright_filter {f : En → Bool} : ∀ {lb : List En} {fs : List (List En)}, (∀ b ∈ lb, f b = true) → (iright lb fs).filter f = iright lb (fs.map (List.filter f))
  | [], _, _ => by simp [iright]
  | _ :: _, [], _ => by simp [iright]
  | e :: l, g :: fs, h => by
    simp only [iright, List.map_cons, List.filter_cons, h e (by simp), if_true, List.filter_append]
    rw [iright_filter fun b hb => h b (by simp [hb])]
theorem lfrom_all {l : List En} (h : Srt l) {k : Ky} : ∀ b ∈ l.drop (pos l k), (!lt b.1 k) = true := by
  intro b hb
  have : b ∈ lfrom l k := hb
  rw [lfrom_filter h] at this
  exact (List.mem_filter.1 this).2
theorem rest_start {d : Nat} {t : T} (hw : WF d t) (hs : Srt (flat d t)) {key : Ky} : rest d t key (pos t.l key) = lfrom (flat d t) key := by
  cases d with
  | zero => rfl
  | succ d =>
    have hsl := srt_l hw hs
    have hp := pos_le t.l key
    have h1 := hw.1
    have hk := drop_kid (t := t) (i := pos t.l key) (by omega)
    have hfl : flat (d + 1) t = ileft ((t.ks.take (pos t.l key)).map (flat d)) (t.l.take (pos t.l key)) ++ flat d (kid t (pos t.l key)) ++ iright (t.l.drop (pos t.l key)) ((t.ks.drop (pos t.l key + 1)).map (flat d)) := by
      have ht : t = .mk (t.l.take (pos t.l key) ++ t.l.drop (pos t.l key)) (t.ks.take (pos t.l key) ++ kid t (pos t.l key) :: t.ks.drop (pos t.l key + 1)) := by rw [List.take_append_drop, ← hk, List.take_append_drop, T.eta]
      have := @flat_split d (t.l.take (pos t.l key)) (t.l.drop (pos t.l key)) (t.ks.take (pos t.l key)) (t.ks.drop (pos t.l key + 1)) (kid t (pos t.l key)) (by simp; omega)
      rw [← ht] at this
      exact this
    have hA : ∀ a ∈ ileft ((t.ks.take (pos t.l key)).map (flat d)) (t.l.take (pos t.l key)), lt a.1 key = true := by
      have hs' := hs
      rw [hfl] at hs'
      exact ileft_lt (srt_left (srt_left hs')) (srt_take hsl key)
    have hks : Srt (flat d (kid t (pos t.l key))) := kid_srt hw hs (by have : kid t (pos t.l key) ∈ t.ks.drop (pos t.l key) := by rw [hk]; simp
                                                                       exact List.mem_of_mem_drop this)
    rw [lfrom_filter hs]
    simp only [rest]
    rw [hfl, List.filter_append, List.filter_append, List.filter_eq_nil_iff.2 (fun a ha => by simp [hA a ha]), List.nil_append, ← lfrom_filter hks, iright_filter (lfrom_all hsl), hk]
    simp only [List.map_cons, inter, List.map_map]
    congr 2
    refine List.map_congr_left fun b hb => ?_
    exact lfrom_filter (kid_srt hw hs (List.mem_of_mem_drop hb)) key
def enc1 (e : En) : List Value := [.agg ⟨entC e⟩]
attribute [local irreducible] GK GO Yl Wt Ef Hd GH KH wpListIn Code.wpIn toBody roundQ poolOf rs RS YieldOk IterOk VOk row star exs mp lp Sat pt FnOk Rd bodyPost bodyPostM Lv Ret Exit.then Exit.inBlock Exit.noGoto Int.decLt Int.decLe Int.instDecidableEq
attribute [local irreducible] ents ptrs hasH less dset
set_option pp.deepTerms true
set_option pp.maxSteps 1000000
variable {hF H : Hp}
theorem from_ok (b : Nat) (key : Ky) : FnOk Go.Proofs.Try.prog 28 [nptr b, str key] [] hF (fun v Γ => ∃ b1 b2, v = .func (.func 34) #[] #[nptr b1, nptr b2] ∧ Γ = [nbox b1 (nptr b), kbox b2 key]) := by
  refine FnOk.intro 6 Go.Proofs.Try.func28 rfl rfl fun w0 => ?_
  (repeat (first | refine GK.run ?_ | (refine GK.box ?_; intro bl) | (refine GK.mkMap ?_; intro bm) | (refine GK.build0 tb ?_; intro bs)))
  exact GK.sel [1, 0] rfl (GQ.end1 rfl rfl ⟨_, _, rfl, rfl⟩)
theorem from_nil (key : Ky) : FnOk Go.Proofs.Try.prog 28 [.pointer none, str key] [] hF (fun v Γ => ∃ b1 b2, v = .func (.func 34) #[] #[nptr b1, nptr b2] ∧ Γ = [nbox b1 (.pointer none), kbox b2 key]) := by
  refine FnOk.intro 6 Go.Proofs.Try.func28 rfl rfl fun w0 => ?_
  (repeat (first | refine GK.run ?_ | (refine GK.box ?_; intro bl) | (refine GK.mkMap ?_; intro bm) | (refine GK.build0 tb ?_; intro bs)))
  exact GK.sel [1, 0] rfl (GQ.end1 rfl rfl ⟨_, _, rfl, rfl⟩)
abbrev ybox (b l : Nat) (ty : Nat) : HProp := blk b ty (0, 0) [yv l]
theorem from1_nil (bn bk : Nat) (key : Ky) : IterP Go.Proofs.Try.prog 34 #[] #[nptr bn, nptr bk] enc1 [] H [nbox bn (.pointer none), kbox bk key] (fun Γ => Γ = [nbox bn (.pointer none), kbox bk key]) hF := by
  intro l J JB hF' hle hy
  show FnOk _ _ [yv l, nptr bn, nptr bk] _ _ _
  refine FnOk.introM 63 Go.Proofs.Try.func34 rfl rfl fun w0 => ?_
  (repeat (first | refine GK.run ?_ | (refine GK.box ?_; intro bl) | (refine GK.mkMap ?_; intro bm) | (refine GK.build0 tb ?_; intro bs)))
  refine GQ.leave ?_
  refine GK.sel [1, 1, 1, 1] rfl ?_
  exact GK.out0 rfl ⟨[nbox bn (.pointer none), kbox bk key], rfl, .inl rfl⟩
set_option maxHeartbeats 1000000 in
theorem from1_ok (d : Nat) : ∀ (t : T) (b : Nat) (H hF : Hp) (key : Ky) (bn bk : Nat), Good H d t b → IterP Go.Proofs.Try.prog 34 #[] #[nptr bn, nptr bk] enc1 (lfrom (flat d t) key) H [nbox bn (nptr b), kbox bk key] (fun Γ => Γ = [nbox bn (nptr b), kbox bk key]) hF := by
  induction d using Nat.strongRecOn with
  | _ d ih =>
  intro t b H hF key bn bk hg l J JB hF' hle hy
  show FnOk _ _ [yv l, nptr bn, nptr bk] _ _ _
  refine FnOk.introM 63 Go.Proofs.Try.func34 rfl rfl fun w0 => ?_
  obtain ⟨lv, kv, ps, hnd, hk⟩ := hg.at_.node
  have hndn := hnd.nd
  have hlen := hnd.len
  have hw := hg.wf
  have hsl := srt_l hg.wf hg.srt
  have hmost := hg.most
  have hp := pos_le t.l key
  have hnd' := hnd
  obtain ⟨q0, c0, rfl, hc0, hkn, hr0⟩ := hnd.k.out
  obtain ⟨p0, e0, rfl, he0, hln, hrl⟩ := hnd.l.out
  have hstart := rest_start hw hg.srt (key := key)
  obtain ⟨all, hall⟩ : ∃ all, lfrom (flat d t) key = all := ⟨_, rfl⟩
  rw [hall] at hstart hy ⊢
  (repeat (first | refine GK.run ?_ | (refine GK.box ?_; intro bl) | (refine GK.mkMap ?_; intro bm) | (refine GK.build0 tb ?_; intro bs)))
  refine GL.cons ?_; refine GO.call [1] (fun hF' hle hH => find_ok hnd' hsl (by omega) key) (by first | exact Wt.none | exact Wt.some rfl rfl (by first | exact rfl | decide +kernel)) (by kernel_rfl) rfl rfl rfl ?_
  rintro v Γ' ⟨rfl, rfl⟩
  (repeat (first | refine GK.run ?_ | (refine GK.box ?_; intro bl) | (refine GK.mkMap ?_; intro bm) | (refine GK.build0 tb ?_; intro bs)))
  refine GK.weak (fr' := [(1, nptr bn), (2, nptr bk), (3, nptr bl), (4, .int .i64 ((pos t.l key : Nat) : Int))]) (Γ' := [poolOf H, J [], nbox bn (nptr b), kbox bk key, ybox bl l 73, dset []]) (by repeat (first | exact trivial | refine ⟨rfl, ?_⟩)) (fun w s => ?_) (G.loopD (cx := ⟨63, [], hF', w0, none⟩) (fun x : Nat × List En × List Nat => t.l.length + 1 - x.1) (fun x => x.2.2.map Sl.mark) (fun x => [(1, nptr bn), (2, nptr bk), (3, nptr bl), (4, .int .i64 (x.1 : Int))]) (fun x => [poolOf H, J x.2.1, nbox bn (nptr b), kbox bk key, ybox bl l 73, dset x.2.2])
    (fun x => x.1 ≤ t.l.length + 1 ∧ (x.1 ≤ t.l.length → x.2.1 ++ rest d t key x.1 = all) ∧ (t.l.length < x.1 → x.2.1 = all)) (fun x hx => ?_) (pos t.l key, [], []) ⟨by show pos t.l key ≤ _; omega, fun _ => hstart, fun h => absurd h (by show ¬ _ < pos t.l key; omega)⟩)
  · exact (Sat.dset_nil (s.sel [0, 1, 1, 1, 0] rfl)).sel [1, 1, 1, 1, 1, 0] rfl
  obtain ⟨i, pre, Ds⟩ := x
  obtain ⟨hi1, hi2, hi3⟩ := hx
  replace hi1 : i ≤ t.l.length + 1 := hi1
  replace hi2 : i ≤ t.l.length → pre ++ rest d t key i = all := hi2
  replace hi3 : t.l.length < i → pre = all := hi3
  (repeat (first | refine GK.run ?_ | (refine GK.box ?_; intro bl) | (refine GK.mkMap ?_; intro bm) | (refine GK.build0 tb ?_; intro bs)))
  refine G.cond rfl (fun hc => ?_) (fun hc => ?_)
  rotate_left
  · have hc : t.l.length < i := by simp at hc; omega
    have hpre := hi3 hc
    subst hpre
    (repeat (first | refine GK.run ?_ | (refine GK.box ?_; intro bl) | (refine GK.mkMap ?_; intro bm) | (refine GK.build0 tb ?_; intro bs)))
    refine GQ.leave' ?_
    refine GK.sel [5, 0, 0, 0, 0] rfl ?_
    exact GK.popAll (Ds := Ds) (GK.out0 rfl ⟨[nbox bn (nptr b), kbox bk key], rfl, .inl rfl⟩)
  have hc : i ≤ t.l.length := by simp at hc; omega
  replace hi2 := hi2 hc
  (repeat (first | refine GK.run ?_ | (refine GK.box ?_; intro bl) | (refine GK.mkMap ?_; intro bm) | (refine GK.build0 tb ?_; intro bs)))
  refine G.cutD (cx := ⟨63, Ds.map Sl.mark, hF', w0, none⟩) (fun x : List Nat => x.map Sl.mark) (fun x => [(1, nptr bn), (2, nptr bk), (3, nptr bl), (4, .int .i64 (i : Int))]) (fun x => [poolOf H, J (pre ++ sub d t key i), nbox bn (nptr b), kbox bk key, ybox bl l 73, dset x]) (fun _ => True) (fun Ds2 _ => ?_) ?_
  rotate_left
  · refine G.cond rfl (fun h0 => ?_) (fun h0 => ?_)
    rotate_left
    · have h0 : t.ks = [] := by simp at h0; exact h0
      have hd : d = 0 := hw.leaf.1 h0
      subst hd
      (repeat (first | refine GK.run ?_ | (refine GK.box ?_; intro bl) | (refine GK.mkMap ?_; intro bm) | (refine GK.build0 tb ?_; intro bs)))
      exact GQ.reachD Ds trivial rfl (by repeat (first | exact trivial | refine ⟨rfl, ?_⟩)) (fun w s => by show Sat [poolOf H, J (pre ++ []), _, _, _, _] _ _; rw [List.append_nil]; exact s.sel [0, 0, 0, 0, 0, 0] rfl)
    · have h0 : 0 < t.ks.length := by simpa using h0
      obtain ⟨d', rfl⟩ : ∃ d', d = d' + 1 := by
        cases d with
        | zero => have : t.ks = [] := hw; rw [this] at h0; simp at h0
        | succ d => exact ⟨d, rfl⟩
      have hw1 := hw.1
      obtain ⟨pk, hpk, hgk⟩ := hg.kid' (i := i) (by omega) hk hlen
      obtain ⟨bb, o, cs, et, fz, rfl, hbb, hat⟩ := hr0 (by omega)
      have hld : cs[o + (i : Int).toNat * 1]? = some (nptr pk) := hat _ _ (ptrs_get hpk)
      (repeat (first | refine GK.run ?_ | (refine GK.box ?_; intro bl) | (refine GK.mkMap ?_; intro bm) | (refine GK.build0 tb ?_; intro bs)))
      refine G.draw [] [poolOf H, nbox bn (nptr b), kbox bk key] (by kernel_rfl) ?_
      ((first | refine GH.tk 0 [0,1,1] ?_ | refine GH.tks 0 [0,1,1] ?_); (first | refine GH.tk 1 [0,1,1] ?_ | refine GH.tks 1 [0,1,1] ?_); (first | refine GH.tk 2 [0,1,1] ?_ | refine GH.tks 2 [0,1,1] ?_); (first | refine GH.tk 3 [0,1,1] ?_ | refine GH.tks 3 [0,1,1] ?_); (first | refine GH.tk 4 [0,1,1] ?_ | refine GH.tks 4 [0,1,1] ?_); (first | refine GH.tk 5 [0,1,1] ?_ | refine GH.tks 5 [0,1,1] ?_); (first | refine GH.tk 6 [0,1,1] ?_ | refine GH.tks 6 [0,1,1] ?_); (first | refine GH.tk 7 [0,1,1] ?_ | refine GH.tks 7 [0,1,1] ?_))
      refine GH.step 8 rfl (by kernel_rfl) ?_
      refine GO.call [] (fun hF' _ _ => from_ok pk key) (by first | exact Wt.none | exact Wt.some rfl rfl (by first | exact rfl | decide +kernel)) (by kernel_rfl) rfl rfl rfl ?_
      rintro v Γ' ⟨b1, b2, rfl, rfl⟩
      refine GH.keep (fun _ s => s.sel [2,3,3] rfl) ?_
      refine GH.fin (by kernel_rfl) ?_
      (repeat (first | refine GK.run ?_ | (refine GK.box ?_; intro bl) | (refine GK.mkMap ?_; intro bm) | (refine GK.build0 tb ?_; intro bs)))
      refine G.forRangeP (H := H) (fun p => [poolOf H, J (pre ++ p), nbox bn (nptr b), kbox bk key, ybox bl l 73, dset Ds]) (fun c p Γ2 => c = .ret ∧ Γ2 = [poolOf H, JB (pre ++ p), nbox bn (nptr b), kbox bk key, ybox bl l 73, dset Ds]) (fun _ => hasH.pool (le.refl _)) (fun c p Γ2 h => by rw [h.2]; exact hasH.pool (le.refl _)) (ih d' (by omega) (kid t i) pk H _ key b1 b2 hgk) rfl (by kernel_rfl) (fun _ => rfl) (fun hF w s => ?_) (fun l1 p x hF1 w1 hpx hle1 => ?_) ?_ ?_
      · show Sat [poolOf H, J (pre ++ []), _, _, _, _, _, _] _ _
        rw [List.append_nil]
        exact s.sel [2, 2, 2, 2, 2, 2, 0, 0] rfl
      · have hpre : pre ++ p ++ [x] <+: all := by
          rw [← hi2, List.append_assoc]
          refine List.prefix_append_right_inj pre |>.2 (hpx.trans ?_)
          rcases Nat.lt_or_ge i t.l.length with h | h
          · rw [rest_step hw h]; exact List.prefix_append _ _
          · obtain rfl : i = t.l.length := by omega
            rw [rest_last hw]; exact List.prefix_refl _
        (repeat (first | refine GK.run ?_ | (refine GK.box ?_; intro bl) | (refine GK.mkMap ?_; intro bm) | (refine GK.build0 tb ?_; intro bs)))
        refine GL.cons ?_; refine Gt.allocAny tb (by first | exact Wt.none | exact Wt.some rfl rfl (by first | exact rfl | decide +kernel)) (by exact rfl) (by exact rfl) ?_
        intro br lr hlr
        (repeat (first | refine GK.run ?_ | (refine GK.box ?_; intro bl) | (refine GK.mkMap ?_; intro bm) | (refine GK.build0 tb ?_; intro bs)))
        refine GL.cons ?_
        refine Gt.storeAny tb 0 (by first | exact Wt.none | exact Wt.some rfl rfl (by first | exact rfl | decide +kernel)) rfl rfl rfl (entC_len x) (entC_one x) rfl hlr ?_
        (repeat (first | refine GK.run ?_ | (refine GK.box ?_; intro bl) | (refine GK.mkMap ?_; intro bm) | (refine GK.build0 tb ?_; intro bs)))
        refine GQ.to_body fun hF2 w2 hle2 => ?_
        (repeat (first | refine GK.run ?_ | (refine GK.box ?_; intro bl) | (refine GK.mkMap ?_; intro bm) | (refine GK.build0 tb ?_; intro bs)))
        refine GL.cons ?_
        refine GO.callV (Γf := [poolOf H, J (pre ++ p)]) (fun hF3 hle3 _ => hy.pool hpre (hle2.trans hle3)) (by first | exact Wt.none | exact Wt.some rfl rfl (by first | exact rfl | decide +kernel)) rfl rfl (takes_perm (sel := [1, 1]) rfl) ?_
        rintro v Γ' (⟨rfl, rfl⟩ | ⟨rfl, rfl⟩)
        · (repeat (first | refine GK.run ?_ | (refine GK.box ?_; intro bl) | (refine GK.mkMap ?_; intro bm) | (refine GK.build0 tb ?_; intro bs)))
          refine GK.sel [0, 0, 1, 1, 1, 1] rfl ?_
          exact GQ.round_on (by rw [List.append_assoc])
        · (repeat (first | refine GK.run ?_ | (refine GK.box ?_; intro bl) | (refine GK.mkMap ?_; intro bm) | (refine GK.build0 tb ?_; intro bs)))
          refine GK.sel [0, 0, 1, 1, 1, 1] rfl ?_
          exact GQ.round_ret ⟨rfl, by rw [List.append_assoc]⟩
      · rintro D Γc' rfl
        (repeat (first | refine GK.run ?_ | (refine GK.box ?_; intro bl) | (refine GK.mkMap ?_; intro bm) | (refine GK.build0 tb ?_; intro bs)))
        exact GQ.reachD (D :: Ds) trivial rfl (by repeat (first | exact trivial | refine ⟨rfl, ?_⟩)) (fun w s => (Sat.dset_push (s.sel [0, 5, 0, 0, 0, 0, 0] rfl)).sel [1, 1, 1, 1, 1, 0] rfl)
      · rintro D Γc' c p Γ2 rfl hp1 ⟨rfl, rfl⟩
        have hpre : pre ++ p <+: all := by
          rw [← hi2]
          refine List.prefix_append_right_inj pre |>.2 (hp1.trans ?_)
          rcases Nat.lt_or_ge i t.l.length with h | h
          · rw [rest_step hw h]; exact List.prefix_append _ _
          · obtain rfl : i = t.l.length := by omega
            rw [rest_last hw]; exact List.prefix_refl _
        (repeat (first | refine GK.run ?_ | (refine GK.box ?_; intro bl) | (refine GK.mkMap ?_; intro bm) | (refine GK.build0 tb ?_; intro bs)))
        refine GQ.leave ?_
        refine GK.heap (fun w s => (Sat.dset_push (s.sel [0, 5, 0, 0, 0, 0] rfl))) ?_
        exact GK.popAll (Ds := D :: Ds) (GK.out0 rfl ⟨[nbox bn (nptr b), kbox bk key], rfl, .inr ⟨_, hpre, rfl⟩⟩)
  (repeat (first | refine GK.run ?_ | (refine GK.box ?_; intro bl) | (refine GK.mkMap ?_; intro bm) | (refine GK.build0 tb ?_; intro bs)))
  refine G.draw [] [poolOf H, nbox bn (nptr b), ybox bl l 73] (by kernel_rfl) ?_
  ((first | refine GH.tk 0 [0,1,2] ?_ | refine GH.tks 0 [0,1,2] ?_); (first | refine GH.tk 1 [0,1,2] ?_ | refine GH.tks 1 [0,1,2] ?_); (first | refine GH.tk 2 [0,1,2] ?_ | refine GH.tks 2 [0,1,2] ?_); (first | refine GH.tk 3 [0,1,2] ?_ | refine GH.tks 3 [0,1,2] ?_); (first | refine GH.tk 4 [0,1,2] ?_ | refine GH.tks 4 [0,1,2] ?_); (first | refine GH.tk 5 [0,1,2] ?_ | refine GH.tks 5 [0,1,2] ?_); (first | refine GH.tk 6 [0,1,2] ?_ | refine GH.tks 6 [0,1,2] ?_); (first | refine GH.tk 7 [0,1,2] ?_ | refine GH.tks 7 [0,1,2] ?_))
  by_cases hlt : i < t.l.length
  · rw [show decide ((i : Int) < (t.l.length : Int)) = true by simpa using hlt]
    obtain ⟨bb, o, cs, et, fz, rfl, hbb, hat⟩ := hrl (by omega)
    have hAt : At cs (o + (i : Int).toNat * 2) (entC (ent t.l i)) := at_trans hat (ents_at (ent_at hlt))
    have hlenc := entC_len (ent t.l i)
    have hst := rest_step hw (key := key) hlt
    have hpre : (pre ++ sub d t key i) ++ [ent t.l i] <+: all := by
      rw [← hi2, hst, List.append_assoc]
      refine List.prefix_append_right_inj pre |>.2 ?_
      exact List.prefix_append_right_inj _ |>.2 ⟨rest d t key (i + 1), rfl⟩
    ((first | refine GH.tk 8 [0,1,2] ?_ | refine GH.tks 8 [0,1,2] ?_); (first | refine GH.tk 9 [0,1,2] ?_ | refine GH.tks 9 [0,1,2] ?_); (first | refine GH.tk 10 [0,1,2] ?_ | refine GH.tks 10 [0,1,2] ?_); (first | refine GH.tk 11 [0,1,2] ?_ | refine GH.tks 11 [0,1,2] ?_); (first | refine GH.tk 12 [0,1,2] ?_ | refine GH.tks 12 [0,1,2] ?_); (first | refine GH.tk 13 [0,1,2] ?_ | refine GH.tks 13 [0,1,2] ?_); (first | refine GH.tk 14 [0,1,2] ?_ | refine GH.tks 14 [0,1,2] ?_); (first | refine GH.tk 15 [0,1,2] ?_ | refine GH.tks 15 [0,1,2] ?_))
    refine GH.step 16 rfl (by kernel_rfl) ?_
    refine GO.callV (Γf := [poolOf H, J (pre ++ sub d t key i)]) (fun hF3 hle3 _ => hy.pool hpre hle3) (by first | exact Wt.none | exact Wt.some rfl rfl (by first | exact rfl | decide +kernel)) rfl rfl (takes_perm (sel := [0, 0]) rfl) ?_
    rintro v Γ' (⟨rfl, rfl⟩ | ⟨rfl, rfl⟩)
    · refine GH.keep (fun _ s => s.sel [0,1,2] rfl) ?_
      ((first | refine GH.tk 17 [0,1,2] ?_ | refine GH.tks 17 [0,1,2] ?_); (first | refine GH.tk 18 [0,1,2] ?_ | refine GH.tks 18 [0,1,2] ?_))
      refine GH.fin (by kernel_rfl) ?_
      (repeat (first | refine GK.run ?_ | (refine GK.box ?_; intro bl) | (refine GK.mkMap ?_; intro bm) | (refine GK.build0 tb ?_; intro bs)))
      refine GQ.againD (i + 1, (pre ++ sub d t key i) ++ [ent t.l i], Ds2) ⟨by show i + 1 ≤ _; omega, fun _ => ?_, fun h => ?_⟩ (by show t.l.length + 1 - (i + 1) < t.l.length + 1 - i; omega) rfl (by repeat (first | exact trivial | refine ⟨rfl, ?_⟩)) (fun w s => s.sel [0, 0, 0, 0, 0, 0] rfl)
      · show (pre ++ sub d t key i) ++ [ent t.l i] ++ rest d t key (i + 1) = all
        rw [← hi2, hst]; simp
      · replace h : t.l.length < i + 1 := h
        exfalso; omega
    · refine GH.keep (fun _ s => s.sel [0,1,2] rfl) ?_
      ((first | refine GH.tk 17 [0,1,2] ?_ | refine GH.tks 17 [0,1,2] ?_); (first | refine GH.tk 18 [0,1,2] ?_ | refine GH.tks 18 [0,1,2] ?_))
      refine GH.fin (by kernel_rfl) ?_
      (repeat (first | refine GK.run ?_ | (refine GK.box ?_; intro bl) | (refine GK.mkMap ?_; intro bm) | (refine GK.build0 tb ?_; intro bs)))
      refine GQ.leave ?_
      refine GK.sel [5, 0, 0, 0, 0] rfl ?_
      exact GK.popAll (Ds := Ds2) (GK.out0 rfl ⟨[nbox bn (nptr b), kbox bk key], rfl, .inr ⟨_, hpre, rfl⟩⟩)
  · rw [show decide ((i : Int) < (t.l.length : Int)) = false by simpa using hlt]
    obtain rfl : i = t.l.length := by omega
    ((first | refine GH.tk 8 [0,1,2] ?_ | refine GH.tks 8 [0,1,2] ?_); (first | refine GH.tk 9 [0,1,2] ?_ | refine GH.tks 9 [0,1,2] ?_); (first | refine GH.tk 10 [0,1,2] ?_ | refine GH.tks 10 [0,1,2] ?_); (first | refine GH.tk 11 [0,1,2] ?_ | refine GH.tks 11 [0,1,2] ?_); (first | refine GH.tk 12 [0,1,2] ?_ | refine GH.tks 12 [0,1,2] ?_); (first | refine GH.tk 13 [0,1,2] ?_ | refine GH.tks 13 [0,1,2] ?_); (first | refine GH.tk 14 [0,1,2] ?_ | refine GH.tks 14 [0,1,2] ?_); (first | refine GH.tk 15 [0,1,2] ?_ | refine GH.tks 15 [0,1,2] ?_); (first | refine GH.tk 16 [0,1,2] ?_ | refine GH.tks 16 [0,1,2] ?_); (first | refine GH.tk 17 [0,1,2] ?_ | refine GH.tks 17 [0,1,2] ?_); (first | refine GH.tk 18 [0,1,2] ?_ | refine GH.tks 18 [0,1,2] ?_))
    refine GH.fin (by kernel_rfl) ?_
    (repeat (first | refine GK.run ?_ | (refine GK.box ?_; intro bl) | (refine GK.mkMap ?_; intro bm) | (refine GK.build0 tb ?_; intro bs)))
    refine GQ.againD (t.l.length + 1, pre ++ sub d t key t.l.length, Ds2) ⟨Nat.le_refl _, fun h => ?_, fun h => ?_⟩ (by show t.l.length + 1 - (t.l.length + 1) < t.l.length + 1 - t.l.length; omega) rfl (by repeat (first | exact trivial | refine ⟨rfl, ?_⟩)) (fun w s => s.sel [0, 0, 0, 0, 0, 0] rfl)
    · replace h : t.l.length + 1 ≤ t.l.length := h
      exfalso; omega
    · show pre ++ sub d t key t.l.length = all
      rw [← hi2, rest_last hw]
end Go.Tr
