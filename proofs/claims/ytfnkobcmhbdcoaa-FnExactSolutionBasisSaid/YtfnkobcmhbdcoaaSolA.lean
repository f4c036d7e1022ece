/- The reference's list of candidates (l34All). -/
import Derived.Test.YtfnkobcmhbdcoaaGath
import Derived.Test.YtfnkobcmhbdcoaaPureDio
namespace Go.Proofs.Ytfnkobcmhbdcoaa.SolA
open Go.RowKit Go.Proofs.YtfnkobcmhbdcoaaW.PrintWords Go.Proofs.YtfnkobcmhbdcoaaW.PrintLast Go.Proofs.YtfnkobcmhbdcoaaW.PrintMore Go.Proofs.Ytfnkobcmhbdcoaa.Base Go.Proofs.Ytfnkobcmhbdcoaa.XTypes Go.Proofs.Ytfnkobcmhbdcoaa.XInts Go.Proofs.Ytfnkobcmhbdcoaa.XProb Go.Proofs.Ytfnkobcmhbdcoaa.XSum Go.Proofs.Ytfnkobcmhbdcoaa.Problem Go.Proofs.Ytfnkobcmhbdcoaa.PureInts Go.Proofs.Ytfnkobcmhbdcoaa.PureSum Go.Proofs.Ytfnkobcmhbdcoaa.Typed Go.Proofs.Ytfnkobcmhbdcoaa.Trees Go.Proofs.Ytfnkobcmhbdcoaa.MarkT Go.Proofs.Ytfnkobcmhbdcoaa.Rows2 Go.Proofs.Ytfnkobcmhbdcoaa.GathR Go.Proofs.Ytfnkobcmhbdcoaa.Dio Go.Proofs.Ytfnkobcmhbdcoaa.DioL Go.Proofs.Ytfnkobcmhbdcoaa.PureDio
set_option linter.unusedVariables false
set_option linter.unusedSimpArgs false
set_option linter.unnecessarySimpa false

/-- What l34All gives, handed ls. -/
structure Given (w0 : World) (vout : Value) (vs : List Value) (ls : List (List Int)) (w : World) (e : Ending) (w' : World) : Prop where
  out : ∃ v' vs', e = .returned v' ∧ Ga w0.heap.size v' ls vs' w' ∧ (v'.ownBlock = vout.ownBlock ∨ ∃ b, v'.ownBlock = some b ∧ w.heap.size ≤ b) ∧ ∀ k ∈ blks vs', k ∈ blks vs ∨ w.heap.size ≤ k
  b : Below w0.heap.size w0 w'
  k : Kept w w' (fun k => vout.ownBlock = some k)
theorem kept_refl (w : World) (P : Nat → Prop) : Kept w w P := ⟨Nat.le_refl _, fun _ _ _ => rfl⟩
theorem kept_below {w w' : World} {P : Nat → Prop} (h : Below w.heap.size w w') : Kept w w' P := ⟨h.size, fun k hk _ => h.block k hk⟩
theorem kept_trans {w w1 w2 : World} {P : Nat → Prop} (h : Kept w w1 P) (h' : Kept w1 w2 P) : Kept w w2 P := ⟨Nat.le_trans h.1 h'.1, fun k hk hp => (h'.2 k (Nat.lt_of_lt_of_le hk h.1) hp).trans (h.2 k hk hp)⟩
theorem kept_grown {w w' : World} {r : Option Nat} (h : w.grownBy w' r) : Kept w w' (fun k => r = some k) := ⟨h.size, fun k hk hp => h.block k hk (fun e => hp e.symm)⟩

theorem far_of {W V w : World} {B : Nat} {vout : Value} {ls : List (List Int)} {vs : List Value} {o : Obj} (hV : V = W.alloc o) (hG : Ga B vout ls vs w) (hb : Below w.heap.size w W) : ∀ k, Value.ownBlock (.slice (some ⟨W.heap.size, 0, none⟩) 0 0) = some k → k ∉ blks vs ∧ vout.ownBlock ≠ some k := fun k hk => by
  have e : W.heap.size = k := by simpa [Value.ownBlock] using hk
  have := hb.size
  exact ⟨fun hs => by have := hG.lt k hs; omega, fun ho => by have := hG.out_lt ho; omega⟩
theorem far_new {W V w w0 : World} {vout u : Value} {ls : List (List Int)} {vs : List Value} {o : Obj} (hV : V = W.alloc o) (hG : Ga w0.heap.size vout ls vs w) (hb : Below w.heap.size w W) (hB : Below w0.heap.size w0 w)
    (hat : u.ownBlock = Value.ownBlock (.slice (some ⟨W.heap.size, 0, none⟩) 0 0) ∨ ∃ b, u.ownBlock = some b ∧ V.heap.size ≤ b) : ∀ k, Fp u k → w0.heap.size ≤ k ∧ k ∉ blks vs ∧ vout.ownBlock ≠ some k ∧ W.heap.size ≤ k := fun k hk => by
  have hle : W.heap.size ≤ k := by
    unfold Fp at hk
    rcases hat with hat | ⟨b, hb', h⟩
    · rw [hat] at hk
      have : W.heap.size = k := by simpa [Value.ownBlock] using hk
      omega
    · rw [hb'] at hk
      injection hk with hk
      rw [hV] at h
      simp at h
      omega
  have h1 := hb.size
  have h2 := hB.size
  exact ⟨by omega, fun hs => by have := hG.lt k hs; omega, fun ho => by have := hG.out_lt ho; omega, hle⟩

set_option maxHeartbeats 4000000 in
set_option maxRecDepth 100000 in
theorem all_end (a b x : List Int) (fa : Fac a) (fb : Fac b) (h5 : a.length + b.length ≤ 5) (hl : x.length = a.length + b.length) (hx : ∀ i, i < x.length → 0 ≤ gt x i ∧ gt x i ≤ 5) (va vb vx vout : Value) (ls : List (List Int)) (vs : List Value) (w0 w : World)
    (ha : RdI w0 va a) (hb : RdI w0 vb b) (hB : Below w0.heap.size w0 w) (ho : OwI w0.heap.size w vx x) (hG : Ga w0.heap.size vout ls vs w) (hA : ∀ k, Fp vx k → k ∉ blks vs ∧ vout.ownBlock ≠ some k) (hn : ls.length ≤ 100000) :
    Calls Try.prog 71 #[va, vb, vx, vout] w (Given w0 vout vs (ls ++ ext a b x) w) := by
  obtain ⟨A0, c0, rfl, hc0, hr0⟩ := ha.below hB
  obtain ⟨A1, c1, rfl, hc1, hr1⟩ := hb.below hB
  obtain ⟨A2, c2, rfl, hc2, hr2⟩ := ho.rd
  obtain ⟨A3, c3, rfl, _, _⟩ := hG.rd
  obtain ⟨⟨k1, hk1⟩, ⟨k2, hk2⟩, hsol⟩ := sums_of fa fb h5 hl hx
  obtain ⟨k3, hk3⟩ := (zero_ev x (by omega)).rounds
  have hext := ext_end hl
  generalize dot a (x.take a.length) = d1 at *
  generalize dot b (x.drop a.length) = d2 at *
  obtain ⟨i0, hi0, _, hsz, _⟩ := info_parts info_int
  obtain ⟨hcut1, hA1, hC1⟩ := print_take_of (P := Try.prog) (Value.int .i64) 0 24 3 .i64 Try.underlying24 hi0 hsz A2 c2 x (a.length : Int) (by omega) (by omega) hc2
  obtain ⟨A4, hcut2, hA2, hC2⟩ := print_drop_of (P := Try.prog) (Value.int .i64) 0 24 3 .i64 Try.underlying24 hi0 hsz A2 c2 x (a.length : Int) (by omega) (by omega) hc2
  simp only [Int.toNat_natCast] at hcut1 hA1 hC1 hcut2 hA2 hC2
  have HRa := Lib.hid (Kd.C_of_reads (h1 := fun _ => rfl) (hA1 _ (Kd.reads_of_C hr2)))
  have HRb := Lib.hid (Kd.C_of_reads (h1 := fun _ => rfl) (hA2 _ (Kd.reads_of_C hr2)))
  have HCa := Lib.hid hC1
  have HCb := Lib.hid hC2
  have HR0 := Lib.hid hr0
  have HR1 := Lib.hid hr1
  have HR2 := Lib.hid hr2
  have HC0 := Lib.hid hc0
  have HC1 := Lib.hid hc1
  have HC2 := Lib.hid hc2
  have HK1 := Lib.hid hk1
  have HK2 := Lib.hid hk2
  have HK3 := Lib.hid hk3
  have HS := Lib.hid (And.intro hsol hext)
  have HB := Lib.hid hB
  have HO := Lib.hid ho
  have HG := Lib.hid hG
  have HA := Lib.hid hA
  clear hk1 hk2 hk3 hA1 hC1 hA2 hC2 hi0 hsz hr0 hr1 hr2 hc0 hc1 hc2 hsol hext hB ho hG hA ha hb hx fa fb
  generalize hya : x.take a.length = ya at *
  generalize hyb : x.drop a.length = yb at *
  have hl1 : ((x.length : Int) == (a.length : Int) + b.length) = true := by rw [hl]; simp
  have HL := Lib.hid hl
  clear hya hyb hl
  have hzb : ∃ zb, zb = zeroB x := ⟨_, rfl⟩
  obtain ⟨zb, hzb⟩ := hzb
  rw [← hzb] at HS HK3
  have HZ := Lib.hid hzb
  clear hzb
  go_enter Try.func71, Try.ntmps71
  by_cases hd : d1 = d2
  · have hd1 : ((d1 : Int) == d2) = true := by rw [beq_iff_eq]; exact hd
    have HD := Lib.hid hd
    clear hd
    go_wp2_with fail
    go_quiet (first | (go_at_call 81; (with_reducible refine (spec_l34Zero.calls k3 _ _ x _ _ ?s1 ?s2 HK3.out).mono ?_); (case s1 => repeat (first | exact HR2.out | (with_reducible refine Kd.C_drewN ?_ _) | (with_reducible refine Kd.C_drew ?_))); (case s2 => exact HC2.out); rintro e w' ⟨rfl, ⟨nd, rfl⟩⟩; (first | exact ⟨rfl, _, World.drewN_drewN _ _ _⟩ | exact ⟨rfl, _, Eq.trans (World.drewN_drewN _ _ _) (congrArg (World.drewN _) (Nat.add_assoc _ _ _))⟩)) | (go_at_call 63; (with_reducible refine (spec_l34Sum.calls k1 _ _ a _ _ ya _ _ ?s1 ?s2 ?s3 ?s4 HK1.out).mono ?_); (case s1 => repeat (first | exact HR0.out | (with_reducible refine Kd.C_drewN ?_ _) | (with_reducible refine Kd.C_drew ?_))); (case s2 => exact HC0.out); (case s3 => repeat (first | exact HRa.out | (with_reducible refine Kd.C_drewN ?_ _) | (with_reducible refine Kd.C_drew ?_))); (case s4 => exact HCa.out); rintro e w' ⟨rfl, ⟨nd, rfl⟩⟩; (first | exact ⟨rfl, _, World.drewN_drewN _ _ _⟩ | exact ⟨rfl, _, Eq.trans (World.drewN_drewN _ _ _) (congrArg (World.drewN _) (Nat.add_assoc _ _ _))⟩)) | (go_at_call 63; (with_reducible refine (spec_l34Sum.calls k2 _ _ b _ _ yb _ _ ?s1 ?s2 ?s3 ?s4 HK2.out).mono ?_); (case s1 => repeat (first | exact HR1.out | (with_reducible refine Kd.C_drewN ?_ _) | (with_reducible refine Kd.C_drew ?_))); (case s2 => exact HC1.out); (case s3 => repeat (first | exact HRb.out | (with_reducible refine Kd.C_drewN ?_ _) | (with_reducible refine Kd.C_drew ?_))); (case s4 => exact HCb.out); rintro e w' ⟨rfl, ⟨nd, rfl⟩⟩; (first | exact ⟨rfl, _, World.drewN_drewN _ _ _⟩ | exact ⟨rfl, _, Eq.trans (World.drewN_drewN _ _ _) (congrArg (World.drewN _) (Nat.add_assoc _ _ _))⟩)))
    obtain ⟨W, hW⟩ : ∃ W, W = w.drewN nq := ⟨_, rfl⟩
    have bW : Below w.heap.size w W := by rw [hW]; exact pw_below_drewN (Below.refl _ _) _
    rw [← hW]
    clear hW
    cases zb with
    | true =>
      have hfin : ls ++ ext a b x = ls := by rw [HS.out.2, HS.out.1]; simp
      have HF := Lib.hid (And.intro hfin bW)
      clear hfin bW
      go_wp2_with fail
      go_ret
      refine ⟨⟨_, vs, rfl, ?_, .inl rfl, fun k hk => .inl hk⟩, below_to HB.out HF.out.2 HB.out.size, kept_below HF.out.2⟩
      rw [HF.out.1]
      exact HG.out.below HF.out.2
    | false =>
      have hfin : ext a b x = [x] := by rw [HS.out.2, HS.out.1, HD.out]; simp
      have HF := Lib.hid hfin
      have BW := Lib.hid bW
      have bW0 := below_to HB.out bW HB.out.size
      obtain ⟨V, hV⟩ : ∃ V, V = W.alloc (.cells #[] 3) := ⟨_, rfl⟩
      have bV : Below W.heap.size W V := by rw [hV]; exact below_alloc (Below.refl _ _) _
      have hr : Kd.R (Kd.int .i64) 3 V w0.heap.size (fun _ => True) (.slice (some ⟨W.heap.size, 0, none⟩) 0 0) [] :=
        ⟨fun _ _ => trivial, [], ⟨rfl, .inr ⟨W.heap.size, 0, #[], rfl, bW0.size, by rw [hV]; exact blk_new _ _, Nat.le_refl _, by decide, rfl, rfl⟩⟩, Reps.none _ _⟩
      have bwV := bW.trans (bV.mono bW.size)
      have HV := Lib.hid (And.intro hr (And.intro (below_to bW0 bV bW0.size) (Kd.C_below HR2.out bwV)))
      have HBV := Lib.hid (And.intro bwV (HG.out.below bwV))
      clear hfin bW bW0 bV hr bwV
      have hxl : x.length ≤ 5 := by rw [HL.out]; exact h5
      go_wp2_with (first | ((with_reducible refine gate_builtin (b := .append) (xs := #[.tmp 38, .tmp 39]) rfl ?_); rw [← hV]; refine Kd.R_append_row (Value.int .i64) (0 : Int) (w0 := w0) w0.heap.size rfl (.tmp 38) (.tmp 39) 24 3 (.int .i64 0) 8 rfl Try.underlying24 info_int rfl (by decide) (.slice (some ⟨W.heap.size, 0, none⟩) 0 0) [] x A2 x.length c2 (fun _ => True) rfl rfl (fun _ _ => trivial) HV.out.1 HV.out.2.2 HV.out.2.1 HV.out.2.1.size (by simp; omega) ?_; intro u w1 ho1 hb1 hg1 hat1; have hou : OwI w0.heap.size w1 u x := OwI.of ho1; have HO1 := Lib.hid (And.intro hb1 (And.intro hg1 hat1)); clear ho1 hb1 hg1 hat1; obtain ⟨A9, c9, e9, _, _⟩ := hou.rd; subst e9; have HU := Lib.hid hou; have HG1 := Lib.hid (HBV.out.2.grown HO1.out.2.1 (far_of hV HG.out BW.out)); have HFU := Lib.hid (far_new hV HG.out BW.out HB.out HO1.out.2.2); have HGO := Lib.hid (Kd.raw_any HG1.out.out); have HVL := Lib.hid HG1.out.len; clear hou) | ((with_reducible refine gate_builtin (b := .append) (xs := #[.tmp 37, .tmp 41]) rfl ?_); at_builtin; refine Kd.R_append (Kd.raw 1) (w0 := w0) w0.heap.size rfl (.tmp 37) (.tmp 41) 27 24 (.slice none 0 0) 24 rfl Try.underlying27 info24 rfl (by decide) (by omega) (.slice A3 ls.length c3) (vs.map fun v => [v]) [.slice A9 x.length c9] [.slice A9 x.length c9] (fun _ => True) (fun _ => False) rfl rfl ?aP (fun _ hk => hk.elim) (fun _ _ => trivial) ?aO ?aB ?aS ?aL ?_; (case aP => exact ⟨rfl, rfl, fun u hu => by rw [List.mem_singleton.1 hu]; rfl⟩); (case aB => exact HO1.out.1); (case aO => exact HGO.out); (case aS => exact HO1.out.1.size); (case aL => rw [List.length_map]; have := HVL.out; omega); intro v6 w6 ho6 hb6 hg6 hat6; have HB6 := Lib.hid hb6; have HG6 := Lib.hid (Ga.push HG1.out (nx := x) HU.out (fun k hk => ⟨(HFU.out k hk).1, (HFU.out k hk).2.1, (HFU.out k hk).2.2.1⟩) ho6 hg6 hat6); have HX6 := Lib.hid (And.intro hg6 hat6); clear ho6 hb6 hg6 hat6))
      go_ret
      refine ⟨⟨v6, vs ++ [.slice A9 x.length c9], rfl, by rw [HF.out]; exact HG6.out, ?_, fun k hk => ?_⟩, HB6.out, ?_⟩
      · rcases HX6.out.2 with h | ⟨b', hb', hle⟩
        · exact .inl h
        · exact .inr ⟨b', hb', Nat.le_trans HBV.out.1.size (Nat.le_trans HO1.out.2.1.size hle)⟩
      · rw [blks_append, blks_one] at hk
        rcases List.mem_append.1 hk with hk | hk
        · exact .inl hk
        · exact .inr (Nat.le_trans BW.out.size (HFU.out k (own_iff.1 hk)).2.2.2)
      · refine kept_trans (w1 := w1) ⟨Nat.le_trans HBV.out.1.size HO1.out.2.1.size, fun k hk hp => ?_⟩ (kept_grown HX6.out.1)
        have h1 := BW.out.size
        have h2 := HBV.out.1.size
        exact (HO1.out.2.1.block k (by omega) (fun e => by simp [Value.ownBlock] at e; omega)).trans (HBV.out.1.block k hk)
  · have hd1 : ((d1 : Int) == d2) = false := by rw [beq_eq_false_iff_ne]; exact hd
    have hfin : ls ++ ext a b x = ls := by rw [HS.out.2, HS.out.1]; simp [hd]
    have HF := Lib.hid hfin
    clear hd hfin
    go_wp2_with fail
    go_quiet (first | (go_at_call 81; (with_reducible refine (spec_l34Zero.calls k3 _ _ x _ _ ?s1 ?s2 HK3.out).mono ?_); (case s1 => repeat (first | exact HR2.out | (with_reducible refine Kd.C_drewN ?_ _) | (with_reducible refine Kd.C_drew ?_))); (case s2 => exact HC2.out); rintro e w' ⟨rfl, ⟨nd, rfl⟩⟩; (first | exact ⟨rfl, _, World.drewN_drewN _ _ _⟩ | exact ⟨rfl, _, Eq.trans (World.drewN_drewN _ _ _) (congrArg (World.drewN _) (Nat.add_assoc _ _ _))⟩)) | (go_at_call 63; (with_reducible refine (spec_l34Sum.calls k1 _ _ a _ _ ya _ _ ?s1 ?s2 ?s3 ?s4 HK1.out).mono ?_); (case s1 => repeat (first | exact HR0.out | (with_reducible refine Kd.C_drewN ?_ _) | (with_reducible refine Kd.C_drew ?_))); (case s2 => exact HC0.out); (case s3 => repeat (first | exact HRa.out | (with_reducible refine Kd.C_drewN ?_ _) | (with_reducible refine Kd.C_drew ?_))); (case s4 => exact HCa.out); rintro e w' ⟨rfl, ⟨nd, rfl⟩⟩; (first | exact ⟨rfl, _, World.drewN_drewN _ _ _⟩ | exact ⟨rfl, _, Eq.trans (World.drewN_drewN _ _ _) (congrArg (World.drewN _) (Nat.add_assoc _ _ _))⟩)) | (go_at_call 63; (with_reducible refine (spec_l34Sum.calls k2 _ _ b _ _ yb _ _ ?s1 ?s2 ?s3 ?s4 HK2.out).mono ?_); (case s1 => repeat (first | exact HR1.out | (with_reducible refine Kd.C_drewN ?_ _) | (with_reducible refine Kd.C_drew ?_))); (case s2 => exact HC1.out); (case s3 => repeat (first | exact HRb.out | (with_reducible refine Kd.C_drewN ?_ _) | (with_reducible refine Kd.C_drew ?_))); (case s4 => exact HCb.out); rintro e w' ⟨rfl, ⟨nd, rfl⟩⟩; (first | exact ⟨rfl, _, World.drewN_drewN _ _ _⟩ | exact ⟨rfl, _, Eq.trans (World.drewN_drewN _ _ _) (congrArg (World.drewN _) (Nat.add_assoc _ _ _))⟩)))
    go_wp2_with fail
    go_ret
    have bW : Below w.heap.size w (w.drewN nq) := pw_below_drewN (Below.refl _ _) _
    refine ⟨⟨_, vs, rfl, ?_, .inl rfl, fun k hk => .inl hk⟩, below_to HB.out bW HB.out.size, kept_below bW⟩
    rw [HF.out]
    exact HG.out.below bW

theorem fp_new {W V : World} {u : Value} {o : Obj} (hV : V = W.alloc o) (hat : u.ownBlock = Value.ownBlock (.slice (some ⟨W.heap.size, 0, none⟩) 0 0) ∨ ∃ b, u.ownBlock = some b ∧ V.heap.size ≤ b) : ∀ k, u.ownBlock = some k → W.heap.size ≤ k := fun k hk => by
  rcases hat with hat | ⟨b, hb', h⟩
  · rw [hat] at hk
    have : W.heap.size = k := by simpa [Value.ownBlock] using hk
    omega
  · rw [hb'] at hk
    injection hk with hk
    rw [hV] at h
    simp at h
    omega
theorem range_snoc (a b x : List Int) (ls : List (List Int)) (j : Nat) : (ls ++ (List.range j).flatMap (fun (k : Nat) => ext a b (x ++ [(k : Int)]))) ++ ext a b (x ++ [(j : Int)]) = ls ++ (List.range (j + 1)).flatMap (fun (k : Nat) => ext a b (x ++ [(k : Int)])) := by
  rw [List.range_succ, List.flatMap_append]
  simp
theorem range_len {a b : List Int} (fa : Fac a) (fb : Fac b) (x : List Int) (d : Nat) (hd : a.length + b.length - x.length = d + 1) : ∀ m, ((List.range m).flatMap (fun (k : Nat) => ext a b (x ++ [(k : Int)]))).length ≤ m * 6 ^ d := by
  intro m
  induction m with
  | zero => simp
  | succ m ihm =>
    rw [List.range_succ, List.flatMap_append, List.length_append]
    have h1 := ext_len fa fb d (x ++ [(m : Int)]) (by simp; omega)
    simp only [List.flatMap_cons, List.flatMap_nil, List.append_nil]
    rw [Nat.add_mul]
    omega
set_option maxHeartbeats 4000000 in
set_option maxRecDepth 100000 in
theorem spec_all (a b : List Int) (fa : Fac a) (fb : Fac b) (h5 : a.length + b.length ≤ 5) (va vb : Value) (w0 : World) (ha : RdI w0 va a) (hb : RdI w0 vb b) : ∀ (d : Nat) (x : List Int) (vx vout : Value) (ls : List (List Int)) (vs : List Value) (w : World),
    a.length + b.length - x.length = d → x.length ≤ a.length + b.length → (∀ i, i < x.length → 0 ≤ gt x i ∧ gt x i ≤ 5) → Below w0.heap.size w0 w → OwI w0.heap.size w vx x → Ga w0.heap.size vout ls vs w → (∀ k, Fp vx k → k ∉ blks vs ∧ vout.ownBlock ≠ some k) → ls.length + 6 ^ d ≤ 100000 →
    Calls Try.prog 71 #[va, vb, vx, vout] w (Given w0 vout vs (ls ++ ext a b x) w) := by
  intro d
  induction d with
  | zero =>
    intro x vx vout ls vs w hd hl hx hB ho hG hA hn
    exact all_end a b x fa fb h5 (by omega) hx va vb vx vout ls vs w0 w ha hb hB ho hG hA (by omega)
  | succ d ih =>
    intro x vx vout ls vs w hd hl hx hB ho hG hA hn
    have ha' := ha.below hB
    have hb' := hb.below hB
    have hRdA := ha
    have hRdB := hb
    obtain ⟨A0, c0, rfl, hc0, hr0⟩ := ha
    obtain ⟨A1, c1, rfl, hc1, hr1⟩ := hb
    obtain ⟨A2, c2, e2, hc2, _⟩ := ho.rd
    subst e2
    have hstep := ext_step (a := a) (b := b) (x := x) (by omega)
    have hlen := range_len fa fb x d hd
    have hget := bnds_get (a := a) (b := b) x.length (by omega)
    have hma := mostN_le fa
    have hmb := mostN_le fb
    have hl1 : ((x.length : Int) == (a.length : Int) + b.length) = false := by rw [beq_eq_false_iff_ne]; omega
    have HIH := Lib.hid ih
    have HRA := Lib.hid (And.intro hRdA (And.intro hRdB (And.intro ha' hb')))
    have HST := Lib.hid (And.intro hstep hlen)
    have HX := Lib.hid hx
    have HB := Lib.hid hB
    have HO := Lib.hid ho
    have HG := Lib.hid hG
    have HA := Lib.hid hA
    have HC2 := Lib.hid hc2
    have hpow : 6 ^ (d + 1) = 6 * 6 ^ d := by rw [Nat.pow_succ, Nat.mul_comm]
    rw [hpow] at hn
    have HN := Lib.hid hn
    have HD := Lib.hid hd
    clear ih hRdA hRdB ha' hb' hstep hlen hx hB ho hG hA hr0 hr1 hc0 hc1 hc2 fa fb hpow hn hd
    go_enter Try.func71, Try.ntmps71
    go_wp2_with fail
    refine (most_any _ b _ HRA.out.2.2.2 (by omega)).mono ?_
    rintro e w1 ⟨rfl, b1⟩
    have B1 := Lib.hid b1
    clear b1
    obtain ⟨M, hM⟩ : ∃ M, M = (bnds a b).getD x.length 0 := ⟨_, rfl⟩
    rw [← hM] at hget HST
    have HMM := Lib.hid hM
    clear hM
    by_cases hxa : a.length ≤ x.length
    · rw [if_neg (by omega)] at hget
      have HGET := Lib.hid hget
      generalize hmbv : mostN b = mb at *
      clear hget hmbv
      go_wp2_with fail
      refine (most_any _ a _ (HRA.out.2.2.1.below B1.out) (by omega)).mono ?_
      rintro e w2 ⟨rfl, b2⟩
      have BW := Lib.hid (B1.out.trans (b2.mono B1.out.size))
      rw [← HGET.out]
      have hM5 : M ≤ 5 := by rw [HGET.out]; exact hma
      clear b2 hma hmb HGET B1
      go_wp2_with fail
      go_loopw [3, 10] (fun v k wr => ∃ j : Nat, j ≤ M + 1 ∧ k = .int .i64 j ∧ ∃ vsj, Aside0 (Ga w0.heap.size v (ls ++ (List.range j).flatMap (fun (k : Nat) => ext a b (x ++ [(k : Int)]))) vsj wr) ∧ Aside0 (Below w0.heap.size w0 wr ∧ Kept w wr (fun k => vout.ownBlock = some k)) ∧ Aside0 ((v.ownBlock = vout.ownBlock ∨ ∃ b, v.ownBlock = some b ∧ w.heap.size ≤ b) ∧ ∀ k ∈ blks vsj, k ∈ blks vs ∨ w.heap.size ≤ k)) (fun _ k _ => M + 1 - (intOf k).toNat)
      case atStart => exact ⟨0, Nat.zero_le _, rfl, vs, ⟨by simpa using HG.out.below BW.out⟩, ⟨below_to HB.out BW.out HB.out.size, kept_below BW.out⟩, ⟨.inl rfl, fun k hk => .inl hk⟩⟩
      case round =>
        obtain ⟨j, hj, rfl, vsj, hG, hB, hV⟩ := hrel
        by_cases hlt : j < M + 1
        · have hle : j ≤ M := by omega
          have hox : OwI w0.heap.size wr (.slice A2 x.length c2) x := HO.out.step (fun k hk hlt => hB.out.2.2 k hlt (fun hp => (HA.out k hk).2 hp))
          obtain ⟨V, hVe⟩ : ∃ V, V = wr.alloc (.cells #[] 3) := ⟨_, rfl⟩
          have bV : Below wr.heap.size wr V := by rw [hVe]; exact below_alloc (Below.refl _ _) _
          have hr : Kd.R (Kd.int .i64) 3 V w0.heap.size (fun _ => True) (.slice (some ⟨wr.heap.size, 0, none⟩) 0 0) [] :=
            ⟨fun _ _ => trivial, [], ⟨rfl, .inr ⟨wr.heap.size, 0, #[], rfl, hB.out.1.size, by rw [hVe]; exact blk_new _ _, Nat.le_refl _, by decide, rfl, rfl⟩⟩, Reps.none _ _⟩
          obtain ⟨_, _, ex, _, hCx⟩ := hox.rd
          injection ex with ex1 _ ex3
          subst ex1
          subst ex3
          have HV2 := Lib.hid (And.intro hr (And.intro (below_to hB.out.1 bV hB.out.1.size) (Kd.C_below hCx bV)))
          have HOX := Lib.hid (And.intro hox bV)
          have hx5 : x.length ≤ 5 := by omega
          have HSN := Lib.hid (range_snoc a b x ls j)
          have HLJ := Lib.hid (show (ls ++ (List.range j).flatMap (fun (k : Nat) => ext a b (x ++ [(k : Int)]))).length + 6 ^ d ≤ 100000 by
            rw [List.length_append]
            have h1 := HST.out.2 j
            have h2 := HN.out
            have h3 : (j + 1) * 6 ^ d ≤ 6 * 6 ^ d := Nat.mul_le_mul_right _ (by omega)
            rw [Nat.add_mul] at h3
            omega)
          clear bV hr hox hCx
          go_wp2_with (first | ((with_reducible refine gate_builtin (b := .append) (xs := #[.tmp 60, .tmp 61]) rfl ?_); rw [← hVe]; refine Kd.R_append_row (Value.int .i64) (0 : Int) (w0 := w0) w0.heap.size rfl (.tmp 60) (.tmp 61) 24 3 (.int .i64 0) 8 rfl Try.underlying24 info_int rfl (by decide) (.slice (some ⟨wr.heap.size, 0, none⟩) 0 0) [] x A2 x.length c2 (fun _ => True) rfl rfl (fun _ _ => trivial) HV2.out.1 HV2.out.2.2 HV2.out.2.1 HV2.out.2.1.size (by simp; omega) ?_; intro u w3 ho3 hb3 hg3 hat3; have HO3 := Lib.hid (And.intro ho3 (And.intro hb3 (And.intro hg3 hat3))); clear ho3 hb3 hg3 hat3) | ((with_reducible refine gate_builtin (b := .append) (xs := #[.tmp 62, .tmp 64]) rfl ?_); refine Kd.R_append (Kd.int .i64) (w0 := w0) w0.heap.size rfl (.tmp 62) (.tmp 64) 24 3 (.int .i64 0) 8 rfl Try.underlying24 info3 rfl (by decide) (by omega) u x (j : Int) [.int .i64 (j : Int)] (fun _ => True) (fun _ => False) rfl rfl ?aP (fun _ hk => hk.elim) (fun _ _ => trivial) ?aO ?aB ?aS ?aL ?_; (case aP => exact rfl); (case aB => exact HO3.out.2.1); (case aO => exact HO3.out.1); (case aS => exact HO3.out.2.1.size); (case aL => omega); intro u2 w4 ho4 hb4 hg4 hat4; have HO4 := Lib.hid (And.intro (OwI.of ho4) (And.intro hb4 (And.intro hg4 hat4))); clear ho4 hb4 hg4 hat4))
          have hfu : ∀ k, u.ownBlock = some k → wr.heap.size ≤ k := fp_new hVe HO3.out.2.2.2
          have h43 : wr.heap.size ≤ w3.heap.size := Nat.le_trans HOX.out.2.size HO3.out.2.2.1.size
          have hfu2 : ∀ k, u2.ownBlock = some k → wr.heap.size ≤ k := fun k hk => by
            rcases HO4.out.2.2.2 with h | ⟨b', hb', hle'⟩
            · exact hfu k (h ▸ hk)
            · rw [hb'] at hk; injection hk with hk; omega
          have hfar : ∀ (r : Option Nat), (∀ k, r = some k → wr.heap.size ≤ k) → ∀ k, r = some k → k ∉ blks vsj ∧ u3.ownBlock ≠ some k := fun r hr k hk => by
            have h1 := hr k hk
            exact ⟨fun hs => by have := hG.out.lt k hs; omega, fun ho => by have := hG.out.out_lt ho; omega⟩
          have hG3 := (hG.out.below HOX.out.2).grown HO3.out.2.2.1 (fun k hk => hfar _ (fun k hk => Nat.le_of_eq (by simpa [Value.ownBlock] using hk)) k hk)
          have hG4 := hG3.grown HO4.out.2.2.1 (fun k hk => hfar _ hfu k hk)
          have hk34 : ∀ k, k < wr.heap.size → w4.heap[k]? = wr.heap[k]? := fun k hk => by
            have h1 : k < V.heap.size := Nat.lt_of_lt_of_le hk HOX.out.2.size
            have h2 : k < w3.heap.size := Nat.lt_of_lt_of_le h1 HO3.out.2.2.1.size
            exact (HO4.out.2.2.1.block k h2 (fun e => by have := hfu k e.symm; omega)).trans ((HO3.out.2.2.1.block k h1 (fun e => by simp [Value.ownBlock] at e; omega)).trans (HOX.out.2.block k hk))
          have h44 : wr.heap.size ≤ w4.heap.size := Nat.le_trans h43 HO4.out.2.2.1.size
          have HG4 := Lib.hid (And.intro hG4 (And.intro hk34 h44))
          have HFU2 := Lib.hid hfu2
          have hxs : (x ++ [(j : Int)]).length = x.length + 1 := by simp
          have hx5' : ∀ i, i < (x ++ [(j : Int)]).length → 0 ≤ gt (x ++ [(j : Int)]) i ∧ gt (x ++ [(j : Int)]) i ≤ 5 := fun i hi => by
            by_cases e : i < x.length
            · have := HX.out i e
              have e2 : gt (x ++ [(j : Int)]) i = gt x i := by simp [gt, List.getElem?_append_left e]
              rw [e2]
              exact this
            · obtain rfl : i = x.length := by omega
              have e2 : gt (x ++ [(j : Int)]) x.length = j := by simp [gt]
              rw [e2]
              omega
          have HX5 := Lib.hid hx5'
          clear hfu h43 hfu2 hfar hG3 hG4 hk34 h44 hx5' hVe
          refine (HIH.out (x ++ [(j : Int)]) u2 u3 _ vsj w4 (by have := HD.out; omega) (by have := HD.out; omega) HX5.out HO4.out.2.1 HO4.out.1 HG4.out.1 (fun k hk => ⟨fun hs => by have := hG.out.lt k hs; have := HFU2.out k hk; omega, fun ho => by have := hG.out.out_lt ho; have := HFU2.out k hk; omega⟩) HLJ.out).mono ?_
          rintro e w5 ⟨⟨v5, vs5, rfl, hg5, hat5, hm5⟩, hb5, hk5⟩
          have hn1 := hg5
          rw [HSN.out] at hn1
          have HN1 := Lib.hid hn1
          have HB5 := Lib.hid (And.intro hb5 (And.intro hk5 (And.intro hat5 hm5)))
          clear hg5 hat5 hm5 hb5 hk5 hn1 hxs
          go_wp2_with fail
          go_roundw
          case rel =>
            have hw := hB.out.2.1
            have h44 := HG4.out.2.2
            refine ⟨j + 1, by omega, by go_num, vs5, ⟨HN1.out⟩, ⟨HB5.out.1, ⟨by have := HB5.out.2.1.1; omega, fun k hk hp => ?_⟩⟩, ⟨?_, fun k hk => ?_⟩⟩
            · have h1 : u3.ownBlock ≠ some k := fun e => by
                rcases hV.out.1 with h | ⟨b', hb', hle'⟩
                · exact hp (h ▸ e)
                · rw [hb'] at e; injection e with e; omega
              exact (HB5.out.2.1.2 k (by omega) h1).trans ((HG4.out.2.1 k (by omega)).trans (hB.out.2.2 k hk hp))
            · rcases HB5.out.2.2.1 with h | ⟨b', hb', hle'⟩
              · rw [h]; exact hV.out.1
              · exact .inr ⟨b', hb', by omega⟩
            · rcases HB5.out.2.2.2 k hk with h | h
              · exact hV.out.2 k h
              · exact .inr (by omega)
          case measure => simp [intOf]; omega
        · obtain rfl : j = M + 1 := by omega
          go_wp2_with fail
          go_ret
          refine ⟨⟨_, vsj, rfl, ?_, hV.out.1, hV.out.2⟩, hB.out.1, hB.out.2⟩
          rw [HST.out.1]
          exact hG.out
    · rw [if_pos (by omega)] at hget
      have HGET := Lib.hid hget
      generalize hmbv : mostN b = mb at *
      clear hget hmbv
      have BW := B1
      have hM5 : M ≤ 5 := by rw [HGET.out]; exact hmb
      rw [← HGET.out]
      clear hma hmb HGET B1
      go_wp2_with fail
      go_loopw [3, 10] (fun v k wr => ∃ j : Nat, j ≤ M + 1 ∧ k = .int .i64 j ∧ ∃ vsj, Aside0 (Ga w0.heap.size v (ls ++ (List.range j).flatMap (fun (k : Nat) => ext a b (x ++ [(k : Int)]))) vsj wr) ∧ Aside0 (Below w0.heap.size w0 wr ∧ Kept w wr (fun k => vout.ownBlock = some k)) ∧ Aside0 ((v.ownBlock = vout.ownBlock ∨ ∃ b, v.ownBlock = some b ∧ w.heap.size ≤ b) ∧ ∀ k ∈ blks vsj, k ∈ blks vs ∨ w.heap.size ≤ k)) (fun _ k _ => M + 1 - (intOf k).toNat)
      case atStart => exact ⟨0, Nat.zero_le _, rfl, vs, ⟨by simpa using HG.out.below BW.out⟩, ⟨below_to HB.out BW.out HB.out.size, kept_below BW.out⟩, ⟨.inl rfl, fun k hk => .inl hk⟩⟩
      case round =>
        obtain ⟨j, hj, rfl, vsj, hG, hB, hV⟩ := hrel
        by_cases hlt : j < M + 1
        · have hle : j ≤ M := by omega
          have hox : OwI w0.heap.size wr (.slice A2 x.length c2) x := HO.out.step (fun k hk hlt => hB.out.2.2 k hlt (fun hp => (HA.out k hk).2 hp))
          obtain ⟨V, hVe⟩ : ∃ V, V = wr.alloc (.cells #[] 3) := ⟨_, rfl⟩
          have bV : Below wr.heap.size wr V := by rw [hVe]; exact below_alloc (Below.refl _ _) _
          have hr : Kd.R (Kd.int .i64) 3 V w0.heap.size (fun _ => True) (.slice (some ⟨wr.heap.size, 0, none⟩) 0 0) [] :=
            ⟨fun _ _ => trivial, [], ⟨rfl, .inr ⟨wr.heap.size, 0, #[], rfl, hB.out.1.size, by rw [hVe]; exact blk_new _ _, Nat.le_refl _, by decide, rfl, rfl⟩⟩, Reps.none _ _⟩
          obtain ⟨_, _, ex, _, hCx⟩ := hox.rd
          injection ex with ex1 _ ex3
          subst ex1
          subst ex3
          have HV2 := Lib.hid (And.intro hr (And.intro (below_to hB.out.1 bV hB.out.1.size) (Kd.C_below hCx bV)))
          have HOX := Lib.hid (And.intro hox bV)
          have hx5 : x.length ≤ 5 := by omega
          have HSN := Lib.hid (range_snoc a b x ls j)
          have HLJ := Lib.hid (show (ls ++ (List.range j).flatMap (fun (k : Nat) => ext a b (x ++ [(k : Int)]))).length + 6 ^ d ≤ 100000 by
            rw [List.length_append]
            have h1 := HST.out.2 j
            have h2 := HN.out
            have h3 : (j + 1) * 6 ^ d ≤ 6 * 6 ^ d := Nat.mul_le_mul_right _ (by omega)
            rw [Nat.add_mul] at h3
            omega)
          clear bV hr hox hCx
          go_wp2_with (first | ((with_reducible refine gate_builtin (b := .append) (xs := #[.tmp 60, .tmp 61]) rfl ?_); rw [← hVe]; refine Kd.R_append_row (Value.int .i64) (0 : Int) (w0 := w0) w0.heap.size rfl (.tmp 60) (.tmp 61) 24 3 (.int .i64 0) 8 rfl Try.underlying24 info_int rfl (by decide) (.slice (some ⟨wr.heap.size, 0, none⟩) 0 0) [] x A2 x.length c2 (fun _ => True) rfl rfl (fun _ _ => trivial) HV2.out.1 HV2.out.2.2 HV2.out.2.1 HV2.out.2.1.size (by simp; omega) ?_; intro u w3 ho3 hb3 hg3 hat3; have HO3 := Lib.hid (And.intro ho3 (And.intro hb3 (And.intro hg3 hat3))); clear ho3 hb3 hg3 hat3) | ((with_reducible refine gate_builtin (b := .append) (xs := #[.tmp 62, .tmp 64]) rfl ?_); refine Kd.R_append (Kd.int .i64) (w0 := w0) w0.heap.size rfl (.tmp 62) (.tmp 64) 24 3 (.int .i64 0) 8 rfl Try.underlying24 info3 rfl (by decide) (by omega) u x (j : Int) [.int .i64 (j : Int)] (fun _ => True) (fun _ => False) rfl rfl ?aP (fun _ hk => hk.elim) (fun _ _ => trivial) ?aO ?aB ?aS ?aL ?_; (case aP => exact rfl); (case aB => exact HO3.out.2.1); (case aO => exact HO3.out.1); (case aS => exact HO3.out.2.1.size); (case aL => omega); intro u2 w4 ho4 hb4 hg4 hat4; have HO4 := Lib.hid (And.intro (OwI.of ho4) (And.intro hb4 (And.intro hg4 hat4))); clear ho4 hb4 hg4 hat4))
          have hfu : ∀ k, u.ownBlock = some k → wr.heap.size ≤ k := fp_new hVe HO3.out.2.2.2
          have h43 : wr.heap.size ≤ w3.heap.size := Nat.le_trans HOX.out.2.size HO3.out.2.2.1.size
          have hfu2 : ∀ k, u2.ownBlock = some k → wr.heap.size ≤ k := fun k hk => by
            rcases HO4.out.2.2.2 with h | ⟨b', hb', hle'⟩
            · exact hfu k (h ▸ hk)
            · rw [hb'] at hk; injection hk with hk; omega
          have hfar : ∀ (r : Option Nat), (∀ k, r = some k → wr.heap.size ≤ k) → ∀ k, r = some k → k ∉ blks vsj ∧ u3.ownBlock ≠ some k := fun r hr k hk => by
            have h1 := hr k hk
            exact ⟨fun hs => by have := hG.out.lt k hs; omega, fun ho => by have := hG.out.out_lt ho; omega⟩
          have hG3 := (hG.out.below HOX.out.2).grown HO3.out.2.2.1 (fun k hk => hfar _ (fun k hk => Nat.le_of_eq (by simpa [Value.ownBlock] using hk)) k hk)
          have hG4 := hG3.grown HO4.out.2.2.1 (fun k hk => hfar _ hfu k hk)
          have hk34 : ∀ k, k < wr.heap.size → w4.heap[k]? = wr.heap[k]? := fun k hk => by
            have h1 : k < V.heap.size := Nat.lt_of_lt_of_le hk HOX.out.2.size
            have h2 : k < w3.heap.size := Nat.lt_of_lt_of_le h1 HO3.out.2.2.1.size
            exact (HO4.out.2.2.1.block k h2 (fun e => by have := hfu k e.symm; omega)).trans ((HO3.out.2.2.1.block k h1 (fun e => by simp [Value.ownBlock] at e; omega)).trans (HOX.out.2.block k hk))
          have h44 : wr.heap.size ≤ w4.heap.size := Nat.le_trans h43 HO4.out.2.2.1.size
          have HG4 := Lib.hid (And.intro hG4 (And.intro hk34 h44))
          have HFU2 := Lib.hid hfu2
          have hxs : (x ++ [(j : Int)]).length = x.length + 1 := by simp
          have hx5' : ∀ i, i < (x ++ [(j : Int)]).length → 0 ≤ gt (x ++ [(j : Int)]) i ∧ gt (x ++ [(j : Int)]) i ≤ 5 := fun i hi => by
            by_cases e : i < x.length
            · have := HX.out i e
              have e2 : gt (x ++ [(j : Int)]) i = gt x i := by simp [gt, List.getElem?_append_left e]
              rw [e2]
              exact this
            · obtain rfl : i = x.length := by omega
              have e2 : gt (x ++ [(j : Int)]) x.length = j := by simp [gt]
              rw [e2]
              omega
          have HX5 := Lib.hid hx5'
          clear hfu h43 hfu2 hfar hG3 hG4 hk34 h44 hx5' hVe
          refine (HIH.out (x ++ [(j : Int)]) u2 u3 _ vsj w4 (by have := HD.out; omega) (by have := HD.out; omega) HX5.out HO4.out.2.1 HO4.out.1 HG4.out.1 (fun k hk => ⟨fun hs => by have := hG.out.lt k hs; have := HFU2.out k hk; omega, fun ho => by have := hG.out.out_lt ho; have := HFU2.out k hk; omega⟩) HLJ.out).mono ?_
          rintro e w5 ⟨⟨v5, vs5, rfl, hg5, hat5, hm5⟩, hb5, hk5⟩
          have hn1 := hg5
          rw [HSN.out] at hn1
          have HN1 := Lib.hid hn1
          have HB5 := Lib.hid (And.intro hb5 (And.intro hk5 (And.intro hat5 hm5)))
          clear hg5 hat5 hm5 hb5 hk5 hn1 hxs
          go_wp2_with fail
          go_roundw
          case rel =>
            have hw := hB.out.2.1
            have h44 := HG4.out.2.2
            refine ⟨j + 1, by omega, by go_num, vs5, ⟨HN1.out⟩, ⟨HB5.out.1, ⟨by have := HB5.out.2.1.1; omega, fun k hk hp => ?_⟩⟩, ⟨?_, fun k hk => ?_⟩⟩
            · have h1 : u3.ownBlock ≠ some k := fun e => by
                rcases hV.out.1 with h | ⟨b', hb', hle'⟩
                · exact hp (h ▸ e)
                · rw [hb'] at e; injection e with e; omega
              exact (HB5.out.2.1.2 k (by omega) h1).trans ((HG4.out.2.1 k (by omega)).trans (hB.out.2.2 k hk hp))
            · rcases HB5.out.2.2.1 with h | ⟨b', hb', hle'⟩
              · rw [h]; exact hV.out.1
              · exact .inr ⟨b', hb', by omega⟩
            · rcases HB5.out.2.2.2 k hk with h | h
              · exact hV.out.2 k h
              · exact .inr (by omega)
          case measure => simp [intOf]; omega
        · obtain rfl : j = M + 1 := by omega
          go_wp2_with fail
          go_ret
          refine ⟨⟨_, vsj, rfl, ?_, hV.out.1, hV.out.2⟩, hB.out.1, hB.out.2⟩
          rw [HST.out.1]
          exact hG.out
end Go.Proofs.Ytfnkobcmhbdcoaa.SolA
