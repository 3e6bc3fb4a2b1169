/- Layer 34: the reference's Build: its last loop (printed by gen_rbuild.py). -/
import Derived.Test.YtfinpehbpcckaaaGreatDoorRBldH
namespace Go.Proofs.YtfinpehbpcckaaaGreatDoor
open Go.RowKit
set_option linter.unusedVariables false

theorem docsR_P (U : List Ent) : docsR U = docsP U := by unfold docsR docsP rUnion; rw [List.foldl_map]
/-- The terms with the lists of the first i of them. -/
def mixT (U : List Ent) (docs : List Int) (ts : List Trm) (i : Nat) : List Trm := (ts.take i).map (listR U docs) ++ ts.drop i
theorem mixT_len (U : List Ent) (docs : List Int) (ts : List Trm) (i : Nat) : (mixT U docs ts i).length = ts.length := by
  unfold mixT; rw [List.length_append, List.length_map, List.length_take, List.length_drop]; omega
theorem mixT_at {U : List Ent} {docs : List Int} {ts : List Trm} {i : Nat} (hi : i < ts.length) : (mixT U docs ts i)[i]'(by rw [mixT_len]; exact hi) = ts[i] := by
  unfold mixT
  rw [List.getElem_append_right (by rw [List.length_map, List.length_take]; omega)]
  simp only [List.getElem_drop, List.length_map, List.length_take]
  congr 1
  omega
theorem mixT_step {U : List Ent} {docs : List Int} {ts : List Trm} {i : Nat} (hi : i < ts.length) {l : List UInt8} (hl : l = postEnc (postsE (evsOf U) docs (keyT ts[i]))) :
    (mixT U docs ts i).set i { (mixT U docs ts i)[i]'(by rw [mixT_len]; exact hi) with list := l } = mixT U docs ts (i + 1) := by
  rw [mixT_at hi]
  unfold mixT
  rw [List.set_append_right _ _ (by rw [List.length_map, List.length_take]; omega), List.length_map, List.length_take, Nat.min_eq_left (by omega), Nat.sub_self, List.drop_eq_getElem_cons hi, List.set_cons_zero,
    List.take_succ_eq_append_getElem hi, List.map_append, List.append_assoc]
  subst hl
  rfl
theorem mixT_end (U : List Ent) (docs : List Int) (ts : List Trm) : mixT U docs ts ts.length = ts.map (listR U docs) := by
  unfold mixT; rw [List.take_length, List.drop_length, List.append_nil]
/-- The state of the loop over documents (base: the world when it began). -/
def R6 (W2 : World) (U : List Ent) (t : Key) (done : List Post) (pv : Value) (wr : World) : Prop := ∃ ps, OwnPosts wr W2.heap.size pv ps ∧ ps.map (·.1) = done ∧ Below W2.heap.size W2 wr
theorem innerR_take {t : Key} {d : Int} {U : List Ent} {k : Nat} (hk : k < U.length) : innerR t d (U.take (k + 1)) = innerR t d (U.take k) ++ if U[k].doc = d ∧ U[k].field = t.1 ∧ idxs t.2 (listP U[k].text) ≠ [] then [⟨U[k].doc, idxs t.2 (listP U[k].text)⟩] else [] := by
  unfold innerR
  rw [List.take_succ_eq_append_getElem hk, List.flatMap_append]
  congr 1
  simp
theorem postsR_take {U : List Ent} {t : Key} {docs : List Int} {k : Nat} (hk : k < docs.length) : postsR U t (docs.take (k + 1)) = postsR U t (docs.take k) ++ innerR t docs[k] U := by
  unfold postsR
  rw [List.take_succ_eq_append_getElem hk, List.flatMap_append]
  congr 1
  simp
theorem innerR_len (t : Key) (d : Int) : ∀ U : List Ent, (innerR t d U).length ≤ U.length
  | [] => Nat.le_refl _
  | e :: r => by
    have h := innerR_len t d r
    have h1 : innerR t d (e :: r) = (if e.doc = d ∧ e.field = t.1 ∧ idxs t.2 (listP e.text) ≠ [] then [⟨e.doc, idxs t.2 (listP e.text)⟩] else []) ++ innerR t d r := rfl
    rw [h1, List.length_append, List.length_cons]
    split <;> simp <;> omega
theorem postsR_len (U : List Ent) (t : Key) : ∀ docs : List Int, (postsR U t docs).length ≤ U.length * docs.length
  | [] => Nat.zero_le _
  | d :: r => by
    have h := postsR_len U t r
    have h2 := innerR_len t d U
    have h1 : postsR U t (d :: r) = innerR t d U ++ postsR U t r := rfl
    rw [h1, List.length_append, List.length_cons, Nat.mul_add]
    omega
set_option maxRecDepth 100000 in
set_option maxHeartbeats 32000000 in
theorem rbuild_three : RThree := by
  unfold RThree
  intro t0 t1 t5 t6 t7 t8 t9 t10 t11 t12 t13 t14 t15 t16 t17 t18 t19 t20 t21 t22 t23 t24 t25 t26 t27 t28 t29 t30 t31 t32 t33 t34 t35 t36 t37 t38 t39 t40 t41 t42 t43 t44 t45 t46 t47 t48 t49 t50 t51 t52 t53 t54 t55 t56 t57 t58 t59 t60 t61 t62 t63 t64 t65 t66 t67 t68 t69 t70 t71 t72 t73 t74 t75 t76 t77 t78 t79 t80 t81 t82 t83 t84 t85 t86 t87 t88 t89 t90 t91 t92 t93 t94 t95 t96 t97 t98 t99 t100 t101 t102 t103 t104 t105 t106 t107 t108 t109 t110 t111 t112 t113 t114 t115 t116 t117 t118 t119 t120 t121 t122 t123 t124 t125 t126 t127 t128 t129 t130 t131 t132 t133 t134 t135 t136 t137 t138 t139 t140 t141 t142 t143 t144 t145 t146 t147 t148 t149 t150 t151 t152 t153 t154 t155 t156 t157 t158 t159 t160 t161 t162 t163 t164 t165 t166 t167 t168 t169 t170 t171 t172 t173 t174 t175 t176 t177 t178 t179 t180 t181 t182 t183 t184 t185 t186 t187 t188 t189 t190 t191 t192 t193 t194 t195 t196 t197 t198 t199 t200 t201 w g bs U AE nE cE tv dv wr hU0 hG0 hrb0
  have HU := Lib.hid hU0
  have HG := Lib.hid hG0
  have hnE9 : nE ≤ 24 := by rw [hrb0.ents.1]; exact hU0.len
  have HNE := Lib.hid hrb0.ents.len
  obtain ⟨ts, hts⟩ : ∃ ts, termsR (keysR U) = ts := ⟨_, rfl⟩
  obtain ⟨docs, hdocs⟩ : ∃ docs, docsR U = docs := ⟨_, rfl⟩
  have HTS := Lib.hid hts
  have HDOCS := Lib.hid hdocs
  have htl : ts.length ≤ 4800 := by
    rw [← hts]
    have h1 := termsR_len (keysR U)
    have h2 := keys_few hU0 U.length
    rw [List.take_length] at h2
    omega
  have hdl : docs.length ≤ 24 := by rw [← hdocs]; have := docsR_len U; have := hU0.len; omega
  rw [hts, hdocs] at hrb0
  obtain ⟨AT, cT, htv, hc1, hc2, -⟩ := hrb0.trm.trms
  obtain ⟨AD, cD, hdv, hd1, hd2, -⟩ := hrb0.doc.ints
  subst htv; subst hdv
  obtain ⟨nT, hnT⟩ : ∃ nT, ts.length = nT := ⟨_, rfl⟩
  obtain ⟨nD, hnD⟩ : ∃ nD, docs.length = nD := ⟨_, rfl⟩
  rw [hnT] at hrb0 hc1 htl
  rw [hnD] at hrb0 hd1 hdl
  have HNT := Lib.hid hnT
  have HND := Lib.hid hnD
  have HINI := Lib.hid (show RB w g bs U AE nE (.slice AT nT cT) (.slice AD nD cD) (mixT U docs ts 0) docs wr by
    have : mixT U docs ts 0 = ts := by unfold mixT; simp
    rw [this]; exact hrb0)
  obtain ⟨W0, rfl⟩ : ∃ W0, W0 = wr := ⟨_, rfl⟩
  clear hU0 hG0 hrb0 hts hdocs hnT hnD
  unfold rbuild3
  simp only [codeTailR, Tryz.f12, Option.getD_some]
  go_wp2
  go_loopw [12] (fun i wr => ∃ k : Nat, k ≤ nT ∧ i = .int .i64 (k : Int) ∧ Hid (RB w g bs U AE nE (.slice AT nT cT) (.slice AD nD cD) (mixT U docs ts k) docs wr)) (fun i _ => nT - (intOf i).toNat)
  case atStart => exact ⟨0, Nat.zero_le _, rfl, HINI.out⟩
  case round =>
    obtain ⟨k, hk, rfl, HRB⟩ := hrel
    have hsz := HRB.out.size
    obtain ⟨b0, b1, -, -⟩ := box0 HRB.out.box
    by_cases hlt : k < nT
    · have hk2 : (k : Int) < nT := by omega
      have hk0 : (0 : Int) ≤ (k : Int) := by omega
      have hkt : k < ts.length := by rw [HNT.out]; exact hlt
      have hkm : k < (mixT U docs ts k).length := by rw [mixT_len]; exact hkt
      obtain ⟨x1, x2, e1, -, -, htr⟩ := HRB.out.trm.trms
      rw [mixT_len, HNT.out] at e1 htr
      injection e1 with e1 e2 e3
      subst e1; subst e3
      obtain ⟨ad, rfl, hbl, c0, c1, c2, -⟩ := htr.at_ hlt
      rw [ti_get hkm, mixT_at hkt] at c0 c1 c2
      have hkey : ts[k].list = [] ∧ keyT ts[k] ∈ keysR U := by
        have := termsR_bare (keysR U) ts[k] (by rw [HTS.out]; exact List.getElem_mem hkt)
        exact this
      have hstep := fun (l : List UInt8) (h : l = postEnc (postsE (evsOf U) docs (keyT ts[k]))) => mixT_step (U := U) (docs := docs) hkt h
      have hkk : keyT ts[k] = (ts[k].field, ts[k].word) := rfl
      obtain ⟨f, hf⟩ : ∃ f, ts[k].field = f := ⟨_, rfl⟩
      obtain ⟨x, hx⟩ : ∃ x, ts[k].word = x := ⟨_, rfl⟩
      rw [hf] at c0 hkk
      rw [hx] at c1 hkk
      rw [hkk] at hstep
      have hblt : ad.block < wr.heap.size := (HRB.out.trm.unfrozen 0).2
      have HSTEP := Lib.hid hstep
      have HKM := Lib.hid hkm
      obtain ⟨W2, rfl⟩ : ∃ W2, W2 = wr := ⟨_, rfl⟩
      have HC := Lib.hid (fun (wq : World) (hq : Below W2.heap.size W2 wq) => show wq.cell? ⟨bs, 0, none⟩ = some (.slice (some ad) nT cT) ∧ wq.cell? ⟨bs, 1, none⟩ = some (.slice AD nD cD) ∧ wq.cell? (ad.add (k * 3)) = some (.int .i64 f) ∧ wq.cell? ⟨(ad.add (k * 3)).block, (ad.add (k * 3)).off + 1, none⟩ = some (.string (ba x)) from
        ⟨(hq.cell (p := ⟨bs, 0, none⟩) hsz).trans b0, (hq.cell (p := ⟨bs, 1, none⟩) hsz).trans b1, (hq.cell (by rw [add_block]; exact hblt)).trans c0, (hq.cell (p := ⟨(ad.add (k * 3)).block, _, none⟩) (by rw [add_block]; exact hblt)).trans c1⟩)
      clear htr hkm hkey hstep hkk hf hx e2 hbl c0 c1 c2 b1
      go_wp2
      go_loopw [13, 14] (fun pv0 i wr => ∃ (j : Nat) (pv : Value), pv = pv0 ∧ j ≤ nD ∧ i = .int .i64 (j : Int) ∧ Hid (R6 W2 U (f, x) (postsR U (f, x) (docs.take j)) pv wr)) (fun _ i _ => nD - (intOf i).toNat)
      case atStart => exact ⟨0, _, rfl, Nat.zero_le _, rfl, [], OwnPosts.nil_ _ _, rfl, Below.refl _ _⟩
      case round =>
        obtain ⟨j, pv, rfl, hj, rfl, HR⟩ := hrel
        have hsz6 := (HR.out.choose_spec.2.2).size
        obtain ⟨a0, a1, a2, a3⟩ := HC.out wr HR.out.choose_spec.2.2
        by_cases hjn : j < nD
        · have hj2 : (j : Int) < nD := by omega
          have hj0 : (0 : Int) ≤ (j : Int) := by omega
          have hjl : j < docs.length := by rw [HND.out]; exact hjn
          have hpt := postsR_take (U := U) (t := (f, x)) hjl
          obtain ⟨y1, y2, e1, -, -, hdi⟩ := HRB.out.doc.ints
          rw [HND.out] at e1 hdi
          injection e1 with e1 e2 e3
          subst e1; subst e3
          obtain ⟨add_, rfl, hdb, d0⟩ := hdi.at_ hjn
          rw [gi_get hjl] at d0
          obtain ⟨dd, hdd⟩ : ∃ dd, docs[j] = dd := ⟨_, rfl⟩
          rw [hdd] at d0 hpt
          have HD0 := Lib.hid (fun (wq : World) (hq : Below W2.heap.size W2 wq) => show wq.cell? (add_.add j) = some (.int .i64 dd) from (hq.cell (by rw [add_block]; exact hdb)).trans d0)
          have HPT := Lib.hid hpt
          clear hdd hpt hjl hdi d0 e2
          go_wp2
          go_loopw [13, 15] (fun pv0 i wr => ∃ (q : Nat) (pv : Value), pv = pv0 ∧ q ≤ nE ∧ i = .int .i64 (q : Int) ∧ Hid (R6 W2 U (f, x) (postsR U (f, x) (docs.take j) ++ innerR (f, x) dd (U.take q)) pv wr)) (fun _ i _ => nE - (intOf i).toNat)
          case atStart => exact ⟨0, _, rfl, Nat.zero_le _, rfl, Lib.hid (by have h := HR.out; simpa [innerR] using h)⟩
          case round =>
            obtain ⟨q, pv, rfl, hq, rfl, HR7⟩ := hrel
            obtain ⟨ps, hown, hps, hbel⟩ := HR7.out
            have hsz7 := hbel.size
            obtain ⟨a0, a1, a2, a3⟩ := HC.out wr hbel
            have a4 := HD0.out wr hbel
            by_cases hqn : q < nE
            · have hq2 : (q : Int) < nE := by omega
              have hq0 : (0 : Int) ≤ (q : Int) := by omega
              have hql : q < U.length := by rw [HNE.out]; exact hqn
              obtain ⟨ae, e', hae, u0, u1, u2, -⟩ := (HRB.out.ents.below (hbel.mono (by omega))).2 q hql
              have e9 := e'
              subst e9
              have hit := innerR_take (t := (f, x)) (d := dd) hql
              have htx := HU.out.text U[q] (List.getElem_mem hql)
              have hcnt := HG.out.counts U[q] (List.getElem_mem hql)
              obtain ⟨de, hde⟩ : ∃ z, U[q].doc = z := ⟨_, rfl⟩
              obtain ⟨fe, hfe⟩ : ∃ z, U[q].field = z := ⟨_, rfl⟩
              obtain ⟨xe, hxe⟩ : ∃ z, U[q].text = z := ⟨_, rfl⟩
              rw [hde] at u0 hit hcnt
              rw [hfe] at u1 hit hcnt
              rw [hxe] at u2 hit htx
              have HIT := Lib.hid hit
              have HOWN := Lib.hid hown
              have HPS := Lib.hid hps
              have HBEL := Lib.hid hbel
              have HSAME := Lib.hid (fun (nq : Nat) (h : innerR (f, x) dd (U.take (q + 1)) = innerR (f, x) dd (U.take q)) => show R6 W2 U (f, x) (postsR U (f, x) (docs.take j) ++ innerR (f, x) dd (U.take (q + 1))) pv (wr.drewN nq) from ⟨ps, hown.below (Below.drewN (Below.refl wr.heap.size wr) nq), by rw [h]; exact hps, Below.drewN hbel nq⟩)
              have hdeb : -9223372036854775808 ≤ de ∧ de ≤ 9223372036854775807 := by
                have h1 := countsP_iff.1 hcnt
                have h2 : far = 1099511627776 := rfl
                omega
              have HPSL := Lib.hid (show ps.length ≤ 1000000000 by
                have h1 := congrArg List.length hps
                rw [List.length_map, List.length_append] at h1
                have h2 := postsR_len U (f, x) (docs.take j)
                have h3 := innerR_len (f, x) dd (U.take q)
                rw [List.length_take] at h2 h3
                have h4 := HNE.out
                have h5 := HND.out
                have h6 : U.length * min j docs.length ≤ 24 * 24 := Nat.mul_le_mul (by omega) (by omega)
                omega)
              clear hde hfe hxe hit hcnt hql hown hps hbel HR7
              by_cases g1 : de = dd
              · have k1 : (de == dd) = true := by simpa using g1
                by_cases g2 : fe = f
                · have k2 : (fe == f) = true := by simpa using g2
                  have HIT2 := Lib.hid (show innerR (f, x) dd (U.take (q + 1)) = innerR (f, x) dd (U.take q) ++ if idxs x (listP xe) ≠ [] then [⟨de, idxs x (listP xe)⟩] else [] by
                    rw [HIT.out]
                    by_cases h : idxs x (listP xe) = []
                    · rw [if_neg (fun hh => hh.2.2 h), if_neg (fun hh => hh h)]
                    · rw [if_pos ⟨g1, g2, h⟩, if_pos h])
                  have HIL := Lib.hid (idxs_len x (listP xe))
                  have HLF := Lib.hid (list_few xe)
                  clear g1 g2
                  go_wp2
                  go_quiet (fail)
                  go_wp2
                  (refine wp_region_tail 11 (by kernel_rfl) (by kernel_rfl) ?_; simp only [List.take_succ_cons, List.take_zero, List.drop_succ_cons, List.drop_zero]; repeat still_step)
                  refine wpStill_nil ?_
                  go_wp2_with fail
                  refine (rplaces_any xe x _ (by omega)).mono ?_
                  rintro e w8 ⟨v8, rfl, hv8, hb8⟩
                  obtain ⟨X, cx, rfl, hx1, hx2, hxi⟩ := hv8.ints
                  obtain ⟨ix, hix⟩ : ∃ ix, idxs x (listP xe) = ix := ⟨_, rfl⟩
                  rw [hix] at hv8 hx1 hxi HIT2 HIL ⊢
                  obtain ⟨nx, hnx⟩ : ∃ nx, ix.length = nx := ⟨_, rfl⟩
                  rw [hnx] at hv8 hx1 hxi HIL ⊢
                  have HNX := Lib.hid hnx
                  have HB8 := Lib.hid (show Below wr.heap.size wr w8 from ⟨hb8.os, hb8.tape, hb8.output, hb8.size, hb8.block⟩)
                  have HV8 := Lib.hid hv8
                  have HXI := Lib.hid hxi
                  have HSZ8 := Lib.hid HB8.out.size
                  have HOWN8 := Lib.hid (HOWN.out.below HB8.out)
                  have HBEL8 := Lib.hid (HBEL.out.trans (HB8.out.mono hsz7))
                  have u8 : w8.cell? (Addr.add ae (q * 3)) = some (.int .i64 de) := (HB8.out.cell (by omega)).trans u0
                  clear hv8 hb8 hxi hix hnx
                  by_cases hx0 : 0 < nx
                  · have hx3 : (0 : Int) < (nx : Int) := by omega
                    have HNE2 := Lib.hid (show ix ≠ [] by intro e; have := HNX.out; rw [e] at this; simp at this; omega)
                    have HPI := Lib.hid (show PlacesIn w8 pv.ownBlock (⟨de, ix⟩, .slice X nx cx) from ⟨X, nx, cx, rfl, hx1, hx2, hdeb, HXI.out, fun _ ad e1 e2 => by
                      have h1 := (HOWN.out.row.lt ad.block e2).2
                      subst e1
                      have h3 : (Value.slice (some ad) nx cx).ownBlock = some ad.block := by
                        rcases HV8.out.1.2 with ⟨e, _⟩ | ⟨g', cap, cur, e, _⟩
                        · cases e
                        · injection e with e
                          injection e with e
                          subst e; rfl
                      have h2 := (HV8.out.1.lt ad.block h3).1
                      have h4 : wr.heap.size ≤ ad.block := h2
                      omega⟩)
                    have HSW := Lib.hid (show W2.heap.size ≤ w8.heap.size by have := HSZ8.out; omega)
                    go_wp2_with (refine wpList_pushPost HOWN8.out HSW.out HPI.out HPSL.out rfl (.tmp 184) (.tmp 192) 1 rfl rfl rfl ?_)
                    intro v9 w9 hown9 hg9
                    have HST := Lib.hid (show R6 W2 U (f, x) (postsR U (f, x) (docs.take j) ++ innerR (f, x) dd (U.take (q + 1))) v9 w9 from
                      ⟨_, hown9, by rw [List.map_append, HPS.out, HIT2.out, if_pos HNE2.out, List.append_assoc]; rfl, HBEL8.out.grown hg9 HSW.out (fun i e => (HOWN8.out.row.lt i e).1)⟩)
                    clear hown9 hg9
                    go_wp2
                    go_roundw
                    case rel => exact ⟨q + 1, _, rfl, by omega, by go_num, HST⟩
                    case measure => simp [intOf] <;> omega
                  · have hx3 : ¬ (0 : Int) < (nx : Int) := by omega
                    have HIE := Lib.hid (show ix = [] from List.eq_nil_of_length_eq_zero (by rw [HNX.out]; omega))
                    have HST := Lib.hid (show R6 W2 U (f, x) (postsR U (f, x) (docs.take j) ++ innerR (f, x) dd (U.take (q + 1))) pv w8 from
                      ⟨ps, HOWN8.out, by rw [HIT2.out, if_neg (fun h => h HIE.out), List.append_nil]; exact HPS.out, HBEL8.out⟩)
                    go_wp2
                    go_roundw
                    case rel => exact ⟨q + 1, _, rfl, by omega, by go_num, HST⟩
                    case measure => simp [intOf] <;> omega
                · have k2 : (fe == f) = false := by simpa using g2
                  have HS := Lib.hid (fun nq => HSAME.out nq (by rw [HIT.out, if_neg (fun h => g2 h.2.1), List.append_nil]))
                  clear g1 g2
                  go_wp2
                  go_quiet (fail)
                  go_wp2
                  go_roundw
                  case rel => exact ⟨q + 1, _, rfl, by omega, by go_num, Lib.hid (HS.out _)⟩
                  case measure => simp [intOf] <;> omega
              · have k1 : (de == dd) = false := by simpa using g1
                have HS := Lib.hid (fun nq => HSAME.out nq (by rw [HIT.out, if_neg (fun h => g1 h.1), List.append_nil]))
                clear g1
                go_wp2
                go_quiet (fail)
                go_wp2
                go_roundw
                case rel => exact ⟨q + 1, _, rfl, by omega, by go_num, Lib.hid (HS.out _)⟩
                case measure => simp [intOf] <;> omega
            · have HST := Lib.hid (show R6 W2 U (f, x) (postsR U (f, x) (docs.take (j + 1))) pv wr by
                obtain ⟨ps, h1, h2, h3⟩ := HR7.out
                refine ⟨ps, h1, ?_, h3⟩
                rw [h2, HPT.out, show U.take q = U from List.take_of_length_le (by rw [HNE.out]; omega)])
              clear hown hps hbel HR7
              go_wp2
              go_roundw
              case rel => exact ⟨j + 1, _, rfl, by omega, by go_num, HST⟩
              case measure => simp [intOf] <;> omega
        · obtain ⟨ps, hown, hps, hbel⟩ := HR.out
          have hpe : postsR U (f, x) (docs.take j) = postsE (evsOf U) docs (f, x) := by
            rw [List.take_of_length_le (by rw [HND.out]; omega)]
            exact postsR_eq HG.out.apart (f, x) docs
          rw [hpe] at hps
          obtain ⟨AP, cP, rfl, hp1, hp2, hpp⟩ := hown.posts
          rw [hps] at hpp
          have hfp : FewPosts (postsE (evsOf U) docs (f, x)) := by
            have h1 := fewPosts_of HG.out (by have := HU.out.len; omega) (f, x)
            rw [← docsR_P, HDOCS.out] at h1
            exact h1
          obtain ⟨nP, hnP⟩ : ∃ nP, ps.length = nP := ⟨_, rfl⟩
          rw [hnP] at hpp ⊢
          have HENC := Lib.hid (rencode_any AP nP cP (postsE (evsOf U) docs (f, x)) wr.drew hpp hfp)
          have HRBW := Lib.hid (HRB.out.below hbel)
          have HBELW := Lib.hid hbel
          clear hown hps hbel hpe hpp hfp hnP HR hp1 hp2
          obtain ⟨enc, henc⟩ : ∃ enc, postEnc (postsE (evsOf U) docs (f, x)) = enc := ⟨_, rfl⟩
          have HE := Lib.hid henc.symm
          rw [henc] at HENC
          clear henc
          go_wp2
          go_region_law
            (first
              | (go_simp; go_at_call 44; refine HENC.out.mono ?_; rintro e w8 ⟨rfl, hbel⟩; (
                  have HB8 := Lib.hid (show Below wr.heap.size wr w8 from ⟨hbel.os, hbel.tape, hbel.output, hbel.size, hbel.block⟩)
                  have HRB8 := Lib.hid (HRBW.out.below HB8.out)
                  have HBELV := Lib.hid (HBELW.out.trans (HB8.out.mono hsz6))
                  have f0 : w8.cell? ⟨bs, 0, none⟩ = some (.slice (some ad) nT cT) := (HC.out w8 HBELV.out).1
                  obtain ⟨cl, hcl⟩ : ∃ cl, w8.cell? ⟨(ad.add (k * 3)).block, (ad.add (k * 3)).off + 2, none⟩ = some cl := by
                    obtain ⟨x1, x2, e1, -, -, htr⟩ := HRB8.out.trm.trms
                    rw [mixT_len, HNT.out] at e1 htr
                    injection e1 with e1 e2 e3
                    subst e1
                    obtain ⟨ad', e, _, _, _, q2, _⟩ := htr.at_ hlt
                    injection e with e
                    subst e
                    exact ⟨_, q2⟩
                  have hfr : w8.frozen? ⟨(ad.add (k * 3)).block, (ad.add (k * 3)).off + 2, none⟩ = false := by rw [add_block]; exact (HRB8.out.trm.unfrozen _).1
                  have HSET := Lib.hid (HRB8.out.setL' HKM.out enc)
                  have HSETE := Lib.hid (show RB w g bs U AE nE (.slice (some ad) nT cT) (.slice AD nD cD) (mixT U docs ts (k + 1)) docs (w8.setCell ⟨(ad.add (k * 3)).block, (ad.add (k * 3)).off + 2, none⟩ (.string (ba enc))) by
                    have h := HSET.out
                    rw [HSTEP.out enc HE.out] at h
                    exact h)
                  clear hbel HENC))
              | fail)
          all_goals
            go_wp2
            go_roundw
            case rel => exact ⟨k + 1, by omega, by go_num, HSETE⟩
            case measure => simp [intOf] <;> omega
    · obtain rfl : k = nT := by omega
      have hfin : mixT U docs ts k = ts.map (listR U docs) := by rw [← HNT.out]; exact mixT_end U docs ts
      have hrb := HRB.out
      rw [hfin] at hrb
      have HRBF := Lib.hid hrb
      have HBR := Lib.hid (show buildR U = ⟨ts.map (listR U docs), docs⟩ by unfold buildR; rw [HTS.out, HDOCS.out])
      have HML := Lib.hid (show (ts.map (listR U docs)).length = k by rw [List.length_map, HNT.out])
      obtain ⟨z0, z1, z2, z3, z4, z5⟩ := res_two (x := .slice AT k cT) (y := .slice AD nD cD) hrb.res
      have Z4 := Lib.hid z4
      have Z5 := Lib.hid z5
      clear z4 z5 hfin hrb
      go_wp2
      have z4 := Z4.out
      have z5 := Z5.out
      have hl := HRBF.out.lt
      refine bodyPost_ret (v := .agg #[.slice AT k cT, .slice AD nD cD]) (by simp [results, go_sem, z4, z5]) rfl ?_
      refine ⟨(HRBF.out.bel.setCell (p := ⟨g, 0, none⟩) (by show w.heap.size ≤ g; omega) _).setCell (p := ⟨g, 1, none⟩) (by show w.heap.size ≤ g; omega) _, AT, k, cT, AD, nD, cD, ⟨ts.map (listR U docs), docs⟩, rfl, ?_, by rw [← HBR.out]; exact buildR_built U⟩
      refine seg_of (B1 := bs + 1) (B2 := bs + 1) ?_ ?_ HML.out HND.out
      · refine HRBF.out.doc.block fun i e => ?_
        have hi := (HRBF.out.doc.1.lt i e).1
        rw [heap_setCell_other _ _ _ _ (by show ¬ i = g; omega), heap_setCell_other _ _ _ _ (by show ¬ i = g; omega)]
      · refine HRBF.out.trm.block fun i e => ?_
        have hi := (HRBF.out.trm.row.lt i e).1
        rw [heap_setCell_other _ _ _ _ (by show ¬ i = g; omega), heap_setCell_other _ _ _ _ (by show ¬ i = g; omega)]
end Go.Proofs.YtfinpehbpcckaaaGreatDoor
