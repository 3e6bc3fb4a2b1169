/- Layer 9, plain: a field that is written folded is read back. -/
import Derived.Test.YtnpgnohlcphfnaaGreatDoorHdC
import Derived.Test.YtnpgnohlcphfnaaGreatDoorM08
namespace Go.Proofs.YtnpgnohlcphfnaaGreatDoor
open Go.RowKit
set_option linter.unusedVariables false

theorem endP_app {P Y : List UInt8} (h : (10 : UInt8) ∉ P) : endP (P ++ Y) = P.length + endP Y := by
  induction P with
  | nil => simp
  | cons c r ih =>
    have hc : c ≠ 10 := fun e => h (by rw [e]; exact List.mem_cons_self ..)
    have hr : (10 : UInt8) ∉ r := fun e => h (List.mem_cons_of_mem _ e)
    have h1 := ih hr
    have e : endP (c :: (r ++ Y)) = endP (r ++ Y) + 1 := by
      unfold endP
      conv => lhs; unfold cutP
      rw [if_neg hc]
      cases cutP 10 (r ++ Y) with
      | none => rfl
      | some q => rfl
    rw [List.cons_append, e, h1, List.length_cons]
    omega
/-- The field's lines take N bytes. -/
def ContL (X : List UInt8) (N : Nat) : Prop := endP X + moreL (X.drop (endP X)) = N
theorem cont_app {P Y : List UInt8} {N : Nat} (h : (10 : UInt8) ∉ P) (hY : ContL Y N) : ContL (P ++ Y) (P.length + N) := by
  unfold ContL at hY ⊢
  rw [endP_app h, ← List.drop_drop, List.drop_left]
  omega
theorem cont_fold {Z : List UInt8} {N : Nat} (hg : goesP Z = true) (hZ : ContL Z N) : ContL ([13, 10] ++ Z) (2 + N) := by
  have h1 : endP ([13, 10] ++ Z) = 2 := rfl
  unfold ContL at hZ ⊢
  rw [h1]
  show 2 + moreL Z = _
  rw [moreL_yes hg]
  omega
theorem cont_end : ContL [13, 10, 13, 10] 2 := rfl
theorem pieceP_pos : ∀ v : List UInt8, 1 ≤ pieceP v
  | [] => Nat.le_refl _
  | [_] => Nat.le_refl _
  | c :: d :: r => by
    unfold pieceP
    split
    · exact Nat.le_refl _
    · omega
theorem pieceP_rest : ∀ v : List UInt8, v.drop (pieceP v) = [] ∨ goesP (v.drop (pieceP v)) = true
  | [] => .inl rfl
  | [c] => .inl rfl
  | c :: d :: r => by
    unfold pieceP
    split
    · rename_i h
      exact .inr h.1
    · rw [Nat.add_comm, List.drop_succ_cons]
      exact pieceP_rest (d :: r)
theorem fold_cons {f n : Nat} {b : Bool} {v : List UInt8} (hv : v ≠ []) : foldG (f + 1) b n v =
    if b = false ∧ 78 < n + pieceP v then [13, 10] ++ v.take (pieceP v) ++ foldG f false (pieceP v) (v.drop (pieceP v))
    else v.take (pieceP v) ++ foldG f false (n + pieceP v) (v.drop (pieceP v)) := by
  conv => lhs; unfold foldG
  rw [if_neg hv]
theorem fold_nil (f : Nat) (b : Bool) (n : Nat) : foldG f b n [] = [] := by
  cases f with
  | zero => rfl
  | succ f => unfold foldG; rw [if_pos rfl]
theorem cont_foldG : ∀ (f : Nat) (b : Bool) (n : Nat) (v : List UInt8), v.length ≤ f → (10 : UInt8) ∉ v → (b = false → v = [] ∨ goesP v = true) →
    ContL (foldG f b n v ++ [13, 10, 13, 10]) ((foldG f b n v).length + 2)
  | f, b, n, [], _, _, _ => by rw [fold_nil]; exact cont_end
  | 0, b, n, c :: r, h, _, _ => by simp at h
  | f + 1, b, n, c :: r, h, hn, hb => by
    have hp := pieceP_pos (c :: r)
    have hr := pieceP_rest (c :: r)
    have hn1 : (10 : UInt8) ∉ (c :: r).take (pieceP (c :: r)) := fun e => hn (List.mem_of_mem_take e)
    have hn2 : (10 : UInt8) ∉ (c :: r).drop (pieceP (c :: r)) := fun e => hn (List.mem_of_mem_drop e)
    have ih := fun n' => cont_foldG f false n' ((c :: r).drop (pieceP (c :: r))) (by rw [List.length_drop]; omega) hn2 (fun _ => hr)
    rw [fold_cons (by simp)]
    split
    · rename_i hc
      have hg : goesP (c :: r) = true := (hb hc.1).resolve_left (by simp)
      have h1 := cont_app hn1 (ih (pieceP (c :: r)))
      have h2 := cont_fold (Z := (c :: r).take (pieceP (c :: r)) ++ (foldG f false (pieceP (c :: r)) ((c :: r).drop (pieceP (c :: r))) ++ [13, 10, 13, 10])) (by
        obtain ⟨k, hk⟩ : ∃ k, pieceP (c :: r) = k + 1 := ⟨pieceP (c :: r) - 1, by omega⟩
        rw [hk]
        exact hg) h1
      obtain ⟨T, hT⟩ : ∃ T, (c :: r).take (pieceP (c :: r)) = T := ⟨_, rfl⟩
      obtain ⟨G, hG⟩ : ∃ G, foldG f false (pieceP (c :: r)) ((c :: r).drop (pieceP (c :: r))) = G := ⟨_, rfl⟩
      rw [hT, hG] at h2 ⊢
      have e1 : [13, 10] ++ T ++ G ++ [13, 10, 13, 10] = [13, 10] ++ (T ++ (G ++ [13, 10, 13, 10])) := by simp
      have e2 : ([13, 10] ++ T ++ G).length + 2 = 2 + (T.length + (G.length + 2)) := by simp; omega
      rw [e1, e2]
      exact h2
    · have h1 := cont_app hn1 (ih (n + pieceP (c :: r)))
      rw [List.append_assoc, List.length_append, Nat.add_assoc]
      exact h1
theorem crlf_cons {c : UInt8} {r : List UInt8} (h : c ≠ 13) : crlfP (c :: r) = c :: crlfP r := by
  cases r with
  | nil => rfl
  | cons d r =>
    show (if c = 13 ∧ d = 10 then crlfP r else c :: crlfP (d :: r)) = _
    rw [if_neg (fun e => h e.1)]
theorem crlf_app {P Y : List UInt8} (h : (13 : UInt8) ∉ P) : crlfP (P ++ Y) = P ++ crlfP Y := by
  induction P with
  | nil => rfl
  | cons c r ih =>
    rw [List.cons_append, crlf_cons (fun e => h (by rw [e]; exact List.mem_cons_self ..)), ih (fun e => h (List.mem_cons_of_mem _ e))]
    rfl
theorem crlf_fold : ∀ (f : Nat) (b : Bool) (n : Nat) (v : List UInt8), v.length ≤ f → (13 : UInt8) ∉ v → crlfP (foldG f b n v) = v
  | f, b, n, [], _, _ => by rw [fold_nil]; rfl
  | 0, b, n, c :: r, h, _ => by simp at h
  | f + 1, b, n, c :: r, h, hn => by
    have hp := pieceP_pos (c :: r)
    have hn1 : (13 : UInt8) ∉ (c :: r).take (pieceP (c :: r)) := fun e => hn (List.mem_of_mem_take e)
    have hn2 : (13 : UInt8) ∉ (c :: r).drop (pieceP (c :: r)) := fun e => hn (List.mem_of_mem_drop e)
    have ih := fun n' => crlf_fold f false n' ((c :: r).drop (pieceP (c :: r))) (by rw [List.length_drop]; omega) hn2
    rw [fold_cons (by simp)]
    split
    · rw [List.append_assoc]
      show crlfP ((c :: r).take (pieceP (c :: r)) ++ _) = _
      rw [crlf_app hn1, ih, List.take_append_drop]
    · rw [crlf_app hn1, ih, List.take_append_drop]
theorem foldG_len : ∀ (f : Nat) (b : Bool) (n : Nat) (v : List UInt8), (foldG f b n v).length ≤ 3 * v.length
  | f, b, n, [] => by rw [fold_nil]; simp
  | 0, b, n, c :: r => by simp [foldG]
  | f + 1, b, n, c :: r => by
    have hp := pieceP_pos (c :: r)
    have ih := fun n' => foldG_len f false n' ((c :: r).drop (pieceP (c :: r)))
    have h1 : (c :: r).length = ((c :: r).take (pieceP (c :: r))).length + ((c :: r).drop (pieceP (c :: r))).length := by rw [← List.length_append, List.take_append_drop]
    have h2 : 1 ≤ ((c :: r).take (pieceP (c :: r))).length := by rw [List.length_take, List.length_cons]; omega
    rw [fold_cons (by simp)]
    split
    · have := ih (pieceP (c :: r))
      simp only [List.length_append]
      rw [show ([13, 10] : List UInt8).length = 2 from rfl]
      omega
    · have := ih (n + pieceP (c :: r))
      simp only [List.length_append]
      omega
theorem nude_crlf (Y : List UInt8) : nudeP (Y ++ [13, 10]) = Y := by
  unfold nudeP
  have h1 : (Y ++ [13, 10]).getLast? = some 10 := by simp
  have h2 : (Y ++ [13, 10]).dropLast = Y ++ [13] := by
    rw [show Y ++ [13, 10] = (Y ++ [13]) ++ [10] by simp, List.dropLast_concat]
  rw [if_pos h1, h2, if_pos (by simp), List.dropLast_concat]
theorem nude_take (f : List UInt8) : ∃ j, j ≤ 2 ∧ nudeP f = f.take (f.length - j) := by
  unfold nudeP
  split
  · split
    · exact ⟨2, Nat.le_refl _, by rw [List.dropLast_eq_take, List.dropLast_eq_take, List.take_take, List.length_take]; congr 1; omega⟩
    · exact ⟨1, by omega, by rw [List.dropLast_eq_take]⟩
  · exact ⟨0, by omega, by simp⟩
theorem trim_name {l : List UInt8} (h : nameOk l = true) : Lib.trimRightS l blanksP = l := by
  unfold nameOk at h
  rw [Bool.and_eq_true] at h
  unfold Lib.trimRightS
  have h2 : l.reverse.dropWhile (blanksP.contains ·) = l.reverse := by
    cases hr : l.reverse with
    | nil => rfl
    | cons c r =>
      have hc : c ∈ l := by rw [← List.mem_reverse, hr]; exact List.mem_cons_self ..
      have h3 := List.all_eq_true.1 h.1 c hc
      have h4 : blanksP.contains c = false := by
        unfold nameB at h3
        rw [Bool.and_eq_true, decide_eq_true_iff, UInt8.le_iff_toNat_le] at h3
        have h5 : (33 : UInt8).toNat ≤ c.toNat := h3.1.1
        have h6 : c ≠ 32 := fun e => by rw [e] at h5; exact absurd h5 (by decide)
        have h7 : c ≠ 9 := fun e => by rw [e] at h5; exact absurd h5 (by decide)
        simp [blanksP, h6, h7]
      rw [List.dropWhile_cons, h4]
      simp
  rw [h2, List.reverse_reverse]
/-- What stands as it is when blanks are trimmed. -/
def TrimFix (v : List UInt8) : Prop := (∀ c, v.head? = some c → tabB c = false) ∧ (∀ c, v.getLast? = some c → tabB c = false)
theorem blanks_tab (c : UInt8) : blanksP.contains c = tabB c := by
  unfold blanksP tabB
  simp
theorem dropW_fix {l : List UInt8} (h : ∀ c, l.head? = some c → tabB c = false) : l.dropWhile (blanksP.contains ·) = l := by
  cases l with
  | nil => rfl
  | cons c r =>
    rw [List.dropWhile_cons, blanks_tab, h c rfl]
    simp
theorem trimS_fix {v : List UInt8} (h : TrimFix v) : Lib.trimS v blanksP = v := by
  unfold Lib.trimS Lib.trimLeftS Lib.trimRightS
  rw [dropW_fix (l := v.reverse) (fun c hc => h.2 c (by rw [← List.head?_reverse]; exact hc)), List.reverse_reverse, dropW_fix h.1]
theorem trimS_cons {v : List UInt8} (hv : v ≠ []) (h : TrimFix v) : Lib.trimS (32 :: v) blanksP = v := by
  unfold Lib.trimS Lib.trimLeftS Lib.trimRightS
  have e : (32 :: v).reverse.dropWhile (blanksP.contains ·) = (32 :: v).reverse := dropW_fix fun c hc => by
    rw [List.head?_reverse] at hc
    refine h.2 c ?_
    rw [← hc]
    cases v with
    | nil => exact absurd rfl hv
    | cons a r => rfl
  rw [e, List.reverse_reverse, List.dropWhile_cons]
  have e2 : blanksP.contains 32 = true := rfl
  rw [e2]
  simp only [if_true]
  exact dropW_fix h.1
theorem air_fix {v : List UInt8} (h : (13 : UInt8) ∉ v) (h2 : (10 : UInt8) ∉ v) : airP v = v := by
  unfold airP
  conv => rhs; rw [← List.map_id v]
  refine List.map_congr_left fun c hc => ?_
  rw [if_neg]
  · rfl
  · rintro (rfl | rfl)
    · exact h hc
    · exact h2 hc
theorem filter_fix {v : List UInt8} (h2 : (10 : UInt8) ∉ v) : v.filter (fun c => decide (c ≠ 10)) = v := by
  rw [List.filter_eq_self]
  intro c hc
  rw [decide_eq_true_iff]
  rintro rfl
  exact h2 hc
/-- A field that is written and ended by an empty line is read back as it was. -/
theorem put_read {name v : List UInt8} (hn : nameOk name = true) (hv : v ≠ []) (h13 : (13 : UInt8) ∉ v) (h10 : (10 : UInt8) ∉ v) (hf : TrimFix v) :
    ∃ raw, headP (putP name v ++ [13, 10]) = ([⟨name, 32 :: foldV name v, raw, false⟩], (putP name v).length + 2) ∧ getP [⟨name, 32 :: foldV name v, raw, false⟩] name = some v := by
  have hall := hn
  unfold nameOk at hall
  rw [Bool.and_eq_true] at hall
  have hnb : ∀ c ∈ name, c ≠ 58 ∧ c ≠ 10 := fun c hc => by
    have h3 := List.all_eq_true.1 hall.1 c hc
    unfold nameB at h3
    rw [Bool.and_eq_true, decide_eq_true_iff, decide_eq_true_iff, UInt8.le_iff_toNat_le] at h3
    have h5 : (33 : UInt8).toNat ≤ c.toNat := h3.1.1
    exact ⟨h3.2, fun e => by rw [e] at h5; exact absurd h5 (by decide)⟩
  have hne : name ≠ [] := by
    rintro rfl
    simp at hall
  have h1 : (58 : UInt8) ∉ name := fun h => (hnb _ h).1 rfl
  have h2 : (10 : UInt8) ∉ name := fun h => (hnb _ h).2 rfl
  have hput : putP name v = name ++ [58, 32] ++ foldV name v ++ [13, 10] := by
    unfold putP
    rw [if_pos hn, air_fix h13 h10, trimS_fix hf]
  obtain ⟨F, hF⟩ : ∃ F, foldV name v = F := ⟨_, rfl⟩
  have hcont : ContL (F ++ [13, 10, 13, 10]) (F.length + 2) := by
    rw [← hF]
    exact cont_foldG _ true _ v (Nat.le_refl _) h10 (fun h => by cases h)
  have hcr : crlfP F = v := by
    rw [← hF]
    exact crlf_fold _ true _ v (Nat.le_refl _) h13
  rw [hput, hF]
  have hX : name ++ [58, 32] ++ F ++ [13, 10] ++ [13, 10] = (name ++ [58, 32]) ++ (F ++ [13, 10, 13, 10]) := by simp
  have hc2 : ContL (name ++ [58, 32] ++ F ++ [13, 10] ++ [13, 10]) ((name ++ [58, 32]).length + (F.length + 2)) := by
    rw [hX]
    refine cont_app ?_ hcont
    rw [List.mem_append]
    rintro (h | h)
    · exact h2 h
    · simp at h
  have hlen : (name ++ [58, 32] ++ F ++ [13, 10]).length = (name ++ [58, 32]).length + (F.length + 2) := by simp; omega
  obtain ⟨X, hXX⟩ : ∃ X, name ++ [58, 32] ++ F ++ [13, 10] ++ [13, 10] = X := ⟨_, rfl⟩
  obtain ⟨raw, hraw⟩ : ∃ raw, name ++ [58, 32] ++ F ++ [13, 10] = raw := ⟨_, rfl⟩
  refine ⟨raw, ?_, ?_⟩
  · rw [hXX]
    rw [hXX] at hc2
    have hXn : X ≠ [] := by rw [← hXX]; simp
    have hend : (name ++ [58, 32]).length + 2 ≤ endP X := by
      rw [← hXX, hX, endP_app (by
        rw [List.mem_append]
        rintro (h | h)
        · exact h2 h
        · simp at h)]
      have h9 : 2 ≤ endP (F ++ [13, 10, 13, 10]) := by
        by_cases h0 : F = []
        · rw [h0]; decide
        · have e9 : F ++ [13, 10, 13, 10] ≠ [] := by simp
          obtain ⟨c, r, rfl⟩ : ∃ c r, F = c :: r := by cases F with | nil => exact absurd rfl h0 | cons c r => exact ⟨c, r, rfl⟩
          have hc : c ≠ 10 := by
            intro e
            rw [e] at hcr
            rw [crlf_cons (by decide)] at hcr
            exact h10 (by rw [← hcr]; exact List.mem_cons_self ..)
          have h8 := endP_app (P := [c]) (Y := r ++ [13, 10, 13, 10]) (by simpa using fun e => hc e.symm)
          have h7 := endP_pos (l := r ++ [13, 10, 13, 10]) (by simp)
          rw [show c :: r ++ [13, 10, 13, 10] = [c] ++ (r ++ [13, 10, 13, 10]) by simp, h8]
          simp
          omega
      omega
    have hE := endP_le X
    have hnn : nudeP (X.take (endP X)) ≠ [] := by
      obtain ⟨j, hj, e⟩ := nude_take (X.take (endP X))
      intro h
      rw [e] at h
      have := congrArg List.length h
      rw [List.length_take, List.length_take] at this
      simp at this hend
      omega
    rw [headP_go hXn hnn hc2]
    have ht : X.take ((name ++ [58, 32]).length + (F.length + 2)) = raw := by rw [← hXX, hraw, ← hlen, hraw]; exact List.take_left' rfl
    have hd : X.drop ((name ++ [58, 32]).length + (F.length + 2)) = [13, 10] := by rw [← hXX, hraw, ← hlen, hraw]; exact List.drop_left' rfl
    rw [ht, hd]
    have hh : headP [13, 10] = ([], 2) := rfl
    rw [hh, ← hraw, hlen]
    have hfirst : ∃ b, cutP 58 (nudeP (raw.take (endP raw))) = some (name, b) := by
      have he : endP raw = endP X := by
        have e1 : raw = (name ++ [58, 32]) ++ (F ++ [13, 10]) := by rw [← hraw]; simp
        have e2 : X = (name ++ [58, 32]) ++ (F ++ [13, 10, 13, 10]) := by rw [← hXX]; exact hX
        have hq : (10 : UInt8) ∉ name ++ [58, 32] := by
          rw [List.mem_append]
          rintro (h | h)
          · exact h2 h
          · simp at h
        rw [e1, e2, endP_app hq, endP_app hq]
        congr 1
        have hex : ∃ a b, cutP 10 (F ++ [13, 10]) = some (a, b) := by
          cases hcc : cutP 10 (F ++ [13, 10]) with
          | none => exact absurd (by simp) (cutP_none.1 hcc)
          | some q => exact ⟨q.1, q.2, rfl⟩
        obtain ⟨a, b, hab⟩ := hex
        have hs := cutP_some hab
        have e3 : F ++ [13, 10, 13, 10] = a ++ 10 :: (b ++ [13, 10]) := by
          have : F ++ [13, 10, 13, 10] = (F ++ [13, 10]) ++ [13, 10] := by simp
          rw [this, hs.1]
          simp
        unfold endP
        rw [hab, e3, cut_app hs.2]
      have hrl : endP X ≤ raw.length := by rw [← he]; exact endP_le raw
      rw [he]
      obtain ⟨j, hj, e⟩ := nude_take (raw.take (endP X))
      rw [e, List.length_take, List.take_take]
      obtain ⟨m, hm⟩ : ∃ m, min (min (endP X) raw.length - j) (endP X) = name.length + 1 + m := ⟨min (min (endP X) raw.length - j) (endP X) - (name.length + 1), by
        have : name.length + 2 + 2 ≤ endP X := by simpa using hend
        omega⟩
      rw [hm]
      have e1 : raw = name ++ 58 :: (32 :: (F ++ [13, 10])) := by rw [← hraw]; simp
      refine ⟨(32 :: (F ++ [13, 10])).take m, ?_⟩
      rw [e1, List.take_append, List.take_of_length_le (by omega), show name.length + 1 + m - name.length = m + 1 by omega, List.take_succ_cons, cut_app h1]
    obtain ⟨b, hb⟩ := hfirst
    have hfl := fldP_some rfl hb
    rw [trim_name hn, if_pos hn] at hfl
    have hdr : nudeP (raw.drop (name.length + 1)) = 32 :: F := by
      have e1 : raw = name ++ [58] ++ ((32 :: F) ++ [13, 10]) := by rw [← hraw]; simp
      rw [e1, show name.length + 1 = (name ++ [58]).length by simp, List.drop_left, nude_crlf]
    rw [hdr] at hfl
    rw [hraw, hfl]
  · unfold getP
    simp only [List.find?_cons]
    simp only [decide_true, Bool.not_false, Bool.and_self, Option.map_some]
    have hu : unfoldP (32 :: F) = 32 :: v := by
      unfold unfoldP
      rw [crlf_cons (by decide), hcr, List.filter_cons_of_pos (by decide), filter_fix h10]
    rw [hu, trimS_cons hv hf]
end Go.Proofs.YtnpgnohlcphfnaaGreatDoor
