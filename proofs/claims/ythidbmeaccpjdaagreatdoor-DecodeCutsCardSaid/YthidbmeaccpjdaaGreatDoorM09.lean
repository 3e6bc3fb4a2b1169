/- Ranges over a function whose iterator turns what it has caught: what such an iterator owes, and the loop's law. Layer 12: the contract of open. Layer 12: the contracts of get and value. Layer 12: the contract of value (printed by gen_value.py). Layer 12: what list keeps while it goes through the rows. -/
import Derived.RangeFuncFrom
import Derived.Test.YthidbmeaccpjdaaGreatDoorM01
import Derived.Test.YthidbmeaccpjdaaGreatDoorM08
import Derived.Test.YthidbmeaccpjdaaGreatDoorM07
section
namespace Go.Proofs.YthidbmeaccpjdaaGreatDoor
open Go.RowKit
set_option linter.unusedVariables false
section
variable {F : Fence} {n : Nat} {P : Program}
def SeqC {α : Type} (F : Fence) (n : Nat) (P : Program) (g : Nat) (lb : Array Value) (encs : α → Array Value) (C Kp : World → World → Prop) (S Sp : List α → Prop) (N : Nat) (w : World) : Prop :=
 ∀ (l : Nat) (J Jx : List α → World → Prop) (W : World), Below w.heap.size w W → (∀ s A B, J s A → C A B → J s B) → (∀ s A B, Jx s A → C A B → Jx s B) →
  (∀ pre x W1, J pre W1 → pre.length < N → YieldAt F (n - 1) P l (encs x) W1 fun e W' =>
   (e = .returned (.bool true) ∧ J (pre ++ [x]) W' ∧ Kp W1 W') ∨ (e = .returned (.bool false) ∧ Jx (pre ++ [x]) W')) →
  J [] W →
  CallsIn F n P g (#[.func (.yield l) #[] #[]] ++ lb) W fun e W' => (∃ v, e = .returned v) ∧ ((∃ xs, S xs ∧ J xs W') ∨ (∃ pre, Sp pre ∧ Jx pre W'))
theorem rangeC {α : Type} {g : Operand} {ps : Array Tmp} {assign body : Code} {Q : Exit → Act → World → Prop} {a : Act} {w : World}
  (hro : F.round = none) (h1 : 1 ≤ n) {gf : Nat} {lb : Array Value} (hg : a.eval g = .func (.func gf) #[] lb) (hFg : F.fn gf) (eg : ∀ args w, (callFunc gf args).run P w = .ok (.enter gf args) w)
  {encs : α → Array Value} {C Kp : World → World → Prop} {S Sp : List α → Prop} {N : Nat} {w0 : World} (hseq : SeqC F (n - 1) P gf lb encs C Kp S Sp N w0)
  (hCk : ∀ {A B : World} {k : Nat} {o : Obj}, C A B → A.heap[k]? = some o → o.isCells = false → B.heap[k]? = some o)
  (hKt : ∀ {A B D : World}, Kp A B → Kp B D → Kp A D) (hKb : ∀ (W : World) (l : Nat) (o o' : Obj), w.heap.size ≤ l → W.heap[l]? = some o → o.isCells = false → o.isWalk = false → Kp W (W.putObj l o')) (hb0 : Below w0.heap.size w0 w) (hps : ∀ x, (encs x).size = ps.size)
  (I : List α → World → Prop) (Ix : Code → List α → World → Prop) (hI : OwnFrom w.heap.size I) (hIx : ∀ c, OwnFrom w.heap.size (Ix c)) (hIC : ∀ s A B, I s A → C A B → I s B) (hIxC : ∀ c s A B, Ix c s A → C A B → Ix c s B) (h0 : I [] w) (a₁ : α → Act)
  (hassign : ∀ (l : Nat) (x : α) (W : World) (K : Act → World → Prop), K (a₁ x) W →
   assign.wpIn (F.inRound l) (n - 1 - 1) P (Exit.then K (fun _ _ _ => False)) { tmps := (ps.zip (encs x)).foldl (fun t (p, v) => t.setIfInBounds p v) a.tmps, defers := [] } W)
  (hbody : ∀ (l : Nat) (pre : List α) (x : α) (W : World), I pre W → pre.length < N → body.wpIn (F.inRound l) (n - 1 - 1) P (ownPostK Kp I Ix (pre ++ [x]) W) (a₁ x) W)
  (hdone : ∀ (D : Nat) (xs : List α) (W : World), w.heap.size ≤ D → S xs → I xs W → W.heap[D]? = some (.deferred (some [])) → Q .normal { a with defers := { target := .collected D, args := #[] } :: a.defers } W)
  (hstop : ∀ (D : Nat) (c : Code) (pre : List α) (W : World), w.heap.size ≤ D → Sp pre → Ix c pre W → W.heap[D]? = some (.deferred (some [])) → c.wpIn F n P Q { a with defers := { target := .collected D, args := #[] } :: a.defers } W) :
  (Code.rangeFunc g ps assign body).wpIn F n P Q a w := by
 refine wpIn_rangeFunc fun fn hfn => ?_
 rw [hro]
 obtain ⟨rec, hrec⟩ : ∃ rec : LoopState → Option Code → Loop, rec = fun st pe => { state := st, pending := pe, fn, tmps := a.tmps, params := ps, assign, body, defers := w.heap.size } := ⟨_, rfl⟩
 obtain ⟨V, hV⟩ : ∃ V, (w.alloc (.deferred (some []))).alloc (.loop (rec .ready none)) = V := ⟨_, rfl⟩
 have hloop : V.heap[w.heap.size + 1]? = some (.loop (rec .ready none)) := by
  have := World.alloc_heap_new (w.alloc (.deferred (some []))) (.loop (rec .ready none))
  rw [World.size_alloc, hV] at this
  exact this
 have hdef : V.heap[w.heap.size]? = some (.deferred (some [])) := by
  rw [← hV]
  exact (Below.heap_alloc _ _ _ (by simp)).trans (World.alloc_heap_new w _)
 have hIV : I [] V := by rw [← hV]; exact hI.alloc _ (hI.alloc _ h0)
 have hbV : Below w0.heap.size w0 V := by
  rw [← hV]
  exact hb0.trans ((((Below.refl _ w).alloc (Nat.le_refl _) _).alloc (by simp) _).mono hb0.size)
 refine ⟨w.heap.size + 1, [{ target := .collected w.heap.size, args := #[] }], V, { target := .fn (.func gf) lb, args := #[.func (.yield (w.heap.size + 1)) #[] #[]] }, V, gf, #[.func (.yield (w.heap.size + 1)) #[] #[]] ++ lb, V, ?_, ?_, ?_, ?_, fun _ => h1, ?_⟩
 ·rw [← hV, hrec]
  exact run_enterLoop_outer _ _ _ _ _
 ·simp only [resolve, hg]
  simp [go_sem]
 ·intro f' hf'
  simp [Target.leads] at hf'
  subst hf'
  exact hFg
 ·simp [invoke, go_sem, eg]
 have hcall := hseq (w.heap.size + 1)
  (fun pre W => I pre W ∧ W.heap[w.heap.size + 1]? = some (.loop (rec .ready none)) ∧ W.heap[w.heap.size]? = some (.deferred (some [])))
  (fun pre W => ∃ c, Ix c pre W ∧ W.heap[w.heap.size + 1]? = some (.loop (rec .done (some c))) ∧ W.heap[w.heap.size]? = some (.deferred (some [])))
  V hbV (fun s A B hs hc => ⟨hIC s A B hs.1 hc, hCk hc hs.2.1 rfl, hCk hc hs.2.2 rfl⟩) (fun s A B ⟨c, h1, h2, h3⟩ hc => ⟨c, hIxC c s A B h1 hc, hCk hc h2 rfl, hCk hc h3 rfl⟩) ?_ ⟨hIV, hloop, hdef⟩
 ·refine hcall.mono ?_
  rintro e W2 ⟨⟨v, rfl⟩, (⟨xs, hS, hi, hl, hk⟩ | ⟨pre, hSp, c, hi, hl, hk⟩)⟩
  ·exact ⟨none, _, by have := run_endLoop (P := P) hl (by rw [hrec]; simp); rw [hrec] at this; exact this, hdone _ xs _ (Nat.le_refl _) hS (hI.putObj _ hi (by omega) hl rfl) ((World.putObj_heap_other (by omega)).trans hk)⟩
  ·exact ⟨some c, _, by have := run_endLoop (P := P) hl (by rw [hrec]; simp); rw [hrec] at this; exact this, hstop _ c pre _ (Nat.le_refl _) hSp ((hIx c).putObj _ hi (by omega) hl rfl) ((World.putObj_heap_other (by omega)).trans hk)⟩
 rintro pre x W ⟨hi, hl, hk⟩ hlen
 have hlt : w.heap.size + 1 < W.heap.size := (Array.getElem?_eq_some_iff.1 hl).1
 have hy := run_yield (P := P) (args := encs x) hl (by rw [hrec]; exact hps x)
 rw [hrec] at hy
 refine ⟨fn, _, assign, body, hy, roundIn_of_wpIn hfn (hassign _ x W _ ⟨_, run_beginRound hl (by rw [hrec]), ?_⟩)⟩
 obtain ⟨X, hX⟩ : ∃ X, W.putObj (w.heap.size + 1) (.loop { rec .ready none with state := .busy }) = X := ⟨_, rfl⟩
 have hXl : X.heap[w.heap.size + 1]? = some (.loop { rec .ready none with state := .busy }) := by rw [← hX]; exact World.putObj_heap_same hlt
 have hXd : X.heap[w.heap.size]? = some (.deferred (some [])) := by rw [← hX]; exact (World.putObj_heap_other (by omega)).trans hk
 have hXk : Kp W X := by rw [← hX]; exact hKb _ _ _ _ (by omega) hl rfl rfl
 have hXI : I pre X := by rw [← hX]; exact hI.putObj _ hi (by omega) hl rfl
 rw [hX]
 refine wpIn_mono (hbody _ pre x X hXI hlen) ?_
 have fin : ∀ (jump : Option Code) (Y : World), KeepsOthers X Y →
   (Instr.endRound (w.heap.size + 1) jump).run P Y = .ok (.bool jump.isNone) (Y.putObj (w.heap.size + 1) (.loop (rec (if jump.isNone then .ready else .done) jump))) ∧
   Y.heap[w.heap.size + 1]? = some (.loop { rec .ready none with state := .busy }) ∧
   (Y.putObj (w.heap.size + 1) (.loop (rec (if jump.isNone then .ready else .done) jump))).heap[w.heap.size + 1]? = some (.loop (rec (if jump.isNone then .ready else .done) jump)) ∧
   (Y.putObj (w.heap.size + 1) (.loop (rec (if jump.isNone then .ready else .done) jump))).heap[w.heap.size]? = some (.deferred (some [])) := fun jump Y hY => by
  have hYl := hY.same _ _ hXl rfl
  have := run_endRound (P := P) jump hYl
  rw [hrec] at this ⊢
  exact ⟨this, by rw [hrec] at hYl; exact hYl, World.putObj_heap_same (Array.getElem?_eq_some_iff.1 hYl).1, (World.putObj_heap_other (by omega)).trans (hY.same _ _ hXd rfl)⟩
 rintro e a3 Y hp
 cases e with
 | normal =>
  obtain ⟨hk3, hkp3, hi3⟩ := hp
  obtain ⟨hr, hl3, hl4, hk4⟩ := fin none Y hk3
  exact ⟨_, _, hr, .inl ⟨rfl, ⟨hI.putObj _ hi3 (by omega) hl3 rfl, hl4, hk4⟩, hKt (hKt hXk hkp3) (hKb _ _ _ _ (by omega) hl3 rfl rfl)⟩⟩
 | ret =>
  obtain ⟨hk3, hi3⟩ := hp
  obtain ⟨hr, hl3, hl4, hk4⟩ := fin (some .ret) Y hk3
  exact ⟨_, _, hr, .inr ⟨rfl, .ret, (hIx _).putObj _ hi3 (by omega) hl3 rfl, hl4, hk4⟩⟩
 | exit id =>
  obtain ⟨hk3, hi3⟩ := hp
  obtain ⟨hr, hl3, hl4, hk4⟩ := fin (some (.exit id)) Y hk3
  exact ⟨_, _, hr, .inr ⟨rfl, .exit id, (hIx _).putObj _ hi3 (by omega) hl3 rfl, hl4, hk4⟩⟩
 | goto t =>
  obtain ⟨hk3, hi3⟩ := hp
  obtain ⟨hr, hl3, hl4, hk4⟩ := fin (some (.goto t)) Y hk3
  exact ⟨_, _, hr, .inr ⟨rfl, .goto t, (hIx _).putObj _ hi3 (by omega) hl3 rfl, hl4, hk4⟩⟩
 | panic ch => exact hp.elim
 | outgrown => exact hp.elim
end
end Go.Proofs.YthidbmeaccpjdaaGreatDoor
end
section
namespace Go.Proofs.YthidbmeaccpjdaaGreatDoor
open Go.RowKit
set_option linter.unusedVariables false
theorem openP_skip (c : UInt8) (r : List UInt8) (h : c ≠ 37 ∨ r.length < 2 ∨ unhexP (r.take 2) = none) : openP (c :: r) = c :: openP r := by
 match r with
 | [] => rfl
 | [x] => rfl
 | x :: y :: t =>
  have e : unhexP ((x :: y :: t).take 2) = match hexV x, hexV y with | some a, some b => some [UInt8.ofNat (a * 16 + b)] | _, _ => none := by
   show unhexP [x, y] = _
   unfold unhexP
   cases hexV x <;> cases hexV y <;> rfl
  rw [e] at h
  conv => lhs; unfold openP
  by_cases hc : c = 37
  ·rw [if_pos hc]
   have h2 := h.resolve_left (fun h => h hc)
   have h3 := h2.resolve_left (by simp)
   cases hx : hexV x with
   | none => rfl
   | some a =>
    cases hy : hexV y with
    | none => rfl
    | some b => rw [hx, hy] at h3; cases h3
  ·rw [if_neg hc]
theorem openP_take (r z : List UInt8) (h2 : 2 ≤ r.length) (h : unhexP (r.take 2) = some z) : openP (37 :: r) = z ++ openP (r.drop 2) := by
 match r, h2 with
 | x :: y :: t, _ =>
  have e : unhexP ((x :: y :: t).take 2) = match hexV x, hexV y with | some a, some b => some [UInt8.ofNat (a * 16 + b)] | _, _ => none := by
   show unhexP [x, y] = _
   unfold unhexP
   cases hexV x <;> cases hexV y <;> rfl
  rw [e] at h
  conv => lhs; unfold openP
  rw [if_pos rfl]
  cases hx : hexV x with
  | none => rw [hx] at h; cases h
  | some a =>
   cases hy : hexV y with
   | none => rw [hx, hy] at h; cases h
   | some b =>
    rw [hx, hy] at h
    injection h with h
    subst h
    rfl
structure OpRel (w : World) (l : List UInt8) (k : Nat) (wr : World) : Prop where
 ex : ∃ acc, Bld wr w.heap.size w.heap.size acc ∧ acc ++ openP (l.drop k) = openP l ∧ acc.length ≤ k
 bel : Below w.heap.size w wr
set_option maxRecDepth 100000 in
set_option maxHeartbeats 4000000 in
theorem open_any (l : List UInt8) (w : World) (hl : l.length ≤ 1000000000) :
  Calls Tryz.prog 250 #[.string (ba l)] w (StrB w (openP l)) := by
 have HB0 := Lib.hid (bld_new w)
 have HEX := Lib.hid (fun i j => ba_cut l i j)
 obtain ⟨n, hn⟩ : ∃ n, l.length = n := ⟨_, rfl⟩
 have HL := Lib.hid hn
 obtain ⟨s, hs⟩ : ∃ s, ba l = s := ⟨_, rfl⟩
 have HS := Lib.hid hs
 have HZ := Lib.hid (show s.size = n by rw [← hs, ba_size, hn])
 have hsz : (s.size : Int) = n := by rw [HZ.out]
 rw [hs]
 rw [hn] at hl
 clear hs hn
 rw [HS.out] at HEX
 go_enter Tryz.func250, Tryz.ntmps250
 go_wp2
 go_loopw [4] (fun i wr => ∃ k : Nat, k ≤ n ∧ i = .int .i64 (k : Int) ∧ Hid (OpRel w l k wr)) (fun i _ => n - (intOf i).toNat)
 case atStart => exact ⟨0, Nat.zero_le _, rfl, Lib.hid ⟨⟨[], HB0.out, rfl, Nat.le_refl _⟩, (Below.refl _ _).alloc (Nat.le_refl _) _⟩⟩
 case round =>
  obtain ⟨k, hk, rfl, HR⟩ := hrel
  obtain ⟨acc, hbld, heq, hal⟩ := HR.out.ex
  have hsz2 := HR.out.bel.size
  have HBL := Lib.hid hbld
  have HEQ0 := Lib.hid heq
  have HAL := Lib.hid hal
  have HBE := Lib.hid HR.out.bel
  have hacl : acc.length ≤ 1000000000 := by omega
  clear HR hbld heq hal
  by_cases hlt : k < n
  ·have hk2 : (k : Int) < (n : Int) := by omega
   have hk0 : (0 : Int) ≤ (k : Int) := by omega
   have hks : k < s.size := by rw [HZ.out]; omega
   have hkl : k < l.length := by rw [HL.out]; omega
   have hget : s[k] = l[k] := by
    have h := HS.out
    subst h
    rfl
   have heq := HEQ0.out
   rw [List.drop_eq_getElem_cons hkl] at heq
   have HEQ := Lib.hid heq
   have HW := Lib.hid (fun W (hb : Bld W w.heap.size w.heap.size acc) (hz : w.heap.size ≤ W.heap.size) => write_byte w.heap.size w.heap.size acc l[k] W hb (by omega) hz)
   clear heq
   obtain ⟨c, hc⟩ : ∃ c, l[k] = c := ⟨_, rfl⟩
   rw [hc] at hget HEQ HW
   obtain ⟨x, hx⟩ : ∃ x : Int, (c.toNat : Int) = x := ⟨_, rfl⟩
   have hgi : ((s[k]).toNat : Int) = x := by rw [hget]; exact hx
   have HX := Lib.hid hx
   have hx0 : 0 ≤ x := by omega
   have hx1 : x ≤ 255 := by have := c.toNat_lt; omega
   clear hc hkl hget hx
   rw [HX.out] at HW
   have HRL := Lib.hid (show (l.drop (k + 1)).length = n - (k + 1) by rw [List.length_drop, HL.out])
   by_cases e1 : x = 37 ∧ k + 2 < n
   ·have g1 : (x == 37) = true := by simpa using e1.1
    have hc2 : (k : Int) + 2 < (n : Int) := by omega
    have hc3 : (k : Int) + 3 ≤ (n : Int) := by omega
    have HC := Lib.hid (show c = 37 from u8_int_eq.1 (by rw [HX.out]; exact e1.1))
    have hext := HEX.out (k + 1) (k + 3)
    have e2 : (l.take (k + 3)).drop (k + 1) = (l.drop (k + 1)).take 2 := by rw [List.drop_take]; congr 1; omega
    rw [e2] at hext
    have HUL := Lib.hid (show ((l.drop (k + 1)).take 2).length = 2 by rw [List.length_take, HRL.out]; omega)
    have HUN := Lib.hid (fun z => openP_take (l.drop (k + 1)) z (by rw [HRL.out]; omega))
    have HSK := Lib.hid (fun h => openP_skip c (l.drop (k + 1)) (.inr (.inr h)))
    obtain ⟨t, ht⟩ : ∃ t, (l.drop (k + 1)).take 2 = t := ⟨_, rfl⟩
    rw [ht] at hext HUL HUN HSK
    have HUH := Lib.hid (unhex_any t wr (by rw [HUL.out]; omega))
    have HZL := Lib.hid (unhex_len t)
    unfold UnhexPost at HUH
    have HEX2 := Lib.hid hext
    clear e1 e2 ht hext
    cases hu : unhexP t with
    | none =>
     rw [hu] at HUH HSK
     have HE := Lib.hid (show acc ++ c :: openP (l.drop (k + 1)) = openP l by
      have := HEQ.out
      rw [HSK.out rfl] at this
      exact this)
     clear hu
     go_wp2_with fail
     rw [HEX2.out]
     refine HUH.out.mono ?_
     rintro e w2 ⟨rfl, hb2⟩
     have HB2 := Lib.hid hb2
     have hsz3 := hb2.size
     clear hb2
     go_wp2_with fail
     refine (HW.out w2 (HBL.out.below HB2.out) (by omega)).mono ?_
     rintro e w3 ⟨rfl, hW⟩
     have HWR := Lib.hid hW
     clear hW
     go_wp2
     go_roundw
     case rel =>
      refine ⟨k + 1, by omega, by go_num, Lib.hid ⟨⟨_, HWR.out.bld, ?_, ?_⟩, (HBE.out.trans (HB2.out.mono hsz2)).trans HWR.out.bel⟩⟩
      ·rw [List.append_assoc]; exact HE.out
      ·rw [List.length_append]; have := HAL.out; show acc.length + 1 ≤ k + 1; omega
     case measure => simp [intOf] <;> omega
    | some z =>
     rw [hu] at HUH
     have HE := Lib.hid (show acc ++ (z ++ openP (l.drop (k + 1 + 2))) = openP l by
      have := HEQ.out
      rw [HC.out, HUN.out z hu, List.drop_drop] at this
      exact this)
     have HZ1 := Lib.hid (show z.length = 1 by have := HZL.out z hu; have := HUL.out; omega)
     clear hu
     go_wp2_with fail
     rw [HEX2.out]
     refine HUH.out.mono ?_
     rintro e w2 ⟨rfl, hb2⟩
     have HB2 := Lib.hid hb2
     have hsz3 := hb2.size
     clear hb2
     go_wp2_with fail
     refine (write_string w.heap.size w.heap.size acc z w2 (HBL.out.below HB2.out) (by rw [HZ1.out]; omega) (by omega)).mono ?_
     rintro e w3 ⟨rfl, hW⟩
     have HWR := Lib.hid hW
     clear hW
     go_wp2
     go_roundw
     case rel =>
      refine ⟨k + 3, by omega, by go_num, Lib.hid ⟨⟨_, HWR.out.bld, ?_, ?_⟩, (HBE.out.trans (HB2.out.mono hsz2)).trans HWR.out.bel⟩⟩
      ·rw [List.append_assoc]; exact HE.out
      ·rw [List.length_append, HZ1.out]; have := HAL.out; omega
     case measure => simp [intOf] <;> omega
   ·have HE := Lib.hid (show acc ++ c :: openP (l.drop (k + 1)) = openP l by
     have := HEQ.out
     rw [openP_skip c _ (by
      by_cases h : c = 37
      ·refine .inr (.inl ?_)
       rw [HRL.out]
       have : ¬ k + 2 < n := fun h2 => e1 ⟨by rw [← HX.out, h]; rfl, h2⟩
       omega
      ·exact .inl h)] at this
     exact this)
    by_cases e2 : x = 37
    ·have g1 : (x == 37) = true := by simpa using e2
     have hc2 : ¬ (k : Int) + 2 < (n : Int) := fun h => e1 ⟨e2, by omega⟩
     clear e1 e2
     go_wp2_with fail
     refine (HW.out wr HBL.out hsz2).mono ?_
     rintro e w3 ⟨rfl, hW⟩
     have HWR := Lib.hid hW
     clear hW
     go_wp2
     go_roundw
     case rel =>
      refine ⟨k + 1, by omega, by go_num, Lib.hid ⟨⟨_, HWR.out.bld, ?_, ?_⟩, HBE.out.trans HWR.out.bel⟩⟩
      ·rw [List.append_assoc]; exact HE.out
      ·rw [List.length_append]; have := HAL.out; show acc.length + 1 ≤ k + 1; omega
     case measure => simp [intOf] <;> omega
    ·have g1 : (x == 37) = false := by simpa using e2
     clear e1 e2
     go_wp2_with fail
     refine (HW.out wr HBL.out hsz2).mono ?_
     rintro e w3 ⟨rfl, hW⟩
     have HWR := Lib.hid hW
     clear hW
     go_wp2
     go_roundw
     case rel =>
      refine ⟨k + 1, by omega, by go_num, Lib.hid ⟨⟨_, HWR.out.bld, ?_, ?_⟩, HBE.out.trans HWR.out.bel⟩⟩
      ·rw [List.append_assoc]; exact HE.out
      ·rw [List.length_append]; have := HAL.out; show acc.length + 1 ≤ k + 1; omega
     case measure => simp [intOf] <;> omega
  ·obtain rfl : k = n := by omega
   have HACC := Lib.hid (show acc = openP l by
    have := HEQ0.out
    rw [List.drop_of_length_le (by rw [HL.out]; exact Nat.le_refl _)] at this
    have h0 : openP [] = [] := by unfold openP; rfl
    rw [h0, List.append_nil] at this
    exact this)
   go_wp2_with fail
   refine (bld_string _ _ acc wr HBL.out hsz2).mono ?_
   rintro e w2 ⟨rfl, hW⟩
   have HW := Lib.hid hW
   clear hW
   go_wp2
   go_ret
   exact str_fin (by rw [HACC.out]) (HBE.out.trans HW.out.bel)
end Go.Proofs.YthidbmeaccpjdaaGreatDoor
end
section
namespace Go.Proofs.YthidbmeaccpjdaaGreatDoor
open Go.RowKit
set_option linter.unusedVariables false
def parF (ones : List One1) (x : Spot3) : Option Value := (ones.find? fun o => decide (o.at_ = x)).map fun o => .string (ba o.value)
def firF (ones : List One1) (x : Spot3) : Option Value := if x.wide = false ∧ 0 ≤ x.section_ then (firstP ones x.name x.section_).map fun o => .bool o.at_.wide else none
structure PMaps (w : World) (ones : List One1) (bp bf : Nat) : Prop where
 par : ∃ c, MapL spotK w bp (parF ones) c
 fir : ∃ c, MapL spotK w bf (firF ones) c
theorem PMaps.below {w w' : World} {ones : List One1} {bp bf : Nat} (h : PMaps w ones bp bf) (hb : Below w.heap.size w w') : PMaps w' ones bp bf := by
 obtain ⟨⟨c, h1⟩, d, h2⟩ := h
 exact ⟨⟨c, h1.below hb⟩, d, h2.below hb⟩
theorem zero_str (w : World) : (zeroValue 9).run Tryz.prog w = .ok (.string ⟨#[]⟩) w := by kernel_rfl
theorem zero_bool (w : World) : (zeroValue 4).run Tryz.prog w = .ok (.bool false) w := by kernel_rfl
theorem fits_spot {name : List UInt8} {s : Int} {b : Bool} (hn : name.length ≤ 1000000000) (h0 : -1 ≤ s) (h1 : s ≤ 63) : spotK.fits ⟨name, s, b⟩ := by
 refine ⟨wf64 ⟨?_, ?_⟩, ?_⟩
 ·show -9223372036854775808 ≤ s; omega
 ·show s ≤ 9223372036854775807; omega
 ·show name.length ≤ maxLen; unfold maxLen; omega
theorem par_first {ones : List One1} {name : List UInt8} {s : Int} {x : One1} (h : firstP ones name s = some x) : parF ones ⟨name, s, x.at_.wide⟩ = some (.string (ba x.value)) := by
 unfold firstP at h
 unfold parF
 have key : ones.find? (fun o => decide (o.at_ = ⟨name, s, x.at_.wide⟩)) = some x := by
  induction ones with
  | nil => cases h
  | cons a r ih =>
   rw [List.find?_cons] at h ⊢
   by_cases h1 : a.at_.name = name ∧ a.at_.section_ = s
   ·have e : (decide (a.at_.name = name) && decide (a.at_.section_ = s)) = true := by simp [h1]
    rw [e] at h
    have hx : a = x := Option.some.inj h
    subst hx
    have e2 : decide (a.at_ = ⟨name, s, a.at_.wide⟩) = true := by
     rw [decide_eq_true_iff]
     cases ha : a.at_ with
     | mk n2 s2 w2 => rw [ha] at h1; rw [← h1.1, ← h1.2]
    rw [e2]
   ·have e : (decide (a.at_.name = name) && decide (a.at_.section_ = s)) = false := by
     rw [Bool.eq_false_iff]
     intro h2
     rw [Bool.and_eq_true, decide_eq_true_iff, decide_eq_true_iff] at h2
     exact h1 h2
    rw [e] at h
    have e2 : decide (a.at_ = ⟨name, s, x.at_.wide⟩) = false := by
     rw [decide_eq_false_iff_not]
     intro h2
     rw [h2] at h1
     exact h1 ⟨rfl, rfl⟩
    rw [e2]
    exact ih h
 rw [key]
 rfl
def GetPost (w : World) (o : Option One1) (e : Ending) (w' : World) : Prop := e = .returned (.tuple #[.string (ba ((o.map (·.value)).getD [])), .bool ((o.map (·.at_.wide)).getD false), .bool o.isSome]) ∧ w' = w
set_option maxRecDepth 100000 in
set_option maxHeartbeats 4000000 in
theorem get_any (ones : List One1) (name : List UInt8) (s : Int) (bp bf : Nat) (w : World) (hP : PMaps w ones bp bf) (hn : name.length ≤ 1000000000) (h0 : 0 ≤ s) (h1 : s ≤ 63) :
  Calls Tryz.prog 247 #[.map (some bp), .string (ba name), .int .i64 s, .map (some bf)] w (GetPost w (firstP ones name s)) := by
 obtain ⟨⟨c, hp⟩, d, hf⟩ := hP
 have hl1 := hf.look_ok Tryz.underlying194 (zero_bool w) (x := ⟨name, s, false⟩) (fits_spot hn (by omega) h1)
 have hl2 : ∀ b, _ := fun b => hp.look Tryz.underlying193 (zero_str w) (x := ⟨name, s, b⟩) (fits_spot hn (by omega) h1)
 have HPF := Lib.hid (fun x => par_first (ones := ones) (name := name) (s := s) (x := x))
 unfold firF at hl1
 simp only [h0, and_self, if_true] at hl1
 unfold spotK at hl1 hl2
 simp only [spotV] at hl1 hl2
 obtain ⟨o, ho⟩ : ∃ o, firstP ones name s = o := ⟨_, rfl⟩
 rw [ho] at hl1
 simp only [ho] at HPF
 rw [ho]
 clear ho hp hf
 cases o with
 | none =>
  clear hl2
  go_enter Tryz.func247, Tryz.ntmps247
  go_wp2
  go_ret3
  exact ⟨rfl, rfl⟩
 | some x =>
  have hl3 := hl2 x.at_.wide
  rw [HPF.out x rfl] at hl3
  have HX := Lib.hid hl3
  clear hl2
  go_enter Tryz.func247, Tryz.ntmps247
  go_wp2
  go_ret3
  exact ⟨rfl, rfl⟩
end Go.Proofs.YthidbmeaccpjdaaGreatDoor
end
section
namespace Go.Proofs.YthidbmeaccpjdaaGreatDoor
open Go.RowKit
set_option linter.unusedVariables false
theorem openP_len : ∀ (n : Nat) (l : List UInt8), l.length ≤ n → (openP l).length ≤ l.length
 | 0, l, h => by
  have : l = [] := List.eq_nil_of_length_eq_zero (by omega)
  subst this
  exact Nat.le_refl _
 | n + 1, l, h => by
  cases l with
  | nil => exact Nat.le_refl _
  | cons c r =>
   have hr : r.length ≤ n := by simpa using h
   by_cases hs : c ≠ 37 ∨ r.length < 2 ∨ unhexP (r.take 2) = none
   ·rw [openP_skip c r hs]
    have := openP_len n r hr
    simp only [List.length_cons]
    omega
   ·have h1 : c = 37 := Classical.not_not.1 fun h => hs (.inl h)
    have h2 : 2 ≤ r.length := by
     rcases Nat.lt_or_ge r.length 2 with h | h
     ·exact absurd (.inr (.inl h)) hs
     ·exact h
    cases hz : unhexP (r.take 2) with
    | none => exact absurd (.inr (.inr hz)) hs
    | some z =>
     subst h1
     rw [openP_take r z h2 hz]
     have h3 := unhex_len _ _ hz
     rw [List.length_take] at h3
     have h4 := openP_len n (r.drop 2) (by rw [List.length_drop]; omega)
     rw [List.length_drop] at h4
     rw [List.length_append, List.length_cons]
     omega
theorem splitP_len (l : List UInt8) : (splitP l).1.length ≤ l.length ∧ (splitP l).2.length ≤ l.length := by
 rw [splitP_cut]
 have h1 := cutV_len 39 l
 have h2 := cutV_len 39 (cutV 39 l).2.1
 split
 ·exact ⟨h1.1, by show (cutV 39 (cutV 39 l).2.1).2.1.length ≤ _; omega⟩
 ·exact ⟨Nat.zero_le _, Nat.le_refl _⟩
def onesOk (ones : List One1) : Prop := ∀ x ∈ ones, x.value.length ≤ 10000000 ∧ x.at_.name.length ≤ 10000000
theorem first_mem {ones : List One1} {name : List UInt8} {s : Int} {x : One1} (h : firstP ones name s = some x) : x ∈ ones := List.mem_of_find?_eq_some h
theorem restG_len {ones : List One1} (h : onesOk ones) (name : List UInt8) : ∀ (f : Nat) (k : Int), (restG ones name f k).length ≤ f * 10000000
 | 0, k => by simp [restG]
 | f + 1, k => by
  unfold restG
  split
  ·simp
  ·rename_i x hx
   have h1 := (h x (first_mem hx)).1
   have h2 := restG_len h name f (k + 1)
   have h3 := openP_len _ x.value (Nat.le_refl _)
   rw [List.length_append]
   split <;> omega
theorem restG_none {ones : List One1} {name : List UInt8} {k : Int} (f : Nat) (h : firstP ones name k = none) : restG ones name f k = [] := by
 cases f with
 | zero => rfl
 | succ f => unfold restG; rw [h]
theorem restG_some {ones : List One1} {name : List UInt8} {k : Int} {f : Nat} {x : One1} (h : firstP ones name k = some x) : restG ones name (f + 1) k = (if x.at_.wide = true then openP x.value else x.value) ++ restG ones name f (k + 1) := by
 conv => lhs; unfold restG
 rw [h]
def ValPost (w : World) (o : Option (List UInt8)) (e : Ending) (w' : World) : Prop := e = .returned (.tuple #[.string (ba (o.getD [])), .bool o.isSome]) ∧ Below w.heap.size w w'
theorem val_fin {w w' : World} {o : Option (List UInt8)} {v : List UInt8} {s : ByteArray} (h : o = some v) (hs : s = ba v) (hb : Below w.heap.size w w') : ValPost w o (.returned (.tuple #[.string s, .bool true])) w' := by
 subst h
 subst hs
 exact ⟨rfl, hb⟩
theorem value_none {ones : List One1} {name : List UInt8} (h0 : firstP ones name 0 = none) (h1 : parF ones ⟨name, -1, true⟩ = none) : (valueP ones name).map (fun v => Value.string (ba v)) = parF ones ⟨name, -1, false⟩ := by
 unfold valueP
 rw [h0]
 unfold parF at h1
 have h2 : ones.find? (fun o => decide (o.at_ = ⟨name, -1, true⟩)) = none := Option.map_eq_none_iff.1 h1
 simp only [h2]
 rw [Option.map_map]
 unfold parF firstP
 have h3 : ∀ x ∈ ones, (decide (x.at_.name = name) && decide (x.at_.section_ = -1)) = decide (x.at_ = ⟨name, -1, false⟩) := fun x hx => by
  have h4 := List.find?_eq_none.1 h2 x hx
  have h5 : x.at_ ≠ ⟨name, -1, true⟩ := by simpa using h4
  rw [Bool.eq_iff_iff, Bool.and_eq_true, decide_eq_true_iff, decide_eq_true_iff, decide_eq_true_iff]
  constructor
  ·intro h6
   cases ha : x.at_ with
   | mk n2 s2 w2 =>
    rw [ha] at h6 h5
    obtain ⟨h7, h8⟩ := h6
    subst h7; subst h8
    cases w2 with
    | true => exact absurd rfl h5
    | false => rfl
  ·intro h6
   rw [h6]
   exact ⟨rfl, rfl⟩
 have h6 : ones.find? (fun x => decide (x.at_.name = name) && decide (x.at_.section_ = -1)) = ones.find? (fun o => decide (o.at_ = ⟨name, -1, false⟩)) := by
  clear h0 h1 h2
  induction ones with
  | nil => rfl
  | cons a r ih =>
   rw [List.find?_cons, List.find?_cons, h3 a (List.mem_cons_self ..), ih fun x hx => h3 x (List.mem_cons_of_mem _ hx)]
 rw [h6]
 rfl
theorem value_wide {ones : List One1} {name : List UInt8} (h0 : firstP ones name 0 = none) {v : Value} (h1 : parF ones ⟨name, -1, true⟩ = some v) : ∃ x ∈ ones, v = .string (ba x.value) ∧ valueP ones name = some (meantP (splitP x.value).1 (openP (splitP x.value).2)) := by
 unfold parF at h1
 obtain ⟨x, hx, rfl⟩ := Option.map_eq_some_iff.1 h1
 refine ⟨x, List.mem_of_find?_eq_some hx, rfl, ?_⟩
 unfold valueP
 rw [h0]
 simp only [hx]
theorem value_sec {ones : List One1} {name : List UInt8} {x : One1} (h0 : firstP ones name 0 = some x) : valueP ones name =
  if x.at_.wide = true then some (meantP (splitP x.value).1 (openP (splitP x.value).2 ++ restG ones name 63 1)) else some (x.value ++ restG ones name 63 1) := by
 unfold valueP
 rw [h0]
structure SecRel (w : World) (ones : List One1) (name base : List UInt8) (k : Nat) (acc : List UInt8) (wr : World) : Prop where
 eq : acc ++ restG ones name (64 - k) k = base ++ restG ones name 63 1
 bel : Below w.heap.size w wr
 len : acc.length ≤ k * 10000000
set_option maxRecDepth 100000 in
set_option maxHeartbeats 4000000 in
theorem value_any (ones : List One1) (name : List UInt8) (bp bf : Nat) (w : World) (hP : PMaps w ones bp bf) (hn : name.length ≤ 1000000000) (hok : onesOk ones) (hT : Tabs w) :
  Calls Tryz.prog 201 #[.map (some bp), .string (ba name), .map (some bf)] w (ValPost w (valueP ones name)) := by
 have HP := Lib.hid hP
 have HT := Lib.hid hT
 have HOK := Lib.hid hok
 have HG0 := Lib.hid (get_any ones name 0 bp bf w hP hn (by omega) (by omega))
 unfold GetPost at HG0
 obtain ⟨⟨c, hp⟩, _⟩ := hP
 have hl1 := hp.look_ok Tryz.underlying193 (zero_str w) (x := ⟨name, -1, true⟩) (fits_spot hn (by omega) (by omega))
 have hl2 := hp.look_ok Tryz.underlying193 (zero_str w) (x := ⟨name, -1, false⟩) (fits_spot hn (by omega) (by omega))
 clear hp hT hok
 cases hf0 : firstP ones name 0 with
 | none =>
  rw [hf0] at HG0
  cases hp1 : parF ones ⟨name, -1, true⟩ with
  | none =>
   have HV := Lib.hid (value_none hf0 hp1)
   rw [hp1] at hl1
   obtain ⟨vo, hvo⟩ : ∃ o, valueP ones name = o := ⟨_, rfl⟩
   rw [hvo] at HV ⊢
   rw [← HV.out] at hl2
   unfold spotK at hl1 hl2
   simp only [spotV] at hl1 hl2
   clear hf0 hp1 hvo
   cases vo with
   | none =>
    go_enter Tryz.func201, Tryz.ntmps201
    go_wp2_with fail
    refine HG0.out.mono ?_
    rintro e w2 ⟨rfl, hw⟩
    have hw2 := hw.symm
    subst hw2
    clear hw
    go_wp2
    go_ret2
    exact ⟨rfl, Below.refl _ _⟩
   | some v =>
    go_enter Tryz.func201, Tryz.ntmps201
    go_wp2_with fail
    refine HG0.out.mono ?_
    rintro e w2 ⟨rfl, hw⟩
    have hw2 := hw.symm
    subst hw2
    clear hw
    go_wp2
    go_ret2
    exact ⟨rfl, Below.refl _ _⟩
  | some v =>
   obtain ⟨x, hx, rfl, hv⟩ := value_wide hf0 hp1
   have HV := Lib.hid hv
   have hxl := (HOK.out x hx).1
   have hsl := splitP_len x.value
   have hol := openP_len _ (splitP x.value).2 (Nat.le_refl _)
   rw [hp1] at hl1
   unfold spotK at hl1
   simp only [spotV] at hl1
   have HSP := Lib.hid (split_any x.value w (by omega) HT.out)
   unfold SplitPost at HSP
   have HXL := Lib.hid hxl
   clear hf0 hp1 hl2 hv hx hxl
   obtain ⟨⟨set_, rest⟩, hss⟩ : ∃ q, splitP x.value = q := ⟨_, rfl⟩
   rw [hss] at HSP HV hsl hol
   have HSL := Lib.hid (And.intro hsl.1 (And.intro hsl.2 hol))
   clear hss hsl hol
   go_enter Tryz.func201, Tryz.ntmps201
   go_wp2_with fail
   refine HG0.out.mono ?_
   rintro e w2 ⟨rfl, hw⟩
   have hw2 := hw.symm
   subst hw2
   clear hw
   go_wp2_with fail
   refine HSP.out.mono ?_
   rintro e w3 ⟨rfl, hb3⟩
   have HB3 := Lib.hid hb3
   have hz3 := hb3.size
   clear hb3
   go_wp2_with fail
   refine (open_any rest w3 (by have h1 : rest.length ≤ x.value.length := HSL.out.2.1; have := HXL.out; omega)).mono ?_
   rintro e w4 ⟨rfl, hb4⟩
   have HB4 := Lib.hid (HB3.out.trans (hb4.mono hz3))
   have hz4 := HB4.out.size
   clear hb4
   go_wp2_with fail
   refine (meant_any set_ (openP rest) w4 (by have h1 : set_.length ≤ x.value.length := HSL.out.1; have := HXL.out; omega) (by have h1 : (openP rest).length ≤ rest.length := HSL.out.2.2; have h2 : rest.length ≤ x.value.length := HSL.out.2.1; have := HXL.out; omega) (HT.out.below HB4.out)).mono ?_
   rintro e w5 ⟨rfl, hb5⟩
   have HB5 := Lib.hid hb5
   clear hb5
   go_wp2
   go_ret2
   exact val_fin HV.out rfl (HB4.out.trans (HB5.out.mono hz4))
 | some x =>
  rw [hf0] at HG0
  have HV := Lib.hid (value_sec hf0)
  have hxl := (HOK.out x (first_mem hf0)).1
  have hsl := splitP_len x.value
  have hol := openP_len _ (splitP x.value).2 (Nat.le_refl _)
  have HSP := Lib.hid (split_any x.value w (by omega) HT.out)
  unfold SplitPost at HSP
  have HXL := Lib.hid hxl
  obtain ⟨xw, hxw⟩ : ∃ b, x.at_.wide = b := ⟨_, rfl⟩
  have hg0 := HG0.out
  simp only [Option.map_some, Option.getD_some, hxw, Option.isSome_some] at hg0
  have HG := Lib.hid hg0
  rw [hxw] at HV
  clear hf0 hl1 hl2 hxl HG0 hg0 hxw
  cases xw
  ·obtain ⟨base, hbase⟩ : ∃ b, x.value = b := ⟨_, rfl⟩
   rw [hbase] at HV HG HXL
   have HVAL := Lib.hid (show valueP ones name = some (base ++ restG ones name 63 1) from HV.out)
   have HBL := Lib.hid (show base.length ≤ 10000000 from HXL.out)
   clear hbase hsl hol
   go_enter Tryz.func201, Tryz.ntmps201
   go_wp2_with fail
   refine HG.out.mono ?_
   rintro e w2 ⟨rfl, hw⟩
   have hw2 := hw.symm
   subst hw2
   clear hw
   have HB0 := Lib.hid (Below.refl w.heap.size w)
   go_wp2
   go_loopw [18, 19, 20, 21, 22, 72] (fun oo i a b c d wr => ∃ (k : Nat) (acc : List UInt8) (xa xb xc xd : Value), a = xa ∧ b = xb ∧ c = xc ∧ d = xd ∧ 1 ≤ k ∧ k ≤ 64 ∧ i = .int .i64 (k : Int) ∧ oo = .string (ba acc) ∧ Hid (SecRel w ones name base k acc wr)) (fun _ i _ _ _ _ _ => 64 - (intOf i).toNat)
   case atStart => exact ⟨1, base, _, _, _, _, rfl, rfl, rfl, rfl, by omega, by omega, rfl, rfl, Lib.hid ⟨rfl, HB0.out, by have := HBL.out; omega⟩⟩
   case round =>
    obtain ⟨k, acc, xa, xb, xc, xd, rfl, rfl, rfl, rfl, hk1, hk2, rfl, rfl, HR⟩ := hrel
    have hszr := HR.out.bel.size
    have hal := HR.out.len
    have HBEX := Lib.hid HR.out.bel
    have HEQ := Lib.hid HR.out.eq
    have HLENX := Lib.hid (show acc.length ≤ 640000000 by omega)
    have HLK := Lib.hid hal
    clear hal HR
    by_cases hlt : k < 64
    ·have hki : (k : Int) < 64 := by omega
     have HGK := Lib.hid (get_any ones name (k : Int) bp bf wr (HP.out.below HBEX.out) hn (by omega) (by omega))
     unfold GetPost at HGK
     cases hfk : firstP ones name (k : Int) with
     | none =>
      rw [hfk] at HGK
      have HACC := Lib.hid (show acc = base ++ restG ones name 63 1 by
       have := HEQ.out
       rw [restG_none _ hfk, List.append_nil] at this
       exact this)
      clear hfk
      go_wp2_with fail
      refine HGK.out.mono ?_
      rintro e w8 ⟨rfl, hw⟩
      have hw2 := hw.symm
      subst hw2
      clear hw
      go_wp2
      go_ret2
      exact val_fin HVAL.out (by rw [HACC.out]) HBEX.out
     | some y =>
      rw [hfk] at HGK
      have hyl := (HOK.out y (first_mem hfk)).1
      have HEQ2 := Lib.hid (show (acc ++ if y.at_.wide = true then openP y.value else y.value) ++ restG ones name (64 - (k + 1)) ((k + 1 : Nat) : Int) = base ++ restG ones name 63 1 by
       have := HEQ.out
       rw [show 64 - k = (64 - (k + 1)) + 1 by omega, restG_some hfk] at this
       rw [List.append_assoc, ← this]
       rfl)
      have hopl := openP_len _ y.value (Nat.le_refl _)
      have HYL := Lib.hid hyl
      have HOPL := Lib.hid hopl
      obtain ⟨yw, hyw⟩ : ∃ b, y.at_.wide = b := ⟨_, rfl⟩
      have hgk := HGK.out
      simp only [Option.map_some, Option.getD_some, hyw, Option.isSome_some] at hgk
      have HGK2 := Lib.hid hgk
      rw [hyw] at HEQ2
      clear hfk hyl hopl hgk HGK hyw
      cases yw
      ·have hap := ba_append acc y.value
       have hln : ¬ 9223372036854775807 < (ba acc).size + (ba y.value).size := by
        rw [ba_size, ba_size]
        have := HLENX.out
        have := HYL.out
        omega
       have HE3 := Lib.hid (show (acc ++ y.value) ++ restG ones name (64 - (k + 1)) ((k + 1 : Nat) : Int) = base ++ restG ones name 63 1 from HEQ2.out)
       have HL3 := Lib.hid (show (acc ++ y.value).length ≤ (k + 1) * 10000000 by rw [List.length_append]; have := HLK.out; have := HYL.out; omega)
       go_wp2_with fail
       refine HGK2.out.mono ?_
       rintro e w8 ⟨rfl, hw⟩
       have hw2 := hw.symm
       subst hw2
       clear hw
       go_wp2
       go_roundw
       case rel => exact ⟨k + 1, acc ++ y.value, _, _, _, _, rfl, rfl, rfl, rfl, by omega, by omega, by go_num, rfl, Lib.hid ⟨HE3.out, HBEX.out, HL3.out⟩⟩
       case measure => simp [intOf] <;> omega
      ·have hap := ba_append acc (openP y.value)
       have hln : ¬ 9223372036854775807 < (ba acc).size + (ba (openP y.value)).size := by
        rw [ba_size, ba_size]
        have := HLENX.out
        have := HYL.out
        have := HOPL.out
        omega
       have HE3 := Lib.hid (show (acc ++ openP y.value) ++ restG ones name (64 - (k + 1)) ((k + 1 : Nat) : Int) = base ++ restG ones name 63 1 from HEQ2.out)
       have HL3 := Lib.hid (show (acc ++ openP y.value).length ≤ (k + 1) * 10000000 by rw [List.length_append]; have := HLK.out; have := HYL.out; have := HOPL.out; omega)
       have HOP := Lib.hid (open_any y.value wr (by have := HYL.out; omega))
       go_wp2_with fail
       refine HGK2.out.mono ?_
       rintro e w8 ⟨rfl, hw⟩
       have hw2 := hw.symm
       subst hw2
       clear hw
       go_wp2_with fail
       refine HOP.out.mono ?_
       rintro e w8 ⟨rfl, hb8⟩
       have HB8 := Lib.hid hb8
       clear hb8
       go_wp2
       go_roundw
       case rel => exact ⟨k + 1, acc ++ openP y.value, _, _, _, _, rfl, rfl, rfl, rfl, by omega, by omega, by go_num, rfl, Lib.hid ⟨HE3.out, HBEX.out.trans (HB8.out.mono hszr), HL3.out⟩⟩
       case measure => simp [intOf] <;> omega
    ·obtain rfl : k = 64 := by omega
     have HACC := Lib.hid (show acc = base ++ restG ones name 63 1 by
      have := HEQ.out
      rw [show restG ones name (64 - 64) ((64 : Nat) : Int) = [] from rfl, List.append_nil] at this
      exact this)
     go_wp2
     go_ret2
     exact val_fin HVAL.out (by rw [HACC.out]) HBEX.out
  ·obtain ⟨⟨set_, rest⟩, hss⟩ : ∃ q, splitP x.value = q := ⟨_, rfl⟩
   rw [hss] at HSP HV hsl hol
   have HSETL := Lib.hid (show set_.length ≤ 1000000000 by have h1 : set_.length ≤ x.value.length := hsl.1; have := HXL.out; omega)
   have HRL := Lib.hid (show rest.length ≤ 1000000000 by have h1 : rest.length ≤ x.value.length := hsl.2; have := HXL.out; omega)
   have HBL := Lib.hid (show (openP rest).length ≤ 10000000 by have h1 : rest.length ≤ x.value.length := hsl.2; have h2 : (openP rest).length ≤ rest.length := hol; have := HXL.out; omega)
   have HOPR := Lib.hid (fun W => open_any rest W HRL.out)
   obtain ⟨base, hbase⟩ : ∃ b, openP rest = b := ⟨_, rfl⟩
   have HVAL := Lib.hid (show valueP ones name = some (meantP set_ (base ++ restG ones name 63 1)) by rw [← hbase]; exact HV.out)
   rw [hbase] at HBL
   simp only [hbase] at HOPR
   clear hbase hsl hol hss
   go_enter Tryz.func201, Tryz.ntmps201
   go_wp2_with fail
   refine HG.out.mono ?_
   rintro e w2 ⟨rfl, hw⟩
   have hw2 := hw.symm
   subst hw2
   clear hw
   go_wp2_with fail
   refine HSP.out.mono ?_
   rintro e w3 ⟨rfl, hb3⟩
   have HB3 := Lib.hid hb3
   have hz3 := hb3.size
   clear hb3
   go_wp2_with fail
   refine (HOPR.out w3).mono ?_
   rintro e w4 ⟨rfl, hb4⟩
   have HB0 := Lib.hid (HB3.out.trans (hb4.mono hz3))
   clear hb4
   go_wp2
   go_loopw [18, 19, 20, 21, 22, 72] (fun oo i a b c d wr => ∃ (k : Nat) (acc : List UInt8) (xa xb xc xd : Value), a = xa ∧ b = xb ∧ c = xc ∧ d = xd ∧ 1 ≤ k ∧ k ≤ 64 ∧ i = .int .i64 (k : Int) ∧ oo = .string (ba acc) ∧ Hid (SecRel w ones name base k acc wr)) (fun _ i _ _ _ _ _ => 64 - (intOf i).toNat)
   case atStart => exact ⟨1, base, _, _, _, _, rfl, rfl, rfl, rfl, by omega, by omega, rfl, rfl, Lib.hid ⟨rfl, HB0.out, by have := HBL.out; omega⟩⟩
   case round =>
    obtain ⟨k, acc, xa, xb, xc, xd, rfl, rfl, rfl, rfl, hk1, hk2, rfl, rfl, HR⟩ := hrel
    have hszr := HR.out.bel.size
    have hal := HR.out.len
    have HBEX := Lib.hid HR.out.bel
    have HEQ := Lib.hid HR.out.eq
    have HLENX := Lib.hid (show acc.length ≤ 640000000 by omega)
    have HLK := Lib.hid hal
    clear hal HR
    by_cases hlt : k < 64
    ·have hki : (k : Int) < 64 := by omega
     have HGK := Lib.hid (get_any ones name (k : Int) bp bf wr (HP.out.below HBEX.out) hn (by omega) (by omega))
     unfold GetPost at HGK
     cases hfk : firstP ones name (k : Int) with
     | none =>
      rw [hfk] at HGK
      have HACC := Lib.hid (show acc = base ++ restG ones name 63 1 by
       have := HEQ.out
       rw [restG_none _ hfk, List.append_nil] at this
       exact this)
      clear hfk
      go_wp2_with fail
      refine HGK.out.mono ?_
      rintro e w8 ⟨rfl, hw⟩
      have hw2 := hw.symm
      subst hw2
      clear hw
      go_wp2_with fail
      refine (meant_any set_ acc wr HSETL.out (by have := HLENX.out; omega) (HT.out.below HBEX.out)).mono ?_
      rintro e w9 ⟨rfl, hb9⟩
      have HB9 := Lib.hid hb9
      clear hb9
      go_wp2
      go_ret2
      exact val_fin HVAL.out (by rw [HACC.out]) (HBEX.out.trans (HB9.out.mono hszr))
     | some y =>
      rw [hfk] at HGK
      have hyl := (HOK.out y (first_mem hfk)).1
      have HEQ2 := Lib.hid (show (acc ++ if y.at_.wide = true then openP y.value else y.value) ++ restG ones name (64 - (k + 1)) ((k + 1 : Nat) : Int) = base ++ restG ones name 63 1 by
       have := HEQ.out
       rw [show 64 - k = (64 - (k + 1)) + 1 by omega, restG_some hfk] at this
       rw [List.append_assoc, ← this]
       rfl)
      have hopl := openP_len _ y.value (Nat.le_refl _)
      have HYL := Lib.hid hyl
      have HOPL := Lib.hid hopl
      obtain ⟨yw, hyw⟩ : ∃ b, y.at_.wide = b := ⟨_, rfl⟩
      have hgk := HGK.out
      simp only [Option.map_some, Option.getD_some, hyw, Option.isSome_some] at hgk
      have HGK2 := Lib.hid hgk
      rw [hyw] at HEQ2
      clear hfk hyl hopl hgk HGK hyw
      cases yw
      ·have hap := ba_append acc y.value
       have hln : ¬ 9223372036854775807 < (ba acc).size + (ba y.value).size := by
        rw [ba_size, ba_size]
        have := HLENX.out
        have := HYL.out
        omega
       have HE3 := Lib.hid (show (acc ++ y.value) ++ restG ones name (64 - (k + 1)) ((k + 1 : Nat) : Int) = base ++ restG ones name 63 1 from HEQ2.out)
       have HL3 := Lib.hid (show (acc ++ y.value).length ≤ (k + 1) * 10000000 by rw [List.length_append]; have := HLK.out; have := HYL.out; omega)
       go_wp2_with fail
       refine HGK2.out.mono ?_
       rintro e w8 ⟨rfl, hw⟩
       have hw2 := hw.symm
       subst hw2
       clear hw
       go_wp2
       go_roundw
       case rel => exact ⟨k + 1, acc ++ y.value, _, _, _, _, rfl, rfl, rfl, rfl, by omega, by omega, by go_num, rfl, Lib.hid ⟨HE3.out, HBEX.out, HL3.out⟩⟩
       case measure => simp [intOf] <;> omega
      ·have hap := ba_append acc (openP y.value)
       have hln : ¬ 9223372036854775807 < (ba acc).size + (ba (openP y.value)).size := by
        rw [ba_size, ba_size]
        have := HLENX.out
        have := HYL.out
        have := HOPL.out
        omega
       have HE3 := Lib.hid (show (acc ++ openP y.value) ++ restG ones name (64 - (k + 1)) ((k + 1 : Nat) : Int) = base ++ restG ones name 63 1 from HEQ2.out)
       have HL3 := Lib.hid (show (acc ++ openP y.value).length ≤ (k + 1) * 10000000 by rw [List.length_append]; have := HLK.out; have := HYL.out; have := HOPL.out; omega)
       have HOP := Lib.hid (open_any y.value wr (by have := HYL.out; omega))
       go_wp2_with fail
       refine HGK2.out.mono ?_
       rintro e w8 ⟨rfl, hw⟩
       have hw2 := hw.symm
       subst hw2
       clear hw
       go_wp2_with fail
       refine HOP.out.mono ?_
       rintro e w8 ⟨rfl, hb8⟩
       have HB8 := Lib.hid hb8
       clear hb8
       go_wp2
       go_roundw
       case rel => exact ⟨k + 1, acc ++ openP y.value, _, _, _, _, rfl, rfl, rfl, rfl, by omega, by omega, by go_num, rfl, Lib.hid ⟨HE3.out, HBEX.out.trans (HB8.out.mono hszr), HL3.out⟩⟩
       case measure => simp [intOf] <;> omega
    ·obtain rfl : k = 64 := by omega
     have HACC := Lib.hid (show acc = base ++ restG ones name 63 1 by
      have := HEQ.out
      rw [show restG ones name (64 - 64) ((64 : Nat) : Int) = [] from rfl, List.append_nil] at this
      exact this)
     go_wp2_with fail
     refine (meant_any set_ acc wr HSETL.out (by have := HLENX.out; omega) (HT.out.below HBEX.out)).mono ?_
     rintro e w9 ⟨rfl, hb9⟩
     have HB9 := Lib.hid hb9
     clear hb9
     go_wp2
     go_ret2
     exact val_fin HVAL.out (by rw [HACC.out]) (HBEX.out.trans (HB9.out.mono hszr))
end Go.Proofs.YthidbmeaccpjdaaGreatDoor
end
section
namespace Go.Proofs.YthidbmeaccpjdaaGreatDoor
open Go.RowKit
set_option linter.unusedVariables false
def seenF (ones : List One1) (x : List UInt8) : Option Value := if x ∈ namesP ones then some (.bool true) else none
theorem parF_snoc (ones : List One1) (o : One1) (y : Spot3) : parF (ones ++ [o]) y = match parF ones y with
  | some v => some v
  | none => if y = o.at_ then some (.string (ba o.value)) else none := by
 unfold parF
 rw [List.find?_append]
 cases h : ones.find? (fun p => decide (p.at_ = y)) with
 | some p => rfl
 | none =>
  show (([o].find? fun p => decide (p.at_ = y)).map fun p => Value.string (ba p.value)) = _
  by_cases e : o.at_ = y
  ·have e2 : y = o.at_ := e.symm
   simp [e]
  ·have e2 : ¬ y = o.at_ := fun h => e h.symm
   simp [e, e2]
theorem firstP_snoc (ones : List One1) (o : One1) (n : List UInt8) (s : Int) : firstP (ones ++ [o]) n s = match firstP ones n s with
  | some v => some v
  | none => if o.at_.name = n ∧ o.at_.section_ = s then some o else none := by
 unfold firstP
 rw [List.find?_append]
 cases h : ones.find? (fun x => decide (x.at_.name = n) && decide (x.at_.section_ = s)) with
 | some p => rfl
 | none =>
  show ([o].find? fun x => decide (x.at_.name = n) && decide (x.at_.section_ = s)) = _
  by_cases e : o.at_.name = n ∧ o.at_.section_ = s
  ·simp [e]
  ·rw [if_neg e]
   rw [List.find?_cons]
   have : (decide (o.at_.name = n) && decide (o.at_.section_ = s)) = false := by
    rw [Bool.eq_false_iff]
    intro h2
    rw [Bool.and_eq_true, decide_eq_true_iff, decide_eq_true_iff] at h2
    exact e h2
   rw [this]
   rfl
theorem firF_snoc (ones : List One1) (o : One1) (y : Spot3) : firF (ones ++ [o]) y = match firF ones y with
  | some v => some v
  | none => if y = ⟨o.at_.name, o.at_.section_, false⟩ ∧ 0 ≤ o.at_.section_ then some (Value.bool o.at_.wide) else none := by
 unfold firF
 by_cases h : y.wide = false ∧ 0 ≤ y.section_
 ·rw [if_pos h, if_pos h, firstP_snoc]
  cases hf : firstP ones y.name y.section_ with
  | some p => rfl
  | none =>
   show ((if o.at_.name = y.name ∧ o.at_.section_ = y.section_ then some o else none).map fun o => Value.bool o.at_.wide) = _
   by_cases e : o.at_.name = y.name ∧ o.at_.section_ = y.section_
   ·have e2 : y = ⟨o.at_.name, o.at_.section_, false⟩ ∧ 0 ≤ o.at_.section_ := by
     refine ⟨?_, by rw [e.2]; exact h.2⟩
     cases y with
     | mk a b c =>
      obtain ⟨e1, e2⟩ := e
      have e3 : c = false := h.1
      subst e3
      show (⟨a, b, false⟩ : Spot3) = _
      rw [e1, e2]
    rw [if_pos e]
    simp only [Option.map_none]
    rw [if_pos e2]
    rfl
   ·have e2 : ¬ (y = ⟨o.at_.name, o.at_.section_, false⟩ ∧ 0 ≤ o.at_.section_) := fun h2 => e (by rw [h2.1]; exact ⟨rfl, rfl⟩)
    rw [if_neg e]
    simp only [Option.map_none]
    rw [if_neg e2]
 ·rw [if_neg h, if_neg h]
  have e2 : ¬ (y = ⟨o.at_.name, o.at_.section_, false⟩ ∧ 0 ≤ o.at_.section_) := fun h2 => h (by rw [h2.1]; exact ⟨rfl, h2.2⟩)
  show none = (if y = ⟨o.at_.name, o.at_.section_, false⟩ ∧ 0 ≤ o.at_.section_ then some (Value.bool o.at_.wide) else none)
  rw [if_neg e2]
theorem namesP_snoc (ones : List One1) (o : One1) : namesP (ones ++ [o]) = if o.at_.name ∈ namesP ones then namesP ones else namesP ones ++ [o.at_.name] := by
 unfold namesP
 rw [List.foldl_append]
 rfl
theorem onesP_snoc (rs : List (List Tok)) (r : List Tok) : onesP (rs ++ [r]) = onesP rs ++ (if (pairP r).1 = [] then [] else [⟨whereP (pairP r).1, (pairP r).2⟩]) := by
 unfold onesP
 rw [List.map_append, List.filterMap_append]
 congr 1
 by_cases h : (pairP r).1 = []
 ·simp [h]
 ·simp [h]
section
variable {w w' : World} {ones : List One1} {o : One1} {b c : Nat}
theorem par_keep (h : MapL spotK w b (parF ones) c) {v : Value} (hv : parF ones o.at_ = some v) : MapL spotK w b (parF (ones ++ [o])) c := by
 refine h.congr fun y _ => ?_
 rw [parF_snoc]
 cases hy : parF ones y with
 | some u => rfl
 | none =>
  have : ¬ y = o.at_ := fun e => by rw [e, hv] at hy; cases hy
  show (if y = o.at_ then _ else none) = none
  rw [if_neg this]
theorem par_put {c' : Nat} (h : MapL spotK w b (updK (parF ones) o.at_ (.string (ba o.value))) c') (hv : parF ones o.at_ = none) : MapL spotK w b (parF (ones ++ [o])) c' := by
 refine h.congr fun y _ => ?_
 rw [parF_snoc]
 by_cases e : y = o.at_
 ·subst e
  rw [hv, updK_same]
  simp
 ·rw [updK_other _ _ e]
  cases hy : parF ones y with
  | some u => rfl
  | none =>
   show (if y = o.at_ then _ else none) = none
   rw [if_neg e]
theorem fir_skip (h : MapL spotK w b (firF ones) c) (hs : ¬ 0 ≤ o.at_.section_) : MapL spotK w b (firF (ones ++ [o])) c := by
 refine h.congr fun y _ => ?_
 rw [firF_snoc]
 cases hy : firF ones y with
 | some u => rfl
 | none =>
  show (if y = ⟨o.at_.name, o.at_.section_, false⟩ ∧ 0 ≤ o.at_.section_ then _ else none) = none
  rw [if_neg fun h2 => hs h2.2]
theorem fir_keep (h : MapL spotK w b (firF ones) c) {v : Value} (hv : firF ones ⟨o.at_.name, o.at_.section_, false⟩ = some v) : MapL spotK w b (firF (ones ++ [o])) c := by
 refine h.congr fun y _ => ?_
 rw [firF_snoc]
 cases hy : firF ones y with
 | some u => rfl
 | none =>
  show (if y = ⟨o.at_.name, o.at_.section_, false⟩ ∧ 0 ≤ o.at_.section_ then _ else none) = none
  rw [if_neg fun h2 => by rw [h2.1, hv] at hy; cases hy]
theorem fir_put {c' : Nat} (h : MapL spotK w b (updK (firF ones) ⟨o.at_.name, o.at_.section_, false⟩ (.bool o.at_.wide)) c') (hv : firF ones ⟨o.at_.name, o.at_.section_, false⟩ = none) (hs : 0 ≤ o.at_.section_) : MapL spotK w b (firF (ones ++ [o])) c' := by
 refine h.congr fun y _ => ?_
 rw [firF_snoc]
 by_cases e : y = ⟨o.at_.name, o.at_.section_, false⟩
 ·subst e
  rw [hv, updK_same]
  simp [hs]
 ·rw [updK_other _ _ e]
  cases hy : firF ones y with
  | some u => rfl
  | none =>
   show (if y = ⟨o.at_.name, o.at_.section_, false⟩ ∧ 0 ≤ o.at_.section_ then _ else none) = none
   rw [if_neg fun h2 => e h2.1]
theorem seen_keep (h : MapL strK w b (seenF ones) c) (hv : o.at_.name ∈ namesP ones) : MapL strK w b (seenF (ones ++ [o])) c := by
 refine h.congr fun y _ => ?_
 unfold seenF
 rw [namesP_snoc, if_pos hv]
theorem seen_put {c' : Nat} (h : MapL strK w b (updK (seenF ones) o.at_.name (.bool true)) c') (hv : ¬ o.at_.name ∈ namesP ones) : MapL strK w b (seenF (ones ++ [o])) c' := by
 refine h.congr fun y _ => ?_
 by_cases e : y = o.at_.name
 ·subst e
  rw [updK_same]
  unfold seenF
  rw [namesP_snoc, if_neg hv, if_pos (by simp)]
 ·rw [updK_other _ _ e]
  unfold seenF
  rw [namesP_snoc, if_neg hv]
  by_cases h2 : y ∈ namesP ones
  ·rw [if_pos h2, if_pos (by simp [h2])]
  ·rw [if_neg h2, if_neg (by simp [h2, e])]
end
end Go.Proofs.YthidbmeaccpjdaaGreatDoor
end
