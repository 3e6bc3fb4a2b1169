/- Layer 9, plain: a field that is written folded is read back. Law 15: the contract of marked. Layer 9: the contract of Put (printed by gen_put. -/
import Derived.Lib.SlBytesConst
import Derived.Test.YthidbmeaccpjdaaGreatDoorM33
import Derived.Test.YthidbmeaccpjdaaGreatDoorM17
import Derived.Test.YthidbmeaccpjdaaGreatDoorM34
import Derived.Test.YthidbmeaccpjdaaGreatDoorM11
import Derived.Test.YthidbmeaccpjdaaGreatDoorM15
namespace Go.Proofs.YthidbmeaccpjdaaGreatDoor
open Go.RowKit
set_option linter.unusedVariables false
set_option maxHeartbeats 4000000
theorem pieceP_pos : ∀ v : List UInt8, 1 ≤ pieceP v
 | [] => Nat.le_refl _
 | [_] => Nat.le_refl _
 | c :: d :: r => by
  unfold pieceP
  split
  ·exact Nat.le_refl _
  ·omega
theorem fold_cons {f n : Nat} {b : Bool} {v : List UInt8} (hv : v ≠ []) : foldG (f + 1) b n v =
  if b = false ∧ 78 < n + pieceP v then [13, 10] ++ v.take (pieceP v) ++ foldG f false (pieceP v) (v.drop (pieceP v))
  else v.take (pieceP v) ++ foldG f false (n + pieceP v) (v.drop (pieceP v)) := by
 conv => lhs; unfold foldG
 rw [if_neg hv]
theorem fold_nil (f : Nat) (b : Bool) (n : Nat) : foldG f b n [] = [] := by
 cases f with
 | zero => rfl
 | succ f => unfold foldG; rw [if_pos rfl]
theorem foldG_len : ∀ (f : Nat) (b : Bool) (n : Nat) (v : List UInt8), (foldG f b n v).length ≤ 3 * v.length
 | f, b, n, [] => by rw [fold_nil]; simp
 | 0, b, n, c :: r => by simp [foldG]
 | f + 1, b, n, c :: r => by
  have hp := pieceP_pos (c :: r)
  have ih := fun n' => foldG_len f false n' ((c :: r).drop (pieceP (c :: r)))
  have h1 : (c :: r).length = ((c :: r).take (pieceP (c :: r))).length + ((c :: r).drop (pieceP (c :: r))).length := by rw [← List.length_append, List.take_append_drop]
  have h2 : 1 ≤ ((c :: r).take (pieceP (c :: r))).length := by rw [List.length_take, List.length_cons]; omega
  rw [fold_cons (by simp)]
  split
  ·have := ih (pieceP (c :: r))
   simp only [List.length_append]
   rw [show ([13, 10] : List UInt8).length = 2 from rfl]
   omega
  ·have := ih (n + pieceP (c :: r))
   simp only [List.length_append]
   omega
theorem wpList_pushLits {ops : Array Oper} {rest : List Oper} {o : Oper} {a : Act} {W : World} {Q : Exit → Act → World → Prop} {B n : Nat} {t : List UInt8} {cs : Array Value} {fr : Nat × Nat} {v : Value} {l : List UInt8} (hown : OwnBytes W B v l) (hB : B ≤ W.heap.size)
  (hcs : cs.toList = Lib.byteCells t) (hn : t.length = n) (hlen : l.length < 1099511627776) (htl : t.length < 1000) (hgd : o.guard = none) (s x : Operand) (c : Nat)
  (ho : o.op = .call { callee := .builtin .append, args := #[s, x], argTypes := #[62, 62] })
  (hs : a.eval s = v) (hx : a.eval x = .slice (some ⟨W.heap.size, 0, none⟩) n c)
  (h : ∀ v' w', OwnBytes w' B v' (l ++ t) → W.grownBy w' v.ownBlock → wpList Tryz.prog ops Q rest (a.put o.dst v') w') :
  wpList Tryz.prog ops Q (o :: rest) a (W.alloc (.cells cs 5 fr)) := by
 obtain ⟨i0, hi, hz0, hz1, hz2⟩ := info_parts info_u8
 have hl : (Lib.byteCells l).length = l.length := Lib.byteCells_length l
 subst hn
 refine wpList_append_own_at _ hgd s x 62 ho B 5 i0 _ 1 1 Tryz.underlying62 hi hz0 hz1 hz2 rfl (by omega) v l.length (Lib.byteCells l) hs (World.ownsRow.alloc hown _) ⟨W.heap.size, 0, none⟩ t.length c (Lib.byteCells t) hx (by rw [Lib.byteCells_length]; omega) (World.news_of_block (cs := cs) (t := 5) (fr := fr) (by rw [(MapKept.heap_alloc W _).1]) |> fun h => by simpa [hcs] using h) ?_ (by simp only [maxLen]; omega) (by omega) (by simp; omega) ?_
 ·exact Lib.byteCells_one t
 ·intro v' w' h1 h2 _ h4
  refine h v' w' ?_ ?_
  ·unfold OwnBytes
   rw [Lib.byteCells_append, List.length_append]
   exact h1
  ·have h5 := World.grownBy_alloc W (.cells cs 5 fr) v.ownBlock
   exact ⟨h2.os.trans h5.os, h2.tape.trans h5.tape, h2.output.trans h5.output, Nat.le_trans h5.size h2.size, fun k hk hne => (h2.block k (by simp; omega) hne).trans (h5.block k hk hne)⟩
theorem markP_len : ∀ l, (markP l).length ≤ 5 * l.length
 | [] => Nat.le_refl _
 | c :: r => by
  have ih := markP_len r
  unfold markP
  rw [List.length_append, List.length_cons]
  split
  ·simp; omega
  ·split
   ·simp; omega
   ·simp; omega
theorem mark_amp (r : List UInt8) : markP (38 :: r) = [38, 97, 109, 112, 59] ++ markP r := rfl
theorem mark_lt (r : List UInt8) : markP (60 :: r) = [38, 108, 116, 59] ++ markP r := rfl
theorem mark_one {c : UInt8} (h1 : c ≠ 38) (h2 : c ≠ 60) (r : List UInt8) : markP (c :: r) = [c] ++ markP r := by
 conv => lhs; unfold markP
 rw [if_neg h1, if_neg h2]
def MkRel (w : World) (l : List UInt8) (k : Nat) (v : Value) (wr : World) : Prop := ∃ acc, OwnBytes wr w.heap.size v acc ∧ acc ++ markP (l.drop k) = markP l ∧ acc.length ≤ 5 * k ∧ Below w.heap.size w wr
set_option maxRecDepth 100000 in
theorem marked_any (l : List UInt8) (w : World) (hl : l.length ≤ 1000000000) :
  Calls Tryz.prog 27 #[.string (ba l)] w (StrB w (markP l)) := by
 obtain ⟨n, hn⟩ : ∃ n, l.length = n := ⟨_, rfl⟩
 have HL := Lib.hid hn
 obtain ⟨s, hs⟩ : ∃ s, ba l = s := ⟨_, rfl⟩
 have HS := Lib.hid hs
 have HZ := Lib.hid (show s.size = n by rw [← hs, ba_size, hn])
 have hsz : (s.size : Int) = n := by rw [HZ.out]
 rw [hs]
 rw [hn] at hl
 clear hs hn
 go_enter Tryz.func27, Tryz.ntmps27
 go_wp2
 go_loopw [3, 4] (fun v i wr => ∃ (k : Nat), k ≤ n ∧ i = .int .i64 (k : Int) ∧ Hid (MkRel w l k v wr)) (fun _ i _ => n - (intOf i).toNat)
 case atStart => exact ⟨0, Nat.zero_le _, rfl, Lib.hid ⟨[], OwnBytes.nil_ _ _, rfl, Nat.le_refl _, Below.refl _ _⟩⟩
 case round =>
  obtain ⟨k, hk, rfl, HR⟩ := hrel
  obtain ⟨acc, hown, hacc, hal, hbel⟩ := HR.out
  have hB := hbel.size
  by_cases hlt : k < n
  ·have hk2 : (k : Int) < (n : Int) := by omega
   have hk0 : (0 : Int) ≤ (k : Int) := by omega
   have hks : k < s.size := by rw [HZ.out]; omega
   have hkl : k < l.length := by rw [HL.out]; omega
   have hget : s[k] = l[k] := by
    have h := HS.out
    subst h
    rfl
   obtain ⟨c, hc⟩ : ∃ c, l[k] = c := ⟨_, rfl⟩
   replace hget := hget.trans hc
   have hdr : l.drop k = c :: l.drop (k + 1) := by rw [← hc]; exact List.drop_eq_getElem_cons hkl
   obtain ⟨x, hx⟩ : ∃ x : Int, (c.toNat : Int) = x := ⟨_, rfl⟩
   have hgi : ((s[k]).toNat : Int) = x := by rw [hget]; exact hx
   have HX := Lib.hid hx
   have hx0 : 0 ≤ x := by omega
   have hx1 : x ≤ 255 := by have := c.toNat_lt; omega
   have HOWN := Lib.hid hown
   have HBEL := Lib.hid hbel
   have HAL := Lib.hid (show acc.length < 1099511627776 by omega)
   have HYB := Lib.hid (show x = (c.toNat : Int) from hx.symm)
   have HNX := Lib.hid (show ∀ t : List UInt8, t.length ≤ 5 → markP (c :: l.drop (k + 1)) = t ++ markP (l.drop (k + 1)) → ∀ v2 w2, OwnBytes w2 w.heap.size v2 (acc ++ t) → Below w.heap.size w w2 → MkRel w l (k + 1) v2 w2 from fun t ht h v2 w2 h1 h2 =>
    ⟨acc ++ t, h1, by rw [← hacc, hdr, h]; simp, by rw [List.length_append]; omega, h2⟩)
   clear HR hown hacc hal hbel hc hx hget hdr hkl
   by_cases e1 : x = 38
   ·have g1 : (x == 38) = true := by simpa using e1
    have HC := Lib.hid (show c = 38 from u8_int_eq'.1 (by rw [HX.out]; exact e1))
    have HN := Lib.hid (HNX.out [38, 97, 109, 112, 59] (by simp) (by rw [HC.out]; exact mark_amp _))
    have hcv := Lib.run_convert_bytes_const (P := Tryz.prog) wr 62 5 #[.int .u8 38, .int .u8 97, .int .u8 109, .int .u8 112, .int .u8 59] 5 5 Tryz.underlying62 Tryz.underlying5
    clear e1
    go_wp2_with (at_builtin; go_must (refine wpList_pushLits (t := [38, 97, 109, 112, 59]) HOWN.out hB rfl rfl HAL.out (by simp) rfl (.tmp 15) (.tmp 17) 5 rfl rfl rfl ?_); intro v2 w2 h1 h2; (have H1 := Lib.hid h1; have H2 := Lib.hid h2; clear h1 h2))
    go_roundw
    case rel => exact ⟨k + 1, by omega, by go_num, Lib.hid (HN.out _ _ H1.out (HBEL.out.grown H2.out hB fun g e => (World.ownsRow.lt HOWN.out g e).1))⟩
    case measure => simp [intOf] <;> omega
   ·have g1 : (x == 38) = false := by simpa using e1
    by_cases e2 : x = 60
    ·have g2 : (x == 60) = true := by simpa using e2
     have HC := Lib.hid (show c = 60 from u8_int_eq'.1 (by rw [HX.out]; exact e2))
     have HN := Lib.hid (HNX.out [38, 108, 116, 59] (by simp) (by rw [HC.out]; exact mark_lt _))
     have hcv := Lib.run_convert_bytes_const (P := Tryz.prog) wr 62 5 #[.int .u8 38, .int .u8 108, .int .u8 116, .int .u8 59] 4 4 Tryz.underlying62 Tryz.underlying5
     clear e1 e2
     go_wp2_with (at_builtin; go_must (refine wpList_pushLits (t := [38, 108, 116, 59]) HOWN.out hB rfl rfl HAL.out (by simp) rfl (.tmp 23) (.tmp 25) 4 rfl rfl rfl ?_); intro v2 w2 h1 h2; (have H1 := Lib.hid h1; have H2 := Lib.hid h2; clear h1 h2))
     go_roundw
     case rel => exact ⟨k + 1, by omega, by go_num, Lib.hid (HN.out _ _ H1.out (HBEL.out.grown H2.out hB fun g e => (World.ownsRow.lt HOWN.out g e).1))⟩
     case measure => simp [intOf] <;> omega
    ·have g2 : (x == 60) = false := by simpa using e2
     have HN := Lib.hid (HNX.out [c] (by simp) (mark_one (fun h => e1 (by rw [← HX.out, h]; rfl)) (fun h => e2 (by rw [← HX.out, h]; rfl)) _))
     clear e1 e2
     go_wp2_with (at_builtin; go_must (refine wpList_pushByte (y := c) HOWN.out hB HYB.out HAL.out rfl (.tmp 27) (.tmp 31) 1 rfl rfl rfl ?_); intro v2 w2 h1 h2 h3; (have H1 := Lib.hid h1; have H2 := Lib.hid h2; clear h1 h2 h3))
     go_roundw
     case rel => exact ⟨k + 1, by omega, by go_num, Lib.hid (HN.out _ _ H1.out (HBEL.out.grown H2.out hB fun g e => (World.ownsRow.lt HOWN.out g e).1))⟩
     case measure => simp [intOf] <;> omega
  ·obtain rfl : k = n := by omega
   have hown2 : OwnBytes wr w.heap.size u3 (markP l) := by
    rw [List.drop_of_length_le (by rw [HL.out]; exact Nat.le_refl _), show markP [] = [] from rfl, List.append_nil] at hacc
    rw [← hacc]
    exact hown
   have hconv := hown2.str
   have HBEL := Lib.hid hbel
   clear hown2 hown hacc hal hbel HR
   go_wp2
   go_ret
   exact ⟨rfl, HBEL.out⟩
def foldL (b : Bool) (n : Nat) (v : List UInt8) : List UInt8 := foldG v.length b n v
theorem foldG_fuel : ∀ (f g : Nat) (b : Bool) (n : Nat) (v : List UInt8), v.length ≤ f → v.length ≤ g → foldG f b n v = foldG g b n v
 | f, g, b, n, [], _, _ => by rw [fold_nil, fold_nil]
 | 0, g, b, n, c :: r, h, _ => by simp at h
 | f + 1, 0, b, n, c :: r, _, h => by simp at h
 | f + 1, g + 1, b, n, c :: r, h, h2 => by
  have hp := pieceP_pos (c :: r)
  have ih := fun n' => foldG_fuel f g false n' ((c :: r).drop (pieceP (c :: r))) (by rw [List.length_drop]; omega) (by rw [List.length_drop]; omega)
  rw [fold_cons (by simp), fold_cons (by simp), ih, ih]
theorem foldL_cons {b : Bool} {n : Nat} {v : List UInt8} (hv : v ≠ []) : foldL b n v =
  if b = false ∧ 78 < n + pieceP v then [13, 10] ++ v.take (pieceP v) ++ foldL false (pieceP v) (v.drop (pieceP v))
  else v.take (pieceP v) ++ foldL false (n + pieceP v) (v.drop (pieceP v)) := by
 obtain ⟨m, hm⟩ : ∃ m, v.length = m + 1 := ⟨v.length - 1, by cases v with | nil => exact absurd rfl hv | cons c r => simp⟩
 have hp := pieceP_pos v
 unfold foldL
 rw [hm, fold_cons hv]
 have e := fun n' => foldG_fuel m (v.drop (pieceP v)).length false n' (v.drop (pieceP v)) (by rw [List.length_drop]; omega) (Nat.le_refl _)
 rw [e, e]
theorem foldL_nil (b : Bool) (n : Nat) : foldL b n [] = [] := rfl
theorem pieceP_le {v : List UInt8} (hv : v ≠ []) : pieceP v ≤ v.length := by
 have key : ∀ v : List UInt8, pieceP v ≤ v.length ∨ v = [] := by
  intro v
  induction v with
  | nil => exact .inr rfl
  | cons c r ih =>
   cases r with
   | nil => exact .inl (Nat.le_refl _)
   | cons d r =>
    refine .inl ?_
    unfold pieceP
    split
    ·simp
    ·have := ih.resolve_right (by simp)
     simp only [List.length_cons] at this ⊢
     omega
 exact (key v).resolve_right hv
def PcRel (v : List UInt8) (i : Nat) : Prop := pieceP v = i + pieceP (v.drop i)
theorem pc_drop {v : List UInt8} {i : Nat} (hi : i < v.length) : ∃ c, v.drop i = c :: v.drop (i + 1) := ⟨_, List.drop_eq_getElem_cons hi⟩
theorem pc_last {v : List UInt8} {i : Nat} (hi : i + 1 = v.length) (h : PcRel v i) : pieceP v = i + 1 := by
 obtain ⟨c, hc⟩ := pc_drop (v := v) (i := i) (by omega)
 rw [show v.drop (i + 1) = [] from List.drop_of_length_le (by omega)] at hc
 rw [h, hc]
 rfl
theorem pc_stop {v : List UInt8} {i : Nat} (hi : i + 1 < v.length) (h : PcRel v i) (h1 : goesP (v.drop (i + 1)) = true) (h2 : goesP (v.drop i) = false) : pieceP v = i + 1 := by
 obtain ⟨c, hc⟩ := pc_drop (v := v) (i := i) (by omega)
 obtain ⟨d, hd⟩ := pc_drop (v := v) (i := i + 1) hi
 rw [h, hc, hd]
 rw [hd] at h1
 rw [hc] at h2
 unfold pieceP
 rw [if_pos ⟨h1, h2⟩]
theorem pc_go {v : List UInt8} {i : Nat} (hi : i + 1 < v.length) (h : PcRel v i) (h1 : goesP (v.drop (i + 1)) = false ∨ goesP (v.drop i) = true) : PcRel v (i + 1) := by
 obtain ⟨c, hc⟩ := pc_drop (v := v) (i := i) (by omega)
 obtain ⟨d, hd⟩ := pc_drop (v := v) (i := i + 1) hi
 unfold PcRel at h ⊢
 rw [h, hc, hd]
 conv => lhs; unfold pieceP
 rw [hd, hc] at h1
 rw [if_neg]
 ·omega
 ·rintro ⟨h2, h3⟩
  rcases h1 with h1 | h1
  ·exact absurd (h1.symm.trans h2) (by decide)
  ·exact absurd (h3.symm.trans h1) (by decide)
theorem airP_length (l : List UInt8) : (airP l).length = l.length := List.length_map _
theorem trimS_lenE (l : List UInt8) : (Lib.trimS l blanksP).length ≤ l.length := by
 unfold Lib.trimS Lib.trimLeftS
 refine Nat.le_trans (List.dropWhile_suffix _).length_le ?_
 exact trimR_len l
structure PuRel (w w2 : World) (name V : List UInt8) (acc : List UInt8) (n : Nat) (b : Bool) (v : List UInt8) (wr : World) : Prop where
 bld : Bld wr w2.heap.size w2.heap.size acc
 bel : Below w.heap.size w wr
 siz : w2.heap.size < wr.heap.size
 eq : name ++ [58, 32] ++ foldV name V = acc ++ foldL b n v
 num : n + v.length ≤ name.length + 2 + V.length
 len : v.length ≤ V.length
theorem PuRel.acc_le {w w2 wr : World} {name V acc v : List UInt8} {n : Nat} {b : Bool} (h : PuRel w w2 name V acc n b v wr) : acc.length ≤ name.length + 2 + 3 * V.length := by
 have h1 := congrArg List.length h.eq
 have h2 := foldG_len V.length true (name.length + 2) V
 rw [List.length_append, List.length_append, List.length_append] at h1
 unfold foldV at h1
 simp only [List.length_cons, List.length_nil] at h1
 omega
set_option maxRecDepth 100000 in
theorem hput_any (name value : List UInt8) (w : World) (hn : name.length ≤ 100000000) (hv : value.length ≤ 100000000) :
  Calls Tryz.prog 29 #[.string (ba name), .string (ba value)] w (StrB w (putP name value)) := by
 have HRI := Lib.hid (hright_any name w (by omega))
 cases hok : nameOk name with
 | false =>
  rw [hok] at HRI
  have HF := Lib.hid (show putP name value = [] by unfold putP; rw [if_neg (by rw [hok]; decide)])
  clear hok
  go_enter Tryz.func29, Tryz.ntmps29
  go_wp2_with fail
  refine HRI.out.mono ?_
  rintro e w1 ⟨rfl, hw⟩
  have hw2 := hw.symm
  subst hw2
  clear hw
  go_wp2
  go_ret
  exact str_fin0 (by rw [HF.out]; rfl) (Below.refl _ _)
 | true =>
  rw [hok] at HRI
  obtain ⟨V, hV⟩ : ∃ V, Lib.trimS (airP value) blanksP = V := ⟨_, rfl⟩
  have hVl : V.length ≤ 100000000 := by rw [← hV]; have := trimS_lenE (airP value); rw [airP_length] at this; omega
  have HVL := Lib.hid hVl
  have HF := Lib.hid (show putP name value = name ++ [58, 32] ++ foldV name V ++ [13, 10] by unfold putP; rw [if_pos hok, hV])
  have HNR := Lib.hid (fun X c W h => airrep_any X c W h)
  unfold AirRep at HNR
  have HRP := Lib.hid (fun b g c w0 W h => airreplace_any value b g c w0 W (by omega) h)
  have HTR := Lib.hid (fun W => htrim_any (airP value) W (by rw [airP_length]; omega))
  unfold StrB at HTR
  simp only [hV] at HTR
  have hap := ba_append name [58, 32]
  have hap1 : ba name ++ ⟨#[58, 32]⟩ = ba (name ++ [58, 32]) := hap.symm ▸ rfl
  have hln : ¬ 9223372036854775807 < (ba name).size + (⟨#[58, 32]⟩ : ByteArray).size := by rw [ba_size]; show ¬ _ < name.length + 2; omega
  have hnz : ((ba name).size : Int) = (name.length : Nat) := by rw [ba_size]
  have HHN := Lib.hid hn
  have hB0 : Below w.heap.size w (w.alloc (.cells #[.string ⟨#[13]⟩, .string ⟨#[32]⟩, .string ⟨#[10]⟩, .string ⟨#[32]⟩] 9)) := (Below.refl _ _).alloc (Nat.le_refl _) _
  have HB0 := Lib.hid hB0
  have HX := Lib.hid (show ∀ j u, (sv airStrs)[j]? = some u → (w.alloc (.cells #[.string ⟨#[13]⟩, .string ⟨#[32]⟩, .string ⟨#[10]⟩, .string ⟨#[32]⟩] 9)).cell? ((⟨w.heap.size, 0, none⟩ : Addr).add j) = some u from fun j u hu => by
   rw [add_base]
   match j, hu with
   | 0, hu => (have h : (Value.string ⟨#[13]⟩) = u := Option.some.inj hu); subst h; simp
   | 1, hu => (have h : (Value.string ⟨#[32]⟩) = u := Option.some.inj hu); subst h; simp
   | 2, hu => (have h : (Value.string ⟨#[10]⟩) = u := Option.some.inj hu); subst h; simp
   | 3, hu => (have h : (Value.string ⟨#[32]⟩) = u := Option.some.inj hu); subst h; simp
   | n + 4, hu => cases hu)
  clear hok hV hap hB0
  go_enter Tryz.func29, Tryz.ntmps29
  go_wp2_with fail
  refine HRI.out.mono ?_
  rintro e w1 ⟨rfl, hw⟩
  have hw2 := hw.symm
  subst hw2
  clear hw
  go_wp2_with fail
  refine (HNR.out _ _ _ HX.out).mono ?_
  rintro e w1 ⟨b, g, c, rfl, hN⟩
  have HB1 := Lib.hid (HB0.out.trans (hN.bel.mono HB0.out.size))
  have HN := Lib.hid hN
  have hz0 := HB0.out.size
  clear hN
  go_wp2_with fail
  refine (HRP.out b g c _ w1 HN.out).mono ?_
  rintro e w2 ⟨rfl, hb2⟩
  have HB2 := Lib.hid (HB0.out.trans (hb2.mono hz0))
  clear hb2
  go_wp2_with fail
  refine (HTR.out w2).mono ?_
  rintro e w3 ⟨rfl, hb3⟩
  have HB3 := Lib.hid (HB2.out.trans (hb3.mono HB2.out.size))
  have hz3 := HB3.out.size
  clear hb3
  have HB4 := Lib.hid (HB3.out.alloc hz3 (.cells #[.pointer none, .slice none 0 0] 64))
  have HBL := Lib.hid (bld_new w3)
  have hsz4 : w3.heap.size ≤ (w3.alloc (.cells #[.pointer none, .slice none 0 0] 64)).heap.size := by simp
  have HWS := Lib.hid (write_string _ _ _ (name ++ [58, 32]) _ HBL.out (by rw [List.length_append]; simp; omega) hsz4)
  go_wp2_with fail
  refine HWS.out.mono ?_
  rintro e w5 ⟨rfl, hW⟩
  have hb5 : Below w.heap.size w w5 := HB4.out.trans (hW.bel.mono (by have := hz3; omega))
  have HPU := Lib.hid (show PuRel w w3 name V (name ++ [58, 32]) (name.length + 2) true V w5 from ⟨by simpa using hW.bld, hb5, by have := hW.bel.size; have h9 := hW.bld.lt; exact h9, rfl, by omega, Nat.le_refl _⟩)
  have hni : (name.length : Int) ≤ 100000000 := by omega
  clear hW hb5
  go_wp2
  go_loopw [1, 6, 7, 8] (fun vv nn fb kk wr => ∃ (v : List UInt8) (n : Nat) (b : Bool) (acc : List UInt8) (y : Value), kk = y ∧ vv = .string (ba v) ∧ nn = .int .i64 (n : Int) ∧ fb = .bool b ∧ Hid (PuRel w w3 name V acc n b v wr)) (fun vv _ _ _ _ => Lib.strSize vv)
  case atStart => exact ⟨V, name.length + 2, true, _, _, rfl, rfl, by first | rfl | simp, rfl, HPU⟩
  case round =>
   obtain ⟨v, n, b, acc, y, rfl, rfl, rfl, rfl, HR⟩ := hrel
   have hacc := HR.out.acc_le
   have hszr : w3.heap.size ≤ wr.heap.size := Nat.le_of_lt HR.out.siz
   have hnm := HR.out.num
   have hvl := HR.out.len
   by_cases hve : v = []
   ·subst hve
    have g1 : (ba ([] : List UInt8)).toList.isEmpty = true := by rw [ba_toList]; rfl
    have HE := Lib.hid (show acc = name ++ [58, 32] ++ foldV name V by rw [HR.out.eq, foldL_nil, List.append_nil])
    have hap2 : ba acc ++ ⟨#[13, 10]⟩ = ba (acc ++ [13, 10]) := (ba_append acc [13, 10]).symm ▸ rfl
    have hln2 : ¬ 9223372036854775807 < (ba acc).size + (⟨#[13, 10]⟩ : ByteArray).size := by rw [ba_size]; have := HHN.out; have := HVL.out; show ¬ _ < acc.length + 2; omega
    have HBS := Lib.hid (bld_string _ _ _ wr HR.out.bld hszr)
    have HBE := Lib.hid HR.out.bel
    clear HR hacc hnm hvl
    go_wp2_with fail
    refine HBS.out.mono ?_
    rintro e w6 ⟨rfl, hW⟩
    have HW := Lib.hid hW.bel
    clear hW
    go_wp2
    go_ret
    exact str_fin0 (by rw [HF.out, HE.out]) (HBE.out.trans (HW.out.mono (by have := HB3.out.size; omega)))
   ·have hne : v ≠ [] := hve
    have g1 : (ba v).toList.isEmpty = false := by rw [ba_toList]; simpa using hne
    have hpos : 0 < v.length := List.length_pos_iff.2 hne
    clear hve
    obtain ⟨m, hm⟩ : ∃ m, v.length = m := ⟨_, rfl⟩
    have HM := Lib.hid hm
    have hvz : ((ba v).size : Int) = (m : Int) := by rw [ba_size, hm]
    have hmi : (m : Int) ≤ 100000000 := by have := HVL.out; omega
    have HGO := Lib.hid (fun i W => hgoes_any (v.drop i) W)
    have HDR := Lib.hid (fun i => ba_drop v i)
    have HPL := Lib.hid (pieceP_le hne)
    have HPP := Lib.hid (pieceP_pos v)
    have HFC := Lib.hid (foldL_cons (b := b) (n := n) hne)
    rw [hm] at hpos
    clear hm hne
    go_wp2
    obtain ⟨w9, rfl⟩ : ∃ w9, w9 = wr := ⟨_, rfl⟩
    go_loop [8] (fun kk => ∃ i : Nat, i + 1 ≤ m ∧ kk = .int .i64 ((i : Int) + 1) ∧ Hid (PcRel v i)) (fun kk => m - (intOf kk).toNat)
    case atStart => exact ⟨0, by omega, by first | rfl | simp, Lib.hid (by unfold PcRel; simp)⟩
    case round =>
     obtain ⟨i, him, rfl, HI⟩ := hrel
     have hii : (i : Int) ≤ 100000000 := by omega
     have hi0 : (0 : Int) ≤ (i : Int) := by omega
     have hi1 : (0 : Int) ≤ (i : Int) + 1 := by omega
     have hit : ((i : Int) + 1).toNat = i + 1 := by omega
     by_cases hlt : i + 1 < m
     ·have hlt2 : (i : Int) + 1 < (m : Int) := by omega
      have hle2 : (i : Int) + 1 ≤ (m : Int) := by omega
      have hle3 : (i : Int) ≤ (m : Int) := by omega
      have hx1 := HDR.out (i + 1)
      have hx2 := HDR.out i
      have HG1 := Lib.hid (HGO.out (i + 1) w9)
      have HG2 := Lib.hid (HGO.out i w9)
      have HST := Lib.hid (fun h1 h2 => pc_stop (by rw [HM.out]; exact hlt) HI.out h1 h2)
      have HGN := Lib.hid (fun h1 => pc_go (by rw [HM.out]; exact hlt) HI.out h1)
      cases h1 : goesP (v.drop (i + 1)) with
      | false =>
       rw [h1] at HG1
       have HN := Lib.hid (HGN.out (.inl h1))
       clear h1
       go_wp2_with fail
       refine HG1.out.mono ?_
       rintro e w6 ⟨rfl, hw⟩
       have hw2 := hw.symm
       subst hw2
       clear hw
       go_wp2
       go_round
       case rel => exact ⟨i + 1, by omega, by go_num, HN⟩
       case measure => simp [intOf] <;> omega
      | true =>
       rw [h1] at HG1
       cases h2 : goesP (v.drop i) with
       | true =>
        rw [h2] at HG2
        have HN := Lib.hid (HGN.out (.inr h2))
        clear h1 h2
        go_wp2_with fail
        refine HG1.out.mono ?_
        rintro e w6 ⟨rfl, hw⟩
        have hw2 := hw.symm
        subst hw2
        clear hw
        go_wp2_with fail
        refine HG2.out.mono ?_
        rintro e w6 ⟨rfl, hw⟩
        have hw2 := hw.symm
        subst hw2
        clear hw
        go_wp2
        go_round
        case rel => exact ⟨i + 1, by omega, by go_num, HN⟩
        case measure => simp [intOf] <;> omega
       | false =>
        rw [h2] at HG2
        have HPV := Lib.hid (HST.out h1 h2)
        clear h1 h2
        go_wp2_with fail
        refine HG1.out.mono ?_
        rintro e w6 ⟨rfl, hw⟩
        have hw2 := hw.symm
        subst hw2
        clear hw
        go_wp2_with fail
        refine HG2.out.mono ?_
        rintro e w6 ⟨rfl, hw⟩
        have hw2 := hw.symm
        subst hw2
        clear hw
        rw [HPV.out] at HPL HPP HFC
        have HTD := Lib.hid (show (v.take (i + 1)).length = i + 1 by rw [List.length_take, HM.out]; omega)
        have HDL := Lib.hid (show (v.drop (i + 1)).length = m - (i + 1) by rw [List.length_drop, HM.out])
        have hxt : (ba v).extract 0 (i + 1) = ba (v.take (i + 1)) := by rw [ba_cut, List.drop_zero]
        have hxd : (ba v).extract (i + 1) (ba v).size = ba (v.drop (i + 1)) := ba_drop v _
        have hle9 : (i : Int) + 1 ≤ (m : Int) := by omega
        have hni2 : (n : Int) ≤ 300000000 := by have := HHN.out; have := HVL.out; have := HM.out; omega
        have hn0 : (0 : Int) ≤ (n : Int) := by omega
        cases b with
        | true =>
         have HFC2 := Lib.hid (show foldL true n v = v.take (i + 1) ++ foldL false (n + (i + 1)) (v.drop (i + 1)) by rw [HFC.out, if_neg (by rintro ⟨h, _⟩; cases h)])
         have HW1 := Lib.hid (write_string _ _ _ (v.take (i + 1)) w9 HR.out.bld (by rw [HTD.out]; have := HHN.out; have := HVL.out; omega) hszr)
         go_wp2_with fail
         refine HW1.out.mono ?_
         rintro e w6 ⟨rfl, hW⟩
         have HN := Lib.hid (show PuRel w w3 name V (acc ++ v.take (i + 1)) (n + (i + 1)) false (v.drop (i + 1)) w6 from ⟨hW.bld, HR.out.bel.trans (hW.bel.mono (by have := HB3.out.size; omega)), Nat.lt_of_lt_of_le HR.out.siz hW.bel.size, by rw [HR.out.eq, HFC2.out, List.append_assoc], by rw [HDL.out]; have := HM.out; omega, by rw [HDL.out]; have := HM.out; omega⟩)
         clear hW
         go_wp2
         go_roundw
         case rel => exact ⟨v.drop (i + 1), n + (i + 1), false, _, _, rfl, rfl, by go_num, rfl, HN⟩
         case measure => rw [Lib.strSize_string, Lib.strSize_string, ba_size, ba_size, HDL.out, HM.out]; omega
        | false =>
         by_cases h78 : 78 < n + (i + 1)
         ·have g78 : decide ((78 : Int) < (n : Int) + ((i : Int) + 1)) = true := decide_eq_true (by omega)
          have HFC2 := Lib.hid (show foldL false n v = [13, 10] ++ v.take (i + 1) ++ foldL false (i + 1) (v.drop (i + 1)) by rw [HFC.out, if_pos ⟨rfl, h78⟩])
          have HW0 := Lib.hid (show Calls Tryz.prog 54 #[.pointer (some ⟨w3.heap.size, 0, none⟩), .string ⟨#[13, 10]⟩] w9 (WrotePost w9 w3.heap.size w3.heap.size (acc ++ [13, 10]) (.tuple #[.int .i64 ((2 : Nat) : Int), .nilIface])) from write_string _ _ _ [13, 10] w9 HR.out.bld (by have := HHN.out; have := HVL.out; simp; omega) hszr)
          clear h78
          go_wp2_with fail
          refine HW0.out.mono ?_
          rintro e w5 ⟨rfl, hW0⟩
          have hsz5 : w3.heap.size ≤ w5.heap.size := Nat.le_trans hszr hW0.bel.size
          have HW1 := Lib.hid (write_string _ _ _ (v.take (i + 1)) w5 hW0.bld (by rw [HTD.out]; have := HHN.out; have := HVL.out; simp; omega) hsz5)
          have HB5 := Lib.hid (HR.out.bel.trans (hW0.bel.mono (by have := HB3.out.size; omega)))
          have HS5 := Lib.hid (Nat.lt_of_lt_of_le HR.out.siz hW0.bel.size)
          clear hW0
          go_wp2_with fail
          refine HW1.out.mono ?_
          rintro e w6 ⟨rfl, hW⟩
          have HN := Lib.hid (show PuRel w w3 name V (acc ++ [13, 10] ++ v.take (i + 1)) (i + 1) false (v.drop (i + 1)) w6 from ⟨hW.bld, HB5.out.trans (hW.bel.mono (by have := HB3.out.size; omega)), Nat.lt_of_lt_of_le HS5.out hW.bel.size, by rw [HR.out.eq, HFC2.out]; simp, by rw [HDL.out]; have := HM.out; omega, by rw [HDL.out]; have := HM.out; omega⟩)
          clear hW
          go_wp2
          go_roundw
          case rel => exact ⟨v.drop (i + 1), i + 1, false, _, _, rfl, rfl, by go_num, rfl, HN⟩
          case measure => rw [Lib.strSize_string, Lib.strSize_string, ba_size, ba_size, HDL.out, HM.out]; omega
         ·have g78 : decide ((78 : Int) < (n : Int) + ((i : Int) + 1)) = false := decide_eq_false (by omega)
          have HFC2 := Lib.hid (show foldL false n v = v.take (i + 1) ++ foldL false (n + (i + 1)) (v.drop (i + 1)) by rw [HFC.out, if_neg (fun h => h78 h.2)])
          have HW1 := Lib.hid (write_string _ _ _ (v.take (i + 1)) w9 HR.out.bld (by rw [HTD.out]; have := HHN.out; have := HVL.out; omega) hszr)
          clear h78
          go_wp2_with fail
          refine HW1.out.mono ?_
          rintro e w6 ⟨rfl, hW⟩
          have HN := Lib.hid (show PuRel w w3 name V (acc ++ v.take (i + 1)) (n + (i + 1)) false (v.drop (i + 1)) w6 from ⟨hW.bld, HR.out.bel.trans (hW.bel.mono (by have := HB3.out.size; omega)), Nat.lt_of_lt_of_le HR.out.siz hW.bel.size, by rw [HR.out.eq, HFC2.out, List.append_assoc], by rw [HDL.out]; have := HM.out; omega, by rw [HDL.out]; have := HM.out; omega⟩)
          clear hW
          go_wp2
          go_roundw
          case rel => exact ⟨v.drop (i + 1), n + (i + 1), false, _, _, rfl, rfl, by go_num, rfl, HN⟩
          case measure => rw [Lib.strSize_string, Lib.strSize_string, ba_size, ba_size, HDL.out, HM.out]; omega
     ·have hlt2 : ¬ (i : Int) + 1 < (m : Int) := by omega
      have HPV := Lib.hid (pc_last (by rw [HM.out]; omega) HI.out)
      rw [HPV.out] at HPL HPP HFC
      have HTD := Lib.hid (show (v.take (i + 1)).length = i + 1 by rw [List.length_take, HM.out]; omega)
      have HDL := Lib.hid (show (v.drop (i + 1)).length = m - (i + 1) by rw [List.length_drop, HM.out])
      have hxt : (ba v).extract 0 (i + 1) = ba (v.take (i + 1)) := by rw [ba_cut, List.drop_zero]
      have hxd : (ba v).extract (i + 1) (ba v).size = ba (v.drop (i + 1)) := ba_drop v _
      have hle9 : (i : Int) + 1 ≤ (m : Int) := by omega
      have hni2 : (n : Int) ≤ 300000000 := by have := HHN.out; have := HVL.out; have := HM.out; omega
      have hn0 : (0 : Int) ≤ (n : Int) := by omega
      cases b with
      | true =>
       have HFC2 := Lib.hid (show foldL true n v = v.take (i + 1) ++ foldL false (n + (i + 1)) (v.drop (i + 1)) by rw [HFC.out, if_neg (by rintro ⟨h, _⟩; cases h)])
       have HW1 := Lib.hid (write_string _ _ _ (v.take (i + 1)) w9 HR.out.bld (by rw [HTD.out]; have := HHN.out; have := HVL.out; omega) hszr)
       go_wp2_with fail
       refine HW1.out.mono ?_
       rintro e w6 ⟨rfl, hW⟩
       have HN := Lib.hid (show PuRel w w3 name V (acc ++ v.take (i + 1)) (n + (i + 1)) false (v.drop (i + 1)) w6 from ⟨hW.bld, HR.out.bel.trans (hW.bel.mono (by have := HB3.out.size; omega)), Nat.lt_of_lt_of_le HR.out.siz hW.bel.size, by rw [HR.out.eq, HFC2.out, List.append_assoc], by rw [HDL.out]; have := HM.out; omega, by rw [HDL.out]; have := HM.out; omega⟩)
       clear hW
       go_wp2
       go_roundw
       case rel => exact ⟨v.drop (i + 1), n + (i + 1), false, _, _, rfl, rfl, by go_num, rfl, HN⟩
       case measure => rw [Lib.strSize_string, Lib.strSize_string, ba_size, ba_size, HDL.out, HM.out]; omega
      | false =>
       by_cases h78 : 78 < n + (i + 1)
       ·have g78 : decide ((78 : Int) < (n : Int) + ((i : Int) + 1)) = true := decide_eq_true (by omega)
        have HFC2 := Lib.hid (show foldL false n v = [13, 10] ++ v.take (i + 1) ++ foldL false (i + 1) (v.drop (i + 1)) by rw [HFC.out, if_pos ⟨rfl, h78⟩])
        have HW0 := Lib.hid (show Calls Tryz.prog 54 #[.pointer (some ⟨w3.heap.size, 0, none⟩), .string ⟨#[13, 10]⟩] w9 (WrotePost w9 w3.heap.size w3.heap.size (acc ++ [13, 10]) (.tuple #[.int .i64 ((2 : Nat) : Int), .nilIface])) from write_string _ _ _ [13, 10] w9 HR.out.bld (by have := HHN.out; have := HVL.out; simp; omega) hszr)
        clear h78
        go_wp2_with fail
        refine HW0.out.mono ?_
        rintro e w5 ⟨rfl, hW0⟩
        have hsz5 : w3.heap.size ≤ w5.heap.size := Nat.le_trans hszr hW0.bel.size
        have HW1 := Lib.hid (write_string _ _ _ (v.take (i + 1)) w5 hW0.bld (by rw [HTD.out]; have := HHN.out; have := HVL.out; simp; omega) hsz5)
        have HB5 := Lib.hid (HR.out.bel.trans (hW0.bel.mono (by have := HB3.out.size; omega)))
        have HS5 := Lib.hid (Nat.lt_of_lt_of_le HR.out.siz hW0.bel.size)
        clear hW0
        go_wp2_with fail
        refine HW1.out.mono ?_
        rintro e w6 ⟨rfl, hW⟩
        have HN := Lib.hid (show PuRel w w3 name V (acc ++ [13, 10] ++ v.take (i + 1)) (i + 1) false (v.drop (i + 1)) w6 from ⟨hW.bld, HB5.out.trans (hW.bel.mono (by have := HB3.out.size; omega)), Nat.lt_of_lt_of_le HS5.out hW.bel.size, by rw [HR.out.eq, HFC2.out]; simp, by rw [HDL.out]; have := HM.out; omega, by rw [HDL.out]; have := HM.out; omega⟩)
        clear hW
        go_wp2
        go_roundw
        case rel => exact ⟨v.drop (i + 1), i + 1, false, _, _, rfl, rfl, by go_num, rfl, HN⟩
        case measure => rw [Lib.strSize_string, Lib.strSize_string, ba_size, ba_size, HDL.out, HM.out]; omega
       ·have g78 : decide ((78 : Int) < (n : Int) + ((i : Int) + 1)) = false := decide_eq_false (by omega)
        have HFC2 := Lib.hid (show foldL false n v = v.take (i + 1) ++ foldL false (n + (i + 1)) (v.drop (i + 1)) by rw [HFC.out, if_neg (fun h => h78 h.2)])
        have HW1 := Lib.hid (write_string _ _ _ (v.take (i + 1)) w9 HR.out.bld (by rw [HTD.out]; have := HHN.out; have := HVL.out; omega) hszr)
        clear h78
        go_wp2_with fail
        refine HW1.out.mono ?_
        rintro e w6 ⟨rfl, hW⟩
        have HN := Lib.hid (show PuRel w w3 name V (acc ++ v.take (i + 1)) (n + (i + 1)) false (v.drop (i + 1)) w6 from ⟨hW.bld, HR.out.bel.trans (hW.bel.mono (by have := HB3.out.size; omega)), Nat.lt_of_lt_of_le HR.out.siz hW.bel.size, by rw [HR.out.eq, HFC2.out, List.append_assoc], by rw [HDL.out]; have := HM.out; omega, by rw [HDL.out]; have := HM.out; omega⟩)
        clear hW
        go_wp2
        go_roundw
        case rel => exact ⟨v.drop (i + 1), n + (i + 1), false, _, _, rfl, rfl, by go_num, rfl, HN⟩
        case measure => rw [Lib.strSize_string, Lib.strSize_string, ba_size, ba_size, HDL.out, HM.out]; omega
end Go.Proofs.YthidbmeaccpjdaaGreatDoor
