/- A new row of messages, built by appends; the reference's Drop. -/
import Derived.Test.YtlobiebmaheflaaHang
namespace Go.Proofs.Ytlobiebmaheflaa
open Go.RowKit
set_option linter.unusedVariables false

theorem msg_info : (Try.prog.info? 58).map (fun i => (i.zero, i.size, i.bytes)) = some (some (.agg #[.int .i64 0, .slice none 0 0, .string ⟨#[]⟩]), 3, 48) := by kernel_rfl
/-- A row that is built behind the world w0. -/
def NewRow (w0 w : World) (v : Value) (ms : List (Msg × Value)) : Prop := w.ownsRow w0.heap.size 58 3 v ms.length (ms.flatMap msgCells) ∧ Below w0.heap.size w0 w
theorem NewRow.nil_ (w : World) : NewRow w w (.slice none 0 0) [] := ⟨World.ownsRow_nil _ _ _ _, Below.refl _ _⟩
theorem NewRow.form {w0 w : World} {v : Value} {ms : List (Msg × Value)} (h : NewRow w0 w v ms) : ∃ A c, v = .slice A ms.length c := by
  rcases h.1.2 with ⟨rfl, h0⟩ | ⟨g, cap, cur, rfl, _⟩
  · exact ⟨none, 0, by rw [h0]⟩
  · exact ⟨_, _, rfl⟩
theorem NewRow.drew {w0 w : World} {v : Value} {ms : List (Msg × Value)} (h : NewRow w0 w v ms) (o : Obj) : NewRow w0 (w.alloc o) v ms := ⟨h.1.alloc o, h.2.alloc h.2.size o⟩

/-- append of a piece. -/
theorem wpList_piece {ops : Array Oper} {rest : List Oper} {o : Oper} {a : Act} {w0 w : World} {Q : Exit → Act → World → Prop} {v : Value} {ms1 ms2 : List (Msg × Value)} (hN : NewRow w0 w v ms1) (hgd : o.guard = none) (s x : Operand)
    (ho : o.op = .call { callee := .builtin .append, args := #[s, x], argTypes := #[53, 53] }) (hs : a.eval s = v) (ad : Addr) (m c : Nat) (hx : a.eval x = .slice (some ad) m c) (hm : ms2.length = m)
    (hcells : ∀ j u, (ms2.flatMap msgCells)[j]? = some u → w.cell? (ad.add j) = some u) (h1 : ∀ p, p ∈ ms2 → p.2.oneCell' = true) (hlen : ms1.length + m ≤ 1000000)
    (h : ∀ A n c w', NewRow w0 w' (.slice A n c) (ms1 ++ ms2) → n = ms1.length + m → wpList Try.prog ops Q rest (a.put o.dst (.slice A n c)) w') : wpList Try.prog ops Q (o :: rest) a w := by
  obtain ⟨i0, hi, hz0, hz1, hz2⟩ := info_parts msg_info
  refine wpList_append_own_at _ hgd s x 53 ho w0.heap.size 58 i0 _ 3 48 Try.underlying53 hi hz0 hz1 hz2 rfl (by omega) v ms1.length _ hs hN.1 ad m c (ms2.flatMap msgCells) hx (by rw [msg_len, hm]) hcells ?_ (by simp only [maxLen]; omega) (by omega) hN.2.size ?_
  · intro u hu
    obtain ⟨p, hp, hu⟩ := List.mem_flatMap.1 hu
    simp only [msgCells, List.mem_cons, List.not_mem_nil, or_false] at hu
    rcases hu with rfl | rfl | rfl
    · rfl
    · exact h1 p hp
    · rfl
  · intro v' w' hown hg _ hat
    have hnew : NewRow w0 w' v' (ms1 ++ ms2) := ⟨by rw [List.flatMap_append, List.length_append, hm]; exact hown, hN.2.grown hg hN.2.size fun k e => (hN.1.lt k e).1⟩
    obtain ⟨A, c, rfl⟩ := hnew.form
    rw [List.length_append, hm] at hnew ⊢
    exact h A _ c w' hnew rfl
theorem wpList_piece_none {ops : Array Oper} {rest : List Oper} {o : Oper} {a : Act} {w0 w : World} {Q : Exit → Act → World → Prop} {v : Value} {ms1 : List (Msg × Value)} (hN : NewRow w0 w v ms1) (hgd : o.guard = none) (s x : Operand)
    (ho : o.op = .call { callee := .builtin .append, args := #[s, x], argTypes := #[53, 53] }) (hs : a.eval s = v) (hx : a.eval x = .slice none 0 0)
    (h : wpList Try.prog ops Q rest (a.put o.dst v) w) : wpList Try.prog ops Q (o :: rest) a w := by
  obtain ⟨i0, hi, hz0, hz1, hz2⟩ := info_parts msg_info
  exact wpList_append_own_none hgd s x 53 ho w0.heap.size 58 i0 3 Try.underlying53 hi v ms1.length _ hs hN.1 hx h

theorem del_at {L : List Msg} (h : Asc L) {k : Nat} (hk : k < L.length) : del L[k].id L = L.take k ++ L.drop (k + 1) := by
  have e : L = L.take k ++ L[k] :: L.drop (k + 1) := by rw [← List.drop_eq_getElem_cons hk, List.take_append_drop]
  have h' : Asc (L.take k ++ L[k] :: L.drop (k + 1)) := by rw [← e]; exact h
  obtain ⟨h1, h2, h3⟩ := List.pairwise_append.1 h'
  obtain ⟨h4, h5⟩ := List.pairwise_cons.1 h2
  conv => lhs; arg 2; rw [e]
  unfold del
  rw [List.filter_append, List.filter_cons]
  have f1 : (L.take k).filter (fun x => x.id != L[k].id) = L.take k := List.filter_eq_self.2 fun x hx => bne_iff_ne.2 (by have := h3 x hx L[k] List.mem_cons_self; omega)
  have f2 : (L.drop (k + 1)).filter (fun x => x.id != L[k].id) = L.drop (k + 1) := List.filter_eq_self.2 fun x hx => bne_iff_ne.2 (by have := h4 x hx; omega)
  rw [f1, f2]
  simp

/-- A piece of the row, read. -/
theorem MsgRow.piece {w : World} {G : Nat → Prop} {g n cap : Nat} {ms : List (Msg × Value)} (h : MsgRow w G (.slice (some ⟨g, 0, none⟩) n cap) ms) (k l : Nat) : ∀ j u, (((ms.drop k).take l).flatMap msgCells)[j]? = some u → w.cell? ((⟨g, k * 3, none⟩ : Addr).add j) = some u := fun j u hu => by
  have hpre : ∀ (l : Nat) (ms : List (Msg × Value)) j u, ((ms.take l).flatMap msgCells)[j]? = some u → (ms.flatMap msgCells)[j]? = some u := fun l ms j u hu => by
    have e : ms.flatMap msgCells = (ms.take l).flatMap msgCells ++ (ms.drop l).flatMap msgCells := by rw [← List.flatMap_append, List.take_append_drop]
    rw [e, List.getElem?_append_left (List.getElem?_eq_some_iff.1 hu).1]; exact hu
  have h1 := hpre _ _ _ _ hu
  have h2 : (ms.flatMap msgCells)[k * 3 + j]? = some u := by
    by_cases hk : k ≤ ms.length
    · have e : ms.flatMap msgCells = (ms.take k).flatMap msgCells ++ (ms.drop k).flatMap msgCells := by rw [← List.flatMap_append, List.take_append_drop]
      have e2 : ((ms.take k).flatMap msgCells).length = k * 3 := by rw [msg_len, List.length_take]; omega
      rw [e, List.getElem?_append_right (by omega), e2, show k * 3 + j - k * 3 = j by omega]; exact h1
    · rw [List.drop_eq_nil_of_le (by omega)] at h1; simp at h1
  have h3 := h.1.cells (g := g) rfl (k * 3 + j) u h2
  rw [← h3]
  congr 1
  unfold Addr.add
  by_cases e1 : j = 0
  · subst e1
    by_cases e2 : k * 3 + 0 = 0
    · simp only [e2, if_true]; congr 1
    · simp only [e2, if_false, if_true]; simp
  · have e2 : k * 3 + j ≠ 0 := by omega
    simp only [e1, e2, if_false]; simp
theorem IdRow.one {w : World} {G : Nat → Prop} {v : Value} {l : List ByteArray} (h : IdRow w G v l) : v.oneCell' = true := by obtain ⟨A, c, rfl, -⟩ := h; rfl

/-- The header of the reference's set gets a new row. -/
theorem IdRow.notHdr {w : World} {G : Nat → Prop} {v : Value} {l : List ByteArray} {xh : Nat} {u : Value} (h : IdRow w G v l) (hx : w.heap[xh]? = some (.cells #[u] 55 (0, 0))) (hu : ∀ s, u ≠ .string s) {w' : World} {G' : Nat → Prop}
    (hk : ∀ b, G b → b < w.heap.size → b ≠ xh → w'.heap[b]? = w.heap[b]? ∧ G' b) (hs : w.heap.size ≤ w'.heap.size) : IdRow w' G' v l := by
  obtain ⟨A, cap, h1, h2, h3, h4⟩ := h
  refine ⟨A, cap, h1, h2, h3, ?_⟩
  by_cases hl : l = []
  · exact .inl hl
  · obtain ⟨ad, a1, a2, a3, a4⟩ := h4.resolve_left hl
    have hpos : 0 < l.length := List.length_pos_iff.2 hl
    have e : ad.block ≠ xh := fun e => by
      have h0 := a4 0 l[0] (List.getElem?_eq_getElem hpos)
      have e2 : ad.add 0 = ad := by simp [Addr.add]
      rw [e2] at h0
      simp only [World.cell?, e, hx] at h0
      split at h0
      · cases h0
      · cases ho : ad.off with
        | zero => rw [ho] at h0; simp at h0; exact hu _ h0
        | succ n => rw [ho] at h0; simp at h0
    obtain ⟨k1, k2⟩ := hk _ a2 a3 e
    refine .inr ⟨ad, a1, k2, by omega, fun j s hj => ?_⟩
    rw [← a4 j s hj]
    have : (ad.add j).block = ad.block := add_block _ _
    simp only [World.cell?, this, k1]
theorem ref_set {w0 w3 : World} {G : Nat → Prop} {xh : Nat} {L : List Msg} (h : RefW w0 G xh L) {v : Value} {ms : List (Msg × Value)} (hN : NewRow w0 w3 v ms) (hms : ∀ p, p ∈ ms → IdRow w0 G p.2 p.1.ids ∧ I64 p.1.id ∧ Fits p.1.base) (hasc : Asc (ms.map (·.1))) :
    RefW (w3.setCell ⟨xh, 0, none⟩ v) G xh (ms.map (·.1)) ∧ Off (fun b => b = xh) w0 (w3.setCell ⟨xh, 0, none⟩ v) := by
  obtain ⟨v0, ms0, hx, hrow0, -⟩ := h.row
  have hxl := heap_lt hx
  obtain ⟨A0, c0, hv0, -⟩ := hrow0.at_
  have hvs : ∀ s, v0 ≠ .string s := fun s e => by rw [hv0] at e; cases e
  have hx3 : w3.heap[xh]? = some (.cells #[v0] 55 (0, 0)) := (hN.2.block xh hxl).trans hx
  have hoff : Off (fun b => b = xh) w0 (w3.setCell ⟨xh, 0, none⟩ v) := (Off.of_below (F := fun b => b = xh) hN.2 fun k h1 h2 => by omega).setCell (p := ⟨xh, 0, none⟩) (.inl rfl) v
  have hvb : ∀ b, v.ownBlock = some b → w0.heap.size ≤ b := fun b e => (hN.1.lt b e).1
  refine ⟨⟨⟨v, ms, ?_, ⟨ownsRow_block ((show w3.ownsRow 0 58 3 v ms.length _ from ?_)) fun b e => heap_setCell_other _ _ _ _ (by have := hvb b e; intro e2; have e3 : b = xh := e2; omega), fun b e => h.fresh b (hvb b e), fun p hp => ⟨?_, (hms p hp).2⟩⟩, rfl⟩, h.hdr, fun b hb => h.fresh b (by have := hoff.size; omega), hasc⟩, hoff⟩
  · exact heap_setCell_same w3 xh 0 _ 55 v hx3
  · obtain ⟨⟨q0, q1⟩, -⟩ := hN
    refine ⟨q0, ?_⟩
    rcases q1 with q1 | ⟨g, cap, cur, e, hb, r⟩
    · exact .inl q1
    · exact .inr ⟨g, cap, cur, e, by omega, r⟩
  · refine (hms p hp).1.notHdr hx hvs (fun b hg hl hne => ⟨hoff.block b hl hne, hg⟩) hoff.size

def RDropPost (w : World) (G : Nat → Prop) (xh : Nat) (L : List Msg) (id : Int) (e : Ending) (w' : World) : Prop :=
  ∃ b : Bool, e = .returned (.bool b) ∧ (b = true ↔ ∃ m, m ∈ L ∧ m.id = id) ∧ RefW w' G xh (del id L) ∧ Off (fun b => b = xh) w w'
set_option maxRecDepth 100000 in
set_option maxHeartbeats 1000000 in
theorem rdrop_any (id : Int) (w : World) {G : Nat → Prop} {xh : Nat} {L : List Msg} (h : RefW w G xh L) (hL : L.length ≤ 1000) :
    Calls Try.prog 12 #[.pointer (some ⟨xh, 0, none⟩), .int .i64 id] w (RDropPost w G xh L id) := by
  have HR := Lib.hid h
  have HL := Lib.hid hL
  clear h hL
  go_enter Try.func12, Try.ntmps12
  go_wp2_with fail
  refine (place_any id w HR.out (by have := HL.out; omega)).mono ?_
  rintro e w1 ⟨r, rfl, hr, hb⟩
  have h1 := HR.out.below hb
  rcases hr with ⟨rfl, hno⟩ | ⟨k, hk, rfl, hid⟩
  · go_wp2
    go_ret
    refine ⟨false, rfl, ⟨fun h => (by cases h), fun ⟨m, hm, e⟩ => absurd e (hno m hm)⟩, by rw [del_none hno]; exact h1, .of_below hb fun _ h1 h2 => by omega⟩
  · obtain ⟨v, ms, hx, hrow, hms⟩ := h1.row
    have hlen : ms.length = L.length := by rw [← hms]; simp
    have hkm : k < ms.length := by omega
    rcases hrow.1.2 with ⟨_, h0⟩ | ⟨g, cap, cur, rfl, q0, q1, q2, q3, q4⟩
    · omega
    · obtain ⟨n, hn⟩ : ∃ n, ms.length = n := ⟨_, rfl⟩
      rw [hn] at hx hrow q2 hkm
      have c0 : w1.cell? ⟨xh, 0, none⟩ = some (.slice (some ⟨g, 0, none⟩) n cap) := by simp [World.cell?, hx]
      have hk1 : (k : Int) < n := by omega
      have hd : decide ((k : Int) < 0) = false := by simp
      have hn1000 : n ≤ 1000 := by have := HL.out; omega
      have HROW := Lib.hid hrow
      have HX := Lib.hid hx
      have HMS := Lib.hid hms
      have HN := Lib.hid hn
      have HID := Lib.hid hid
      have HB := Lib.hid hb
      have HQ := Lib.hid (And.intro q1 q2)
      have HRN := Lib.hid (NewRow.nil_ w1)
      clear hrow hx hms hn hid hb q0 q1 q2 q3 q4 hlen h1
      have hp1 := fun j u => HROW.out.piece 0 k j u
      have HP1 := Lib.hid hp1
      have hl1 : ((ms.drop 0).take k).length = k := by rw [List.length_take, List.length_drop]; have := HN.out; omega
      have HL1 := Lib.hid hl1
      have ho1 : ∀ p, p ∈ ms → p.2.oneCell' = true := fun p hp => (HROW.out.2.2 p hp).1.one
      have HO1 := Lib.hid ho1
      have hxl : xh < w1.heap.size := heap_lt HX.out
      have HXL := Lib.hid hxl
      have hkc : (k : Int) ≤ cap := by have := HQ.out.2; omega
      have hkc2 : k ≤ cap := by omega
      have hk3 : (k : Int) + 1 ≤ n := by omega
      have hnc : (n : Int) ≤ cap := by have := HQ.out.2; omega
      have hcx : cap ≤ maxLen := HROW.out.1.2.elim (fun h => by cases h.1) fun ⟨_, _, _, h, _, _, _, h2, _⟩ => by injection h with _ _ h; subst h; exact h2
      have hcx2 : (cap : Int) ≤ 9223372036854775807 := by simp only [maxLen] at hcx; omega
      clear hp1 hl1 ho1 hxl hcx
      have hgl : g < w1.heap.size := heap_lt HQ.out.1
      have had : ∃ ad : Addr, (if cap = k + 1 then some (⟨g, 0, none⟩ : Addr) else some ⟨g, (k + 1) * 3, none⟩) = some ad ∧ ad.block < w1.heap.size ∧ ∀ j u, (((ms.drop (k + 1)).take (n - (k + 1))).flatMap msgCells)[j]? = some u → w1.cell? (ad.add j) = some u := by
        by_cases e : cap = k + 1
        · rw [if_pos e]
          refine ⟨_, rfl, hgl, fun j u hu => ?_⟩
          rw [show n - (k + 1) = 0 by omega] at hu
          simp at hu
        · rw [if_neg e]
          exact ⟨_, rfl, hgl, HROW.out.piece (k + 1) (n - (k + 1))⟩
      obtain ⟨ad, had1, had2, had3⟩ := had
      have HAD1 := Lib.hid had1
      have HAD2 := Lib.hid had2
      have HAD3 := Lib.hid had3
      clear hgl had1 had2 had3
      go_wp2_with (at_builtin; first | (refine wpList_piece (ms2 := (ms.drop (k + 1)).take (n - (k + 1))) HNR1.out rfl (.tmp 20) (.tmp 27) rfl rfl ad (n - (k + 1)) (cap - (k + 1)) (by show Value.slice (if cap = k + 1 then some (⟨g, 0, none⟩ : Addr) else some ⟨g, (k + 1) * 3, none⟩) (n - (k + 1)) (cap - (k + 1)) = _; rw [HAD1.out]) (by rw [List.length_take, List.length_drop, HN.out]; omega) (fun j u hu => (HNR1.out.2.cell (p := ad.add j) (by rw [add_block]; exact HAD2.out)).trans (HAD3.out j u hu)) (fun p hp => HO1.out p (List.mem_of_mem_drop (List.mem_of_mem_take hp))) (by have h5 := HL1.out; rw [List.nil_append, h5]; omega) ?_; intro A2 n2 c2' w3 hnr2 hn2; have c3 := (hnr2.2.cell (p := ⟨xh, 0, none⟩) HXL.out).trans c0; have f3 : w3.frozen? ⟨xh, 0, none⟩ = false := (by have h6 := (hnr2.2.block xh HXL.out).trans HX.out; simp [World.frozen?, h6]); have HNR2 := Lib.hid hnr2; have HN2 := Lib.hid hn2; clear hnr2 hn2) | refine wpList_piece (ms2 := (ms.drop 0).take k) HRN.out rfl _ _ rfl rfl ⟨g, 0, none⟩ k cap rfl HL1.out (by intro j u hu; have := HP1.out j u hu; simpa using this) (fun p hp => HO1.out p (List.mem_of_mem_drop (List.mem_of_mem_take hp))) (by simp; omega) ?_; intro A1 n1 c1 w2 hnr1 hn1; have c2 := (hnr1.2.cell (p := ⟨xh, 0, none⟩) HXL.out).trans c0; have HNR1 := Lib.hid hnr1; have HN1 := Lib.hid hn1; clear hnr1 hn1)
      all_goals
        go_ret
        have hms2 : [] ++ List.take k (List.drop 0 ms) ++ List.take (n - (k + 1)) (List.drop (k + 1) ms) = ms.take k ++ ms.drop (k + 1) := by
          rw [List.nil_append, List.drop_zero]
          congr 1
          exact List.take_of_length_le (by rw [List.length_drop, HN.out]; omega)
        have hR := HNR2.out
        rw [hms2] at hR
        have hdel : (ms.take k ++ ms.drop (k + 1)).map (·.1) = del id L := by
          rw [← HID.out, del_at HR.out.asc hk, List.map_append, List.map_take, List.map_drop, HMS.out]
        have hR1 : RefW w1 G xh L := HR.out.below HB.out
        have := ref_set hR1 hR (fun p hp => HROW.out.2.2 p (by rcases List.mem_append.1 hp with h | h; exact List.mem_of_mem_take h; exact List.mem_of_mem_drop h)) (by rw [hdel]; exact del_asc HR.out.asc)
        rw [hdel] at this
        exact ⟨true, rfl, ⟨fun _ => ⟨L[k], List.getElem_mem hk, HID.out⟩, fun _ => rfl⟩, this.1, (Off.of_below (F := fun b => b = xh) HB.out fun k h1 h2 => by omega).trans this.2⟩
end Go.Proofs.Ytlobiebmaheflaa
