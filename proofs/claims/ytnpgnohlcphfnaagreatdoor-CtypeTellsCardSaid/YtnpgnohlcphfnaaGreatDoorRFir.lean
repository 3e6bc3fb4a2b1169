/- Reference 12: the contract of first. -/
import Derived.Test.YtnpgnohlcphfnaaGreatDoorOneRow
import Derived.Test.YtnpgnohlcphfnaaGreatDoorRMea
namespace Go.Proofs.YtnpgnohlcphfnaaGreatDoor
open Go.RowKit
set_option linter.unusedVariables false

def oneV (x : One1) : Value := .agg #[.string (ba x.at_.name), .int .i64 x.at_.section_, .bool x.at_.wide, .string (ba x.value)]
def one0 : One1 := ⟨⟨[], 0, false⟩, []⟩
def F1Post (w : World) (o : Option One1) (e : Ending) (w' : World) : Prop := e = .returned (.tuple #[oneV (o.getD one0), .bool o.isSome]) ∧ Below w.heap.size w w'
theorem f1_some {w w' : World} {o : Option One1} {n v : List UInt8} {z : Int} {b : Bool} (h : o = some ⟨⟨n, z, b⟩, v⟩) (hb : Below w.heap.size w w') : F1Post w o (.returned (.tuple #[.agg #[.string (ba n), .int .i64 z, .bool b, .string (ba v)], .bool true])) w' := by
  subst h
  exact ⟨rfl, hb⟩
theorem f1_none {w w' : World} {o : Option One1} (h : o = none) (hb : Below w.heap.size w w') : F1Post w o (.returned (.tuple #[.agg #[.string ⟨#[]⟩, .int .i64 0, .bool false, .string ⟨#[]⟩], .bool false])) w' := by
  subst h
  exact ⟨rfl, hb⟩
theorem first_drop {ts : List One1} {name : List UInt8} {sec : Int} {k : Nat} (hk : k < ts.length) : firstP (ts.drop k) name sec = if ts[k].at_.name = name ∧ ts[k].at_.section_ = sec then some ts[k] else firstP (ts.drop (k + 1)) name sec := by
  unfold firstP
  rw [List.drop_eq_getElem_cons hk, List.find?_cons]
  by_cases h1 : ts[k].at_.name = name
  · by_cases h2 : ts[k].at_.section_ = sec
    · rw [if_pos ⟨h1, h2⟩, decide_eq_true h1, decide_eq_true h2]; rfl
    · rw [if_neg (fun h => h2 h.2), decide_eq_true h1, decide_eq_false h2]; rfl
  · rw [if_neg (fun h => h1 h.1), decide_eq_false h1]; rfl
set_option maxRecDepth 100000 in
set_option maxHeartbeats 4000000 in
theorem rfirst12_any (ts : List One1) (name : List UInt8) (sec : Int) (A : Option Addr) (n c : Nat) (w : World) (hT : Ones w w.heap.size A n ts) (hn : n ≤ 1000000000) :
    Calls Tryz.prog 112 #[.slice A n c, .string (ba name), .int .i64 sec] w (F1Post w (firstP ts name sec)) := by
  have hB := (Below.refl w.heap.size w).alloc (Nat.le_refl _) (.cells #[.string ⟨#[]⟩, .int .i64 0, .bool false, .string ⟨#[]⟩] 100)
  have HT := Lib.hid (hT.below hB)
  have HT0 := Lib.hid hT
  have HN := Lib.hid hT.len
  have HB := Lib.hid ((Below.refl w.heap.size w).alloc (Nat.le_refl _))
  have HSTEP := Lib.hid (fun k (hk : k < ts.length) => first_drop (name := name) (sec := sec) hk)
  obtain ⟨o, ho⟩ : ∃ o, firstP ts name sec = o := ⟨_, rfl⟩
  have HO := Lib.hid ho
  rw [ho]
  clear hB hT ho
  go_enter Tryz.func112, Tryz.ntmps112
  go_wp2
  go_loop [8] (fun i => ∃ k : Nat, k ≤ n ∧ i = .int .i64 (k : Int) ∧ Hid (o = firstP (ts.drop k) name sec)) (fun i => n - (intOf i).toNat)
  case atStart => exact ⟨0, Nat.zero_le _, rfl, Lib.hid HO.out.symm⟩
  case round =>
    obtain ⟨k, hk, rfl, HR⟩ := hrel
    by_cases hlt : k < n
    · have hk2 : (k : Int) < n := by omega
      have hkl : k < ts.length := by rw [HN.out]; exact hlt
      obtain ⟨ad, rfl, hbl, c0, c1, c2, c3, -⟩ := HT.out.2 k hkl
      obtain ⟨ad2, e9, -, d0, d1, d2, d3, -⟩ := HT0.out.2 k hkl
      injection e9 with e9
      subst e9
      have HS := Lib.hid (HSTEP.out k hkl)
      obtain ⟨t, ht⟩ : ∃ t, ts[k] = t := ⟨_, rfl⟩
      rw [ht] at c0 c1 c2 c3 d0 d1 d2 d3 HS
      obtain ⟨⟨p, z, b⟩, v⟩ := t
      dsimp only at c0 c1 c2 c3 d0 d1 d2 d3 HS
      have hne : ¬ (ad.add (k * 4)).block = w.heap.size := by omega
      clear ht hkl hbl
      by_cases e1 : p = name
      · subst e1
        by_cases e2 : z = sec
        · subst e2
          have HF := Lib.hid (show o = some ⟨⟨p, z, b⟩, v⟩ by rw [HR.out, HS.out, if_pos ⟨rfl, rfl⟩])
          go_wp2
          refine bodyPost_ret (v := .tuple #[.agg #[.string (ba p), .int .i64 z, .bool b, .string (ba v)], .bool true]) (by simp [results, Tryz.results112, go_sem]) rfl ?_
          exact f1_some HF.out (HB.out _)
        · have g2 : (z == sec) = false := by simpa using e2
          have HF := Lib.hid (show o = firstP (ts.drop (k + 1)) p sec by rw [HR.out, HS.out, if_neg (fun h => e2 h.2)])
          clear e2
          go_wp2
          go_round
          case rel => exact ⟨k + 1, by omega, by go_num, HF⟩
          case measure => simp [intOf] <;> omega
      · have g1 : ((ba p).toList == (ba name).toList) = false := by rw [ba_toList, ba_toList]; simpa using e1
        have g2 : ¬ (ba p).toList = (ba name).toList := by rw [ba_toList, ba_toList]; exact e1
        have HF := Lib.hid (show o = firstP (ts.drop (k + 1)) name sec by rw [HR.out, HS.out, if_neg (fun h => e1 h.1)])
        clear e1
        go_wp2
        go_round
        case rel => exact ⟨k + 1, by omega, by go_num, HF⟩
        case measure => simp [intOf] <;> omega
    · obtain rfl : n = k := by omega
      have HF := Lib.hid (show o = none by
        rw [HR.out, List.drop_eq_nil_of_le (by rw [HN.out]; exact Nat.le_refl _)]
        rfl)
      go_wp2
      refine bodyPost_ret (v := .tuple #[.agg #[.string ⟨#[]⟩, .int .i64 0, .bool false, .string ⟨#[]⟩], .bool false]) (by simp [results, Tryz.results112, go_sem]) rfl ?_
      exact f1_none HF.out (HB.out _)
end Go.Proofs.YtnpgnohlcphfnaaGreatDoor
