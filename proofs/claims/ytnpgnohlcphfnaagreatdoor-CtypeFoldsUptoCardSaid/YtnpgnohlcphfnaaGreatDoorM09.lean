/- The library: sync.Once.Do, not yet done, its lock free: its parts. The library: sync.Once.Do of a Replacer's buildOnce, the first time. The library: strings.NewReplacer of the four strings that escape a quoted string. The library: the build of a Replacer whose four strings escape a quoted string. -/
import Derived.Test.YtnpgnohlcphfnaaGreatDoorProg
import Derived.RowKit
import Derived.Tactics
import Derived.Tactics2
import Derived.Defers
import Derived.Laws.Pointers
import Derived.Laws.LoneSync
import Derived.RegionTactic
import Derived.RegionCalls
import Derived.ChangeAlike
import Derived.Deep.WholeRow
import Derived.Test.YtnpgnohlcphfnaaGreatDoorM08
import Derived.Test.YtnpgnohlcphfnaaGreatDoorM03
section
namespace Go.Proofs.YtnpgnohlcphfnaaGreatDoor
open Go.RowKit
set_option linter.unusedVariables false

theorem race_disable (w : World) : (callFunc 220 #[]).run Tryz.prog w = .ok (.value (.tuple #[])) w := run_call_mark0 Tryz.func220 (by kernel_rfl) (by kernel_rfl) (by kernel_rfl) .disable (by kernel_rfl) w
theorem race_enable (w : World) : (callFunc 222 #[]).run Tryz.prog w = .ok (.value (.tuple #[])) w := run_call_mark0 Tryz.func222 (by kernel_rfl) (by kernel_rfl) (by kernel_rfl) .enable (by kernel_rfl) w
theorem race_acquire (a : Addr) (w : World) : (callFunc 223 #[.pointer (some a)]).run Tryz.prog w = .ok (.value (.tuple #[])) w := run_call_marked Tryz.func223 (by kernel_rfl) (by kernel_rfl) (by kernel_rfl) .acquire (by kernel_rfl) a w
theorem race_release (a : Addr) (w : World) : (callFunc 225 #[.pointer (some a)]).run Tryz.prog w = .ok (.value (.tuple #[])) w := run_call_marked Tryz.func225 (by kernel_rfl) (by kernel_rfl) (by kernel_rfl) .releaseMerge (by kernel_rfl) a w
set_option maxRecDepth 100000 in
theorem store_deferred (a : Addr) (x : Value) (u : FrameMode) (w : World) (hc : w.cell? a = some x) (hz : w.frozen? a = false) :
    CallsD Tryz.prog 167 #[.pointer (some a), .bool true] u w fun e u' w' => u' = u ∧ (e = .returned (.tuple #[]) ∧ w' = w.drew.setCell a (.int .u32 1)) := by
  have hc' : w.drew.cell? a = some x := by go_simp
  have hz' : w.drew.frozen? a = false := by go_simp
  have hst := run_call_store (P := Tryz.prog) Tryz.func197 (by kernel_rfl) (by kernel_rfl) (by kernel_rfl) (by kernel_rfl) (k := .u32) (y := 1) hc' hz'
  go_enter_d Tryz.func167, Tryz.ntmps167
  go_wp2
  go_region_calls
  all_goals (go_end0; exact ⟨rfl, rfl⟩)
set_option maxRecDepth 100000 in
theorem unlock_deferred (a : Addr) (u : FrameMode) (w : World) (hc : w.cell? a = some (.int .i32 1)) (hz : w.frozen? a = false) :
    CallsD Tryz.prog 166 #[.pointer (some a)] u w fun e u' w' => u' = u ∧ (e = .returned (.tuple #[]) ∧ w' = w.setCell a (.int .i32 0)) := by
  have hd := race_disable
  have he := race_enable
  have hr := race_release
  have hadd := run_call_add (P := Tryz.prog) Tryz.func226 (by kernel_rfl) (by kernel_rfl) (by kernel_rfl) .i32 (by kernel_rfl) (y := -1) (s := 0) hc hz (by simp [go_sem]; rfl)
  have hcv := run_convert_to_unsafe (P := Tryz.prog) (src := 238) (dst := 160) Tryz.underlying238 Tryz.underlying160 (by kernel_rfl) hc
  go_enter_d Tryz.func166, Tryz.ntmps166
  go_wp2
  go_end0
  go_wp2
  all_goals
    go_end0
    exact ⟨rfl, rfl⟩
set_option maxRecDepth 100000 in
theorem lock_free (a : Addr) (w : World) (hc : w.cell? a = some (.int .i32 0)) (hz : w.frozen? a = false) :
    Calls Tryz.prog 165 #[.pointer (some a)] w fun e w' => e = .returned (.tuple #[]) ∧ w' = w.setCell a (.int .i32 1) := by
  have hd := race_disable
  have he := race_enable
  have ha := race_acquire
  have hcas := run_call_cas_hit (P := Tryz.prog) Tryz.func221 (by kernel_rfl) (by kernel_rfl) (by kernel_rfl) .i32 (by kernel_rfl) (y := 1) hc hz
  have hc' : (w.setCell a (.int .i32 1)).cell? a = some (.int .i32 1) := World.cell?_setCell_same w a _ hc
  have hcv := run_convert_to_unsafe (P := Tryz.prog) (src := 238) (dst := 160) Tryz.underlying238 Tryz.underlying160 (by kernel_rfl) hc'
  go_enter Tryz.func165, Tryz.ntmps165
  go_wp2
  first | go_end0 | (simp only [Exit.inBlock, Exit.then]; refine bodyPost_ret (results_none rfl _ _ _) rfl ?_) | refine bodyPost_ret (results_none rfl _ _ _) rfl ?_
  go_wp2
  all_goals
    go_end0
    exact ⟨rfl, rfl⟩
end Go.Proofs.YtnpgnohlcphfnaaGreatDoor
end
section
namespace Go.Proofs.YtnpgnohlcphfnaaGreatDoor
open Go.RowKit
set_option linter.unusedVariables false

/-- What doSlow leaves behind, the called function having ended in w2. -/
def onceW (b : Nat) (w2 : World) : World := (w2.drew.setCell ⟨b, 0, none⟩ (.int .u32 1)).setCell ⟨b, 1, none⟩ (.int .i32 0)
set_option maxRecDepth 100000 in
set_option maxHeartbeats 1600000 in
theorem doSlow_any (b : Nat) (F : Nat) (w : World) (K : World → Prop)
    (h0 : w.cell? ⟨b, 0, none⟩ = some (.int .u32 0)) (h1 : w.cell? ⟨b, 1, none⟩ = some (.int .i32 0)) (f0 : w.frozen? ⟨b, 0, none⟩ = false) (f1 : w.frozen? ⟨b, 1, none⟩ = false)
    (hf : Calls Tryz.prog 86 #[.pointer (some ⟨b, 0, none⟩)] (w.setCell ⟨b, 1, none⟩ (.int .i32 1)) fun e w2 => e = .returned (.tuple #[]) ∧ K w2)
    (hK : ∀ w2, K w2 → w2.cell? ⟨b, 0, none⟩ = some (.int .u32 0) ∧ w2.cell? ⟨b, 1, none⟩ = some (.int .i32 1) ∧ w2.frozen? ⟨b, 0, none⟩ = false ∧ w2.frozen? ⟨b, 1, none⟩ = false) :
    Calls Tryz.prog 125 #[.pointer (some ⟨b, 0, none⟩), .func (.func 86) #[.pointer (some ⟨b, 0, none⟩)] #[]] w fun e w' => e = .returned (.tuple #[]) ∧ ∃ w2, K w2 ∧ w' = onceW b w2 := by
  have hl := run_call_load (P := Tryz.prog) Tryz.func164 (by kernel_rfl) (by kernel_rfl) (by kernel_rfl) .u32 (by kernel_rfl) (w := w.setCell ⟨b, 1, none⟩ (.int .i32 1)) (a := ⟨b, 0, none⟩) (x := 0) ((World.cell?_setCell_other _ ⟨b, 1, none⟩ ⟨b, 0, none⟩ _ (by simp)).trans h0)
  have hnot : ∀ (x : Bool) (w : World), (Op.unary .not (.bool x)).run Tryz.prog w = .ok (.bool (!x)) w := fun _ _ => rfl
  go_enter_defers Tryz.func125, Tryz.ntmps125
  go_wp2_with fail
  refine (lock_free ⟨b, 1, none⟩ _ h1 f1).mono ?_
  rintro e w' ⟨rfl, rfl⟩
  go_wp2_with (first | (go_at_call 86; refine hf.mono ?_; rintro e w2 ⟨rfl, hk⟩) | (go_at_call 124; go_in))
  obtain ⟨k0, k1, z0, z1⟩ := hK w2 hk
  refine leaves_cons (f := 167) (args := #[.pointer (some ⟨b, 0, none⟩), .bool true]) (by simp) (by simp [go_sem]) ?_
  refine (store_deferred ⟨b, 0, none⟩ (.int .u32 0) .returning _ k0 z0).mono ?_
  rintro e u' w'' ⟨rfl, rfl, rfl⟩
  refine leaves_cons (f := 166) (args := #[.pointer (some ⟨b, 1, none⟩)]) (by simp [settle]) (by simp [go_sem]) ?_
  refine (unlock_deferred ⟨b, 1, none⟩ _ _ ?_ (by simp [z1])).mono ?_
  · refine (World.cell?_setCell_other _ ⟨b, 0, none⟩ ⟨b, 1, none⟩ _ (by simp)).trans ?_
    rw [World.cell?_drew]
    exact k1
  rintro e u' w'' ⟨rfl, rfl, rfl⟩
  simp [Leaves, settle, results, Tryz.results125]
  exact ⟨w2, hk, rfl⟩
set_option maxRecDepth 100000 in
set_option maxHeartbeats 1600000 in
/-- sync.Once.Do of a Replacer's buildOnce, the first time. -/
theorem onceDo_any (b : Nat) (w : World) (K : World → Prop)
    (h0 : w.cell? ⟨b, 0, none⟩ = some (.int .u32 0)) (h1 : w.cell? ⟨b, 1, none⟩ = some (.int .i32 0)) (f0 : w.frozen? ⟨b, 0, none⟩ = false) (f1 : w.frozen? ⟨b, 1, none⟩ = false)
    (hf : Calls Tryz.prog 86 #[.pointer (some ⟨b, 0, none⟩)] (w.setCell ⟨b, 1, none⟩ (.int .i32 1)) fun e w2 => e = .returned (.tuple #[]) ∧ K w2)
    (hK : ∀ w2, K w2 → w2.cell? ⟨b, 0, none⟩ = some (.int .u32 0) ∧ w2.cell? ⟨b, 1, none⟩ = some (.int .i32 1) ∧ w2.frozen? ⟨b, 0, none⟩ = false ∧ w2.frozen? ⟨b, 1, none⟩ = false) :
    Calls Tryz.prog 85 #[.pointer (some ⟨b, 0, none⟩), .func (.func 86) #[.pointer (some ⟨b, 0, none⟩)] #[]] w fun e w' => e = .returned (.tuple #[]) ∧ ∃ w2, K w2 ∧ w' = onceW b w2 := by
  have hl := run_call_load (P := Tryz.prog) Tryz.func164 (by kernel_rfl) (by kernel_rfl) (by kernel_rfl) .u32 (by kernel_rfl) h0
  have hnot : ∀ (x : Bool) (w : World), (Op.unary .not (.bool x)).run Tryz.prog w = .ok (.bool (!x)) w := fun _ _ => rfl
  go_enter Tryz.func85, Tryz.ntmps85
  go_wp2_with (first | (go_at_call 125; refine (doSlow_any b 0 w K h0 h1 f0 f1 hf hK).mono ?_; rintro e w' ⟨rfl, hw⟩) | (go_at_call 124; go_in))
  go_end0
  exact ⟨rfl, hw⟩
end Go.Proofs.YtnpgnohlcphfnaaGreatDoor
end
section
namespace Go.Proofs.YtnpgnohlcphfnaaGreatDoor
open Go.RowKit
set_option linter.unusedVariables false

/-- Block b holds n cells, as f says. -/
def RowV (w : World) (b n : Nat) (f : Nat → Value) : Prop := ∃ C T, w.heap[b]? = some (.cells C T (0, 0)) ∧ ∀ j, j < n → C[j]? = some (f j)
section
variable {w w' : World} {b n : Nat} {f : Nat → Value}
theorem RowV.lt (h : RowV w b n f) : b < w.heap.size := by
  obtain ⟨C, T, h1, _⟩ := h
  exact heap_lt h1
theorem RowV.kept (h : RowV w b n f) (hb : w'.heap[b]? = w.heap[b]?) : RowV w' b n f := by
  obtain ⟨C, T, h1, h2⟩ := h
  exact ⟨C, T, hb.trans h1, h2⟩
theorem RowV.drew (h : RowV w b n f) : RowV w.drew b n f := h
theorem RowV.cell (h : RowV w b n f) {j : Nat} (hj : j < n) : w.cell? ⟨b, j, none⟩ = some (f j) := by
  obtain ⟨C, T, h1, h2⟩ := h
  rw [← h2 j hj]
  unfold World.cell?
  rw [h1]
  simp
theorem RowV.free (h : RowV w b n f) (j : Nat) : w.frozen? ⟨b, j, none⟩ = false := by
  obtain ⟨C, T, h1, _⟩ := h
  unfold World.frozen?
  rw [h1]
  simp
theorem RowV.set (h : RowV w b n f) {k : Nat} (hk : k < n) (v : Value) : RowV (w.setCell ⟨b, k, none⟩ v) b n (fun j => if j = k then v else f j) := by
  obtain ⟨C, T, h1, h2⟩ := h
  refine ⟨C.setIfInBounds k v, T, heap_setCell_same w b k C T _ h1, fun j hj => ?_⟩
  rw [Array.getElem?_setIfInBounds]
  show _ = some (if j = k then v else f j)
  by_cases e : k = j
  · subst e
    have := h2 k hk
    have hlt : k < C.size := (Array.getElem?_eq_some_iff.1 this).1
    simp [hlt]
  · rw [if_neg e, if_neg fun h : j = k => e h.symm]
    exact h2 j hj
theorem add_base (g j : Nat) : Addr.add ⟨g, 0, none⟩ j = ⟨g, j, none⟩ := by
  unfold Addr.add
  split
  · rename_i h0; rw [h0]
  · rw [Nat.zero_add]
theorem RowV.made (W : World) (C : Array Value) (T : TypeId) (h : ∀ j, j < n → C[j]? = some (f j)) : RowV (W.alloc (.cells C T)) W.heap.size n f := by
  refine ⟨C, T, ?_, h⟩
  show (W.heap.push _)[W.heap.size]? = _
  simp
theorem RowV.congr {g : Nat → Value} (h : RowV w b n f) (hg : ∀ j, j < n → f j = g j) : RowV w b n g := by
  obtain ⟨C, T, h1, h2⟩ := h
  exact ⟨C, T, h1, fun j hj => by rw [h2 j hj, hg j hj]⟩
end
/-- append of a run of strings onto a slice of the call's own. -/
theorem wpList_appendStrs {ops : Array Oper} {rest : List Oper} {o : Oper} {a : Act} {W : World} {Q : Exit → Act → World → Prop} {B : Nat} {news : List (List UInt8)} {v : Value} {ss : List (List UInt8)} (hown : OwnStrs W B v ss) (hB : B ≤ W.heap.size)
    (hlen : ss.length + news.length < 1099511627776) (hgd : o.guard = none) (x y : Operand) (t : TypeId) (ad : Addr) (c : Nat)
    (ho : o.op = .call { callee := .builtin .append, args := #[x, y], argTypes := #[t, t] }) (ht : Tryz.prog.underlying t = some (.slice 9))
    (hs : a.eval x = v) (hx : a.eval y = .slice (some ad) news.length c) (hn : ∀ j u, (sv news)[j]? = some u → W.cell? (ad.add j) = some u)
    (h : ∀ v' w', OwnStrs w' B v' (ss ++ news) → W.grownBy w' v.ownBlock → (v'.ownBlock = v.ownBlock ∨ v'.ownBlock = some W.heap.size) → wpList Tryz.prog ops Q rest (a.put o.dst v') w') :
    wpList Tryz.prog ops Q (o :: rest) a W := by
  obtain ⟨i0, hi, hz0, hz1, hz2⟩ := info_parts str_info
  refine wpList_append_own_at _ hgd x y t ho B 9 i0 _ 1 16 ht hi hz0 hz1 hz2 rfl (by omega) v ss.length (sv ss) hs hown ad news.length c (sv news) hx (by simp [sv]) hn ?_ (by simp only [maxLen]; omega) (by omega) hB ?_
  · intro u hu
    obtain ⟨s, _, rfl⟩ := List.mem_map.1 hu
    rfl
  · intro v' w' h1 h2 _ h4
    refine h v' w' ?_ h2 h4
    show w'.ownsRow B _ 1 v' _ _
    rw [show sv (ss ++ news) = sv ss ++ sv news from by simp [sv], List.length_append]
    exact h1
def escStrs : List (List UInt8) := [[92], [92, 92], [34], [92, 34]]
/-- The cells of a Replacer. -/
def repF (d s : Int) (r v : Value) : Nat → Value
  | 0 => .int .u32 d
  | 1 => .int .i32 s
  | 2 => .int .u32 0
  | 3 => r
  | _ => v
/-- A new Replacer. -/
structure NewRepAt (w w' : World) (b g c : Nat) : Prop where
  low : w.heap.size ≤ b
  row : RowV w' b 5 (repF 0 0 .nilIface (.slice (some ⟨g, 0, none⟩) 4 c))
  glow : w.heap.size ≤ g
  glt : g < w'.heap.size
  ne : g ≠ b
  strs : ∀ j u, (sv escStrs)[j]? = some u → w'.cell? ((⟨g, 0, none⟩ : Addr).add j) = some u
  bel : Below w.heap.size w w'
def NewRep (w : World) (e : Ending) (w' : World) : Prop := ∃ b g c, e = .returned (.pointer (some ⟨b, 0, none⟩)) ∧ NewRepAt w w' b g c
theorem newrep_fin {w w2 : World} {g c : Nat} (hg : w.heap.size ≤ g) (hg2 : g < w2.heap.size) (hs : ∀ j u, (sv escStrs)[j]? = some u → w2.cell? ((⟨g, 0, none⟩ : Addr).add j) = some u) (hb : Below w.heap.size w w2) :
    NewRep w (.returned (.pointer (some ⟨w2.heap.size, 0, none⟩))) (w2.alloc (.cells #[.int .u32 0, .int .i32 0, .int .u32 0, .nilIface, .slice (some ⟨g, 0, none⟩) 4 c] 124)) := by
  have hsz := hb.size
  refine ⟨_, g, c, rfl, hsz, RowV.made _ _ _ fun j hj => ?_, hg, by simp; omega, by omega, fun j u hu => ?_, hb.alloc hsz _⟩
  · match j, hj with
    | 0, _ => rfl
    | 1, _ => rfl
    | 2, _ => rfl
    | 3, _ => rfl
    | 4, _ => rfl
  · have h := hs j u hu
    rw [add_base] at h ⊢
    rw [World.cell?_alloc_past _ _ _ hg2]
    exact h
theorem own_strs4 {w2 : World} {B : Nat} {v2 : Value} (h1 : OwnStrs w2 B v2 ([] ++ escStrs)) : ∃ g c, v2 = .slice (some ⟨g, 0, none⟩) 4 c ∧ B ≤ g ∧ g < w2.heap.size ∧ ∀ j u, (sv escStrs)[j]? = some u → w2.cell? ((⟨g, 0, none⟩ : Addr).add j) = some u := by
  have h0 := h1
  rcases h1.2 with ⟨_, hn⟩ | ⟨g, cap, cur, rfl, hb, hg, h5⟩
  · exact absurd hn (by decide)
  · exact ⟨g, cap, rfl, hb, heap_lt hg, fun j u hu => World.ownsRow.cells h0 (g := g) rfl j u hu⟩
set_option maxRecDepth 100000 in
set_option maxHeartbeats 4000000 in
theorem newrep_any (X c : Nat) (w : World) (hX : ∀ j u, (sv escStrs)[j]? = some u → w.cell? ((⟨X, 0, none⟩ : Addr).add j) = some u) :
    Calls Tryz.prog 57 #[.slice (some ⟨X, 0, none⟩) 4 c] w (NewRep w) := by
  have HX := Lib.hid hX
  clear hX
  go_enter Tryz.func57, Tryz.ntmps57
  go_wp2_with (at_builtin; go_must (refine wpList_appendStrs (news := escStrs) (ss := []) (OwnStrs.nil_ w w.heap.size) (Nat.le_refl _) (by decide) rfl (.const (.slice none 0 0)) (.tmp 8) 89 ⟨X, 0, none⟩ c rfl Tryz.underlying89 rfl rfl HX.out ?_); intro v2 w2 h1 h2 h3; (obtain ⟨g, c2, hv, hglow, hglt, hst⟩ := own_strs4 h1); (subst hv); (have HS := Lib.hid hst); (have HB := Lib.hid ((Below.refl w.heap.size w).grown h2 (Nat.le_refl _) fun q e => by cases e)); clear h1 h2 h3 hst)
  go_ret
  exact newrep_fin hglow hglt HS.out HB.out
end Go.Proofs.YtnpgnohlcphfnaaGreatDoor
end
section
namespace Go.Proofs.YtnpgnohlcphfnaaGreatDoor
open Go.RowKit
set_option linter.unusedVariables false

/-- The zero cells of a byteStringReplacer. -/
noncomputable def zRep : Array Value := ((Tryz.prog.info? 189).bind (·.zero)).elim #[] (·.cells)
theorem zRep_size : zRep.size = 257 := by kernel_rfl
def isNilS : Value → Bool
  | .slice none 0 0 => true
  | _ => false
theorem isNilS_eq {v : Value} (h : isNilS v = true) : v = .slice none 0 0 := by
  unfold isNilS at h
  split at h
  · rfl
  · cases h
theorem zRep_all : zRep.toList.all isNilS = true := by kernel_rfl
theorem zRep_at {i : Nat} (h : i < 257) : zRep[i]? = some (.slice none 0 0) := by
  have hs : i < zRep.size := by rw [zRep_size]; exact h
  rw [Array.getElem?_eq_getElem hs]
  have := List.all_eq_true.1 zRep_all zRep[i] (by simp)
  rw [isNilS_eq this]
theorem zRep_agg : ((Tryz.prog.info? 189).bind (·.zero)).elim false (fun z => match z with | .agg _ => true | _ => false) = true := by kernel_rfl
theorem zRep_some : ((Tryz.prog.info? 189).bind (·.zero)).isSome = true := by kernel_rfl
theorem size_rep : (Tryz.prog.info? 189).map (·.size) = some 257 := by kernel_rfl
theorem size_row : (Tryz.prog.info? 187).map (·.size) = some 256 := by kernel_rfl
theorem size_strs : (Tryz.prog.info? 89).map (·.size) = some 1 := by kernel_rfl
/-- The cells of a byteStringReplacer with a list of its own. -/
noncomputable def yRep (v : Value) : Array Value := zRep.setIfInBounds 256 v
theorem yRep_size (v : Value) : (yRep v).size = 257 := by unfold yRep; rw [Array.size_setIfInBounds, zRep_size]
theorem yRep_at {v : Value} {j : Nat} (h : j < 257) : (yRep v)[j]? = some (if j = 256 then v else .slice none 0 0) := by
  unfold yRep
  rw [Array.getElem?_setIfInBounds]
  by_cases e : 256 = j
  · subst e
    have : 256 < zRep.size := by rw [zRep_size]; decide
    simp [this]
  · rw [if_neg e, if_neg fun h : j = 256 => e h.symm]
    exact zRep_at h
set_option maxRecDepth 100000 in
theorem yRep_one {v : Value} (hv : v.oneCell' = true) : (yRep v).all (·.oneCell') = true := by
  rw [Array.all_eq_true]
  intro i hi
  have h := yRep_at (v := v) (j := i) (by rw [yRep_size] at hi; exact hi)
  rw [Array.getElem?_eq_getElem hi] at h
  injection h with h
  rw [h]
  split
  · exact hv
  · rfl
set_option maxRecDepth 100000 in
theorem zRep_val (w : World) : (zeroValue 189).run Tryz.prog w = .ok (.agg zRep) w := by
  have h0 := zRep_some
  cases hi : Tryz.prog.info? 189 with
  | none => rw [hi] at h0; cases h0
  | some it =>
    rw [hi] at h0
    cases hz : it.zero with
    | none => simp [hz] at h0
    | some z =>
      have hzz : z = .agg zRep := by
        have h1 := zRep_agg
        simp only [hi, Option.bind_some, hz, Option.elim_some] at h1
        cases z with
        | agg c => simp [zRep, hi, hz, Value.cells]
        | _ => cases h1
      simp [zeroValue, typeInfo, hi, hz, hzz]
set_option maxRecDepth 100000 in
theorem built_rep (v : Value) (hv : v.cells = #[v]) : Tryz.prog.built 189 [(1, v)] = some (yRep v) := by
  have h0 := zRep_some
  unfold Program.built
  cases hi : Tryz.prog.info? 189 with
  | none => rw [hi] at h0; cases h0
  | some it =>
    rw [hi] at h0
    cases hz : it.zero with
    | none => simp [hz] at h0
    | some z =>
      have hzr : zRep = z.cells := by simp [zRep, hi, hz]
      have hzs : z.cells.size = 257 := by rw [← hzr, zRep_size]
      have hs1 := size_row
      have hs2 := size_strs
      cases h1 : Tryz.prog.info? 187 with
      | none => rw [h1] at hs1; cases hs1
      | some i1 =>
        cases h2 : Tryz.prog.info? 89 with
        | none => rw [h2] at hs2; cases hs2
        | some i2 =>
          have hs3 : i2.size = 1 := by simpa [h2] using hs2
          have hu : Tryz.prog.underlying 189 = some _ := Tryz.underlying189
          simp [hu, hz, h1, h2, Instr.fill, hv, hs3, hzs, yRep, hzr]
theorem build_rep (w : World) (g : Nat) : (Instr.build 189 #[(1, .slice (some ⟨g, 0, none⟩) 0 2)]).run Tryz.prog w = .ok (.agg (yRep (.slice (some ⟨g, 0, none⟩) 0 2))) w := run_build w _ _ _ (built_rep _ rfl)
theorem store_rep (w : World) (g : Nat) : (storeCells ⟨w.heap.size, 0, none⟩ (yRep (.slice (some ⟨g, 0, none⟩) 0 2)).toList 0).run Tryz.prog (w.alloc (.cells zRep 189)) = .ok () (w.alloc (.cells (yRep (.slice (some ⟨g, 0, none⟩) 0 2)) 189)) :=
  run_storeCells_new w _ _ _ (by rw [size_rep, yRep_size]) (by rw [zRep_size, yRep_size]) (yRep_one rfl)
theorem store_rep2 (w : World) : (storeCells ⟨w.heap.size + 1, 0, none⟩ (zRep.toList.set 256 (.slice (some ⟨w.heap.size, 0, none⟩) 0 2)) 0).run Tryz.prog ((w.alloc (.cells (madeCells #[.string ByteArray.empty] 2) 9)).alloc (.cells zRep 189)) = .ok () ((w.alloc (.cells (madeCells #[.string ByteArray.empty] 2) 9)).alloc (.cells (yRep (.slice (some ⟨w.heap.size, 0, none⟩) 0 2)) 189)) := by
  have h := store_rep (w.alloc (.cells (madeCells #[.string ByteArray.empty] 2) 9)) w.heap.size
  have e : (yRep (.slice (some ⟨w.heap.size, 0, none⟩) 0 2)).toList = zRep.toList.set 256 (.slice (some ⟨w.heap.size, 0, none⟩) 0 2) := by
    unfold yRep
    rw [Array.toList_setIfInBounds]
  rw [e] at h
  have e2 : (w.alloc (.cells (madeCells #[.string ByteArray.empty] 2) 9)).heap.size = w.heap.size + 1 := by simp
  rw [e2] at h
  exact h
theorem make_strs2 (W : World) : (Instr.makeSlice 89 (.int .i64 0) (.int .i64 2)).run Tryz.prog W = .ok (.slice (some ⟨W.heap.size, 0, none⟩) 0 2) (W.alloc (.cells (madeCells #[.string ByteArray.empty] 2) 9)) := by
  obtain ⟨i0, hi, hz0, hz1, hz2⟩ := info_parts str_info
  have := run_make (P := Tryz.prog) W 89 9 i0 (.string ByteArray.empty) Tryz.underlying89 hi hz0 .i64 .i64 0 2 (by omega) (by omega) (by rw [hz2]; omega) (by omega)
  rw [this, hz1]
  rfl
theorem nil_eql (W : World) : (binOp .eql 59 (.slice none 0 0) (.slice none 0 0)).run Tryz.prog W = .ok (.bool true) W := by kernel_rfl
/-- A replacement, or none yet. -/
def RepB (w wr : World) (R s : Nat) (d : Bool) (v : Value) (x : UInt8) : Prop := if d = true then ∃ p c, v = .slice (some ⟨p, 0, none⟩) 2 c ∧ w.heap.size ≤ p ∧ p ≠ R ∧ p ≠ s ∧ ByteRow wr p [92, x] else v = .slice none 0 0
/-- The state of the loop that lays the replacements. -/
structure BSt (w : World) (R : Nat) (a b : Bool) (ss : List (List UInt8)) (wr : World) : Prop where
  ex : ∃ s c f, RowV wr R 257 f ∧ f 256 = .slice (some ⟨s, 0, none⟩) ss.length c ∧ OwnStrs wr w.heap.size (.slice (some ⟨s, 0, none⟩) ss.length c) ss ∧ s ≠ R ∧ (∀ j, j < 256 → j ≠ 34 → j ≠ 92 → f j = .slice none 0 0) ∧ RepB w wr R s a (f 34) 34 ∧ RepB w wr R s b (f 92) 92
  low : w.heap.size ≤ R
  bel : Below w.heap.size w wr
theorem BSt.start (w : World) : BSt w (w.heap.size + 1) false false [] ((w.alloc (.cells (madeCells #[.string ByteArray.empty] 2) 9)).alloc (.cells (yRep (.slice (some ⟨w.heap.size, 0, none⟩) 0 2)) 189)) := by
  refine ⟨⟨w.heap.size, 2, (fun j => if j = 256 then .slice (some ⟨w.heap.size, 0, none⟩) 0 2 else .slice none 0 0), ?_, ?_, ?_, by omega, ?_, ?_, ?_⟩, by omega, ((Below.refl _ _).alloc (Nat.le_refl _) _).alloc (by simp) _⟩
  · have h := RowV.made (n := 257) (w.alloc (.cells (madeCells #[.string ByteArray.empty] 2) 9)) (yRep (.slice (some ⟨w.heap.size, 0, none⟩) 0 2)) 189 (fun j hj => yRep_at hj)
    simpa using h
  · rfl
  · exact World.ownsRow.alloc (World.ownsRow_made w _ 2 (Nat.le_refl _) (by decide) (by simp [madeCells])) _
  · intro j hj _ _
    exact if_neg (by omega)
  · rfl
  · rfl
theorem esc_cells {w : World} {g : Nat} (h : ∀ j u, (sv escStrs)[j]? = some u → w.cell? ((⟨g, 0, none⟩ : Addr).add j) = some u) :
    w.cell? ⟨g, 0, none⟩ = some (.string ⟨#[92]⟩) ∧ w.cell? ⟨g, 1, none⟩ = some (.string ⟨#[92, 92]⟩) ∧ w.cell? ⟨g, 2, none⟩ = some (.string ⟨#[34]⟩) ∧ w.cell? ⟨g, 3, none⟩ = some (.string ⟨#[92, 34]⟩) := by
  have h0 := h 0 _ rfl
  have h1 := h 1 _ rfl
  have h2 := h 2 _ rfl
  have h3 := h 3 _ rfl
  rw [add_base] at h0 h1 h2 h3
  exact ⟨h0, h1, h2, h3⟩
theorem own_strsN {w2 : World} {B n : Nat} {v2 : Value} {ss : List (List UInt8)} (h1 : OwnStrs w2 B v2 ss) (hn : ss.length = n) (hp : 0 < n) : ∃ g c, v2 = .slice (some ⟨g, 0, none⟩) n c ∧ B ≤ g ∧ g < w2.heap.size := by
  subst hn
  rcases h1.2 with ⟨_, hn⟩ | ⟨g, cap, cur, rfl, hb, hg, h5⟩
  · omega
  · exact ⟨g, cap, rfl, hb, heap_lt hg⟩
theorem conv_byte (W : World) (c : UInt8) : (convert 59 9 (.slice (some ⟨W.heap.size, 0, none⟩) 1 1)).run Tryz.prog (W.alloc (.cells #[.int .u8 (c.toNat : Int)] 5)) = .ok (.string (ba [c])) (W.alloc (.cells #[.int .u8 (c.toNat : Int)] 5)) :=
  run_convert_bytes_back _ 59 9 5 ⟨W.heap.size, 0, none⟩ 1 [c] Tryz.underlying59 Tryz.underlying5 Tryz.underlying9 fun j hj => by
    have h : j = 0 := by simp at hj; exact hj
    subst h
    simp [Addr.add]
/-- A Replacer that is built. -/
structure ReplAt (B : Nat) (w : World) (R : Nat) (f : Nat → Value) (p q s c1 c2 c3 : Nat) : Prop where
  row : RowV w R 257 f
  list : f 256 = .slice (some ⟨s, 0, none⟩) 2 c3
  f34 : f 34 = .slice (some ⟨p, 0, none⟩) 2 c1
  f92 : f 92 = .slice (some ⟨q, 0, none⟩) 2 c2
  other : ∀ j, j < 256 → j ≠ 34 → j ≠ 92 → f j = .slice none 0 0
  r34 : ByteRow w p [92, 34]
  r92 : ByteRow w q [92, 92]
  strs : w.cell? ⟨s, 0, none⟩ = some (.string ⟨#[34]⟩) ∧ w.cell? ⟨s, 1, none⟩ = some (.string ⟨#[92]⟩)
  low : B ≤ R ∧ B ≤ p ∧ B ≤ q ∧ B ≤ s
  lt : s < w.heap.size
def Repl (B : Nat) (w : World) (R : Nat) : Prop := ∃ f p q s c1 c2 c3, ReplAt B w R f p q s c1 c2 c3
/-- Behind the append onto the list. -/
theorem push_facts {w wr w2 : World} {R s c3 n s' c' n' : Nat} {f : Nat → Value} {x : Int} {ss : List (List UInt8)} (hrow : RowV wr R 257 f) (hsR : s ≠ R) (hsz : w.heap.size ≤ wr.heap.size) (hs0 : w.heap.size ≤ s)
    (h1 : OwnStrs w2 w.heap.size (.slice (some ⟨s', 0, none⟩) n' c') ss) (h2 : (wr.alloc (.cells #[.int .u8 x] 5)).grownBy w2 (Value.slice (some ⟨s, 0, none⟩) n c3).ownBlock)
    (h3 : (Value.slice (some ⟨s', 0, none⟩) n' c').ownBlock = (Value.slice (some ⟨s, 0, none⟩) n c3).ownBlock ∨ ∃ k, (Value.slice (some ⟨s', 0, none⟩) n' c').ownBlock = some k ∧ (wr.alloc (.cells #[.int .u8 x] 5)).heap.size ≤ k) :
    w2.cell? ⟨R, 34, none⟩ = some (f 34) ∧ w2.cell? ⟨R, 256, none⟩ = some (f 256) ∧ w2.frozen? ⟨R, 34, none⟩ = false ∧ w2.frozen? ⟨R, 256, none⟩ = false ∧ w2.cell? ⟨R, 92, none⟩ = some (f 92) ∧ w2.frozen? ⟨R, 92, none⟩ = false ∧ R < w2.heap.size ∧
    RowV w2 R 257 f ∧ s' ≠ R ∧ wr.heap.size ≤ w2.heap.size ∧ OwnStrs w2 w.heap.size (.slice (some ⟨s', 0, none⟩) n' c') ss ∧ (∀ p, p < wr.heap.size → p ≠ s → w2.heap[p]? = wr.heap[p]?) ∧ (s' = s ∨ wr.heap.size ≤ s') ∧ Below w.heap.size wr w2 := by
  have hlt := hrow.lt
  have hb : ∀ p, p < wr.heap.size → p ≠ s → w2.heap[p]? = wr.heap[p]? := fun p hp hne => by
    have h5 := World.grownBy_alloc wr (.cells #[.int .u8 x] 5) none
    exact (h2.block p (by simp; omega) (fun e => hne (Option.some.inj e))).trans (h5.block p hp (by simp))
  have hrow2 := hrow.kept (hb R hlt hsR.symm)
  have hss : s' = s ∨ wr.heap.size ≤ s' := by
    rcases h3 with h3 | ⟨k, h3, h4⟩
    · exact .inl (Option.some.inj h3)
    · have h5 : s' = k := Option.some.inj h3
      simp at h4
      exact .inr (by omega)
  have hsz2 : wr.heap.size ≤ w2.heap.size := by have := h2.size; simp at this; omega
  have hsn : s' ≠ R := by
    rcases hss with h | h
    · rw [h]; exact hsR
    · omega
  exact ⟨hrow2.cell (by omega), hrow2.cell (by omega), hrow2.free _, hrow2.free _, hrow2.cell (by omega), hrow2.free _, by omega, hrow2, hsn, hsz2, h1, hb, hss,
    ((Below.refl w.heap.size wr).alloc hsz _).grown h2 (by simp; omega) fun q e => (by have h5 : s = q := Option.some.inj e; omega)⟩
theorem row_other {w : World} {b n : Nat} {f : Nat → Value} (h : RowV w b n f) {p : Addr} (hne : p.block ≠ b) (v : Value) : RowV (w.setCell p v) b n f := h.kept (heap_setCell_other w p b v (fun e => hne e.symm))
/-- The world behind the store of a replacement. -/
noncomputable def nextW (w2 : World) (R k s' n' c' C : Nat) (t : ByteArray) (T : TypeId) : World :=
  (((w2.setCell ⟨R, 256, none⟩ (.slice (some ⟨s', 0, none⟩) n' c')).setCell ⟨R, k, none⟩ (.slice (some ⟨w2.heap.size, 0, none⟩) 2 C)).alloc (.cells (bytesRow t C) T ((bytesRow t C).size, (bytesRow t C).size + 1))).drew
theorem next_facts {w w2 : World} {R k s' n' c' C : Nat} {f : Nat → Value} {ss : List (List UInt8)} {x : UInt8} {T : TypeId} (hk : k < 256) (hrow : RowV w2 R 257 f) (hsn : s' ≠ R)
    (hown : OwnStrs w2 w.heap.size (.slice (some ⟨s', 0, none⟩) n' c') ss) (hlow : w.heap.size ≤ R) (hbel : Below w.heap.size w w2) (hC : 2 ≤ C) :
    RowV (nextW w2 R k s' n' c' C (ba [92, x]) T) R 257 (fun j => if j = k then .slice (some ⟨w2.heap.size, 0, none⟩) 2 C else if j = 256 then .slice (some ⟨s', 0, none⟩) n' c' else f j) ∧
    OwnStrs (nextW w2 R k s' n' c' C (ba [92, x]) T) w.heap.size (.slice (some ⟨s', 0, none⟩) n' c') ss ∧ ByteRow (nextW w2 R k s' n' c' C (ba [92, x]) T) w2.heap.size [92, x] ∧ Below w.heap.size w (nextW w2 R k s' n' c' C (ba [92, x]) T) ∧
    (∀ p, p < w2.heap.size → p ≠ R → (nextW w2 R k s' n' c' C (ba [92, x]) T).heap[p]? = w2.heap[p]?) := by
  have hlt := hrow.lt
  have hsz : ((w2.setCell ⟨R, 256, none⟩ (.slice (some ⟨s', 0, none⟩) n' c')).setCell ⟨R, k, none⟩ (.slice (some ⟨w2.heap.size, 0, none⟩) 2 C)).heap.size = w2.heap.size := by rw [World.size_setCell, World.size_setCell]
  have hfar : ∀ p, p < w2.heap.size → p ≠ R → (nextW w2 R k s' n' c' C (ba [92, x]) T).heap[p]? = w2.heap[p]? := fun p hp hne => by
    unfold nextW
    refine (heap_alloc_old _ _ (by rw [hsz]; exact hp)).trans ?_
    rw [heap_setCell_other _ _ _ _ (fun e => hne e), heap_setCell_other _ _ _ _ (fun e => hne e)]
  have hrow2 := (hrow.set (k := 256) (by omega) (.slice (some ⟨s', 0, none⟩) n' c')).set (k := k) (by omega) (.slice (some ⟨w2.heap.size, 0, none⟩) 2 C)
  refine ⟨?_, ?_, ?_, ?_, hfar⟩
  · refine hrow2.kept ?_
    unfold nextW
    exact heap_alloc_old _ _ (by rw [hsz]; exact hlt)
  · exact ownsRow_block hown fun b e => hfar b (World.ownsRow.lt hown b e).2 (by have : s' = b := Option.some.inj e; omega)
  · have h := ByteRow.of_string ((w2.setCell ⟨R, 256, none⟩ (.slice (some ⟨s', 0, none⟩) n' c')).setCell ⟨R, k, none⟩ (.slice (some ⟨w2.heap.size, 0, none⟩) 2 C)) [92, x] C T (bytesRow (ba [92, x]) C).size (by rw [bytesRow_size _ _ (by rw [ba_size]; exact hC)]; exact hC)
    rw [hsz] at h
    exact h
  · have hs0 := hbel.size
    refine (Below.alloc ((hbel.setCell ?_ _).setCell ?_ _) ?_ _).drew
    · exact hlow
    · exact hlow
    · rw [hsz]; exact hs0
theorem RepB.next {w wr W : World} {R s s' : Nat} {d : Bool} {v : Value} {x : UInt8} (h : RepB w wr R s d v x) (hb : ∀ p, p < wr.heap.size → p ≠ s → p ≠ R → W.heap[p]? = wr.heap[p]?) (hs : s' = s ∨ wr.heap.size ≤ s') : RepB w W R s' d v x := by
  cases d with
  | false => exact h
  | true =>
    obtain ⟨p, c, rfl, h1, h2, h3, h4⟩ := h
    have h5 := h4.lt
    exact ⟨p, c, rfl, h1, h2, by omega, h4.kept (hb p h5 h3 h2)⟩
def BuildPost (w : World) (e : Ending) (w' : World) : Prop := ∃ R, e = .returned (.iface 190 (.pointer (some ⟨R, 0, none⟩))) ∧ Repl w.heap.size w' R ∧ Below w.heap.size w w'
theorem bst_34 {w wr w2 : World} {R s s' c3 n' c' C : Nat} {f : Nat → Value} {ss ss' : List (List UInt8)} {T : TypeId} (hrest : f 256 = .slice (some ⟨s, 0, none⟩) ss.length c3 ∧ (∀ j, j < 256 → j ≠ 34 → j ≠ 92 → f j = .slice none 0 0) ∧ RepB w wr R s false (f 34) 34 ∧ RepB w wr R s false (f 92) 92)
    (hsR : s ≠ R) (hbel : Below w.heap.size w wr) (hsz : w.heap.size ≤ wr.heap.size) (hp : w2.cell? ⟨R, 34, none⟩ = some (f 34) ∧ w2.cell? ⟨R, 256, none⟩ = some (f 256) ∧ w2.frozen? ⟨R, 34, none⟩ = false ∧ w2.frozen? ⟨R, 256, none⟩ = false ∧ w2.cell? ⟨R, 92, none⟩ = some (f 92) ∧ w2.frozen? ⟨R, 92, none⟩ = false ∧ R < w2.heap.size ∧
    RowV w2 R 257 f ∧ s' ≠ R ∧ wr.heap.size ≤ w2.heap.size ∧ OwnStrs w2 w.heap.size (.slice (some ⟨s', 0, none⟩) n' c') ss' ∧ (∀ p, p < wr.heap.size → p ≠ s → w2.heap[p]? = wr.heap[p]?) ∧ (s' = s ∨ wr.heap.size ≤ s') ∧ Below w.heap.size wr w2) (hlow : w.heap.size ≤ R) (hC : 2 ≤ C) (hn : ss'.length = n') :
    BSt w R true false ss' (nextW w2 R 34 s' n' c' C (ba [92, 34]) T) := by
  obtain ⟨_, h34, h92⟩ := hrest.2
  have hoth := hrest.2.1
  obtain ⟨_, _, _, _, _, _, hlt, hrow, hsn, hsz2, hown, hb, hss, hbl⟩ := hp
  subst hn
  obtain ⟨n1, n2, n3, n4, n5⟩ := next_facts (x := 34) (k := 34) (T := T) (C := C) (by omega) hrow hsn hown hlow (hbel.trans hbl) hC
  refine ⟨⟨s', c', _, n1, rfl, n2, hsn, fun j hj ha hb2 => ?_, ?_, ?_⟩, hlow, n4⟩
  · show (if j = 34 then _ else if j = 256 then _ else f j) = _
    rw [if_neg (by omega), if_neg (by omega)]
    exact hoth j hj ha hb2
  · refine ⟨w2.heap.size, C, rfl, by omega, by omega, ?_, n3⟩
    have := (World.ownsRow.lt hown s' rfl).2
    omega
  · refine RepB.next h92 (fun p hp hps hpR => ?_) hss
    exact (n5 p (by omega) hpR).trans (hb p hp hps)
theorem bst_92 {w wr w2 : World} {R s s' c3 n' c' C : Nat} {f : Nat → Value} {ss ss' : List (List UInt8)} {T : TypeId} (hrest : f 256 = .slice (some ⟨s, 0, none⟩) ss.length c3 ∧ (∀ j, j < 256 → j ≠ 34 → j ≠ 92 → f j = .slice none 0 0) ∧ RepB w wr R s true (f 34) 34 ∧ RepB w wr R s false (f 92) 92)
    (hsR : s ≠ R) (hbel : Below w.heap.size w wr) (hsz : w.heap.size ≤ wr.heap.size) (hp : w2.cell? ⟨R, 34, none⟩ = some (f 34) ∧ w2.cell? ⟨R, 256, none⟩ = some (f 256) ∧ w2.frozen? ⟨R, 34, none⟩ = false ∧ w2.frozen? ⟨R, 256, none⟩ = false ∧ w2.cell? ⟨R, 92, none⟩ = some (f 92) ∧ w2.frozen? ⟨R, 92, none⟩ = false ∧ R < w2.heap.size ∧
    RowV w2 R 257 f ∧ s' ≠ R ∧ wr.heap.size ≤ w2.heap.size ∧ OwnStrs w2 w.heap.size (.slice (some ⟨s', 0, none⟩) n' c') ss' ∧ (∀ p, p < wr.heap.size → p ≠ s → w2.heap[p]? = wr.heap[p]?) ∧ (s' = s ∨ wr.heap.size ≤ s') ∧ Below w.heap.size wr w2) (hlow : w.heap.size ≤ R) (hC : 2 ≤ C) (hn : ss'.length = n') :
    BSt w R true true ss' (nextW w2 R 92 s' n' c' C (ba [92, 92]) T) := by
  obtain ⟨_, h34, h92⟩ := hrest.2
  have hoth := hrest.2.1
  obtain ⟨_, _, _, _, _, _, hlt, hrow, hsn, hsz2, hown, hb, hss, hbl⟩ := hp
  subst hn
  obtain ⟨n1, n2, n3, n4, n5⟩ := next_facts (x := 92) (k := 92) (T := T) (C := C) (by omega) hrow hsn hown hlow (hbel.trans hbl) hC
  refine ⟨⟨s', c', _, n1, rfl, n2, hsn, fun j hj ha hb2 => ?_, ?_, ?_⟩, hlow, n4⟩
  · show (if j = 92 then _ else if j = 256 then _ else f j) = _
    rw [if_neg (by omega), if_neg (by omega)]
    exact hoth j hj ha hb2
  · refine RepB.next h34 (fun p hp hps hpR => ?_) hss
    exact (n5 p (by omega) hpR).trans (hb p hp hps)
  · refine ⟨w2.heap.size, C, rfl, by omega, by omega, ?_, n3⟩
    have := (World.ownsRow.lt hown s' rfl).2
    omega
theorem built_fin {w wr : World} (h : BSt w (w.heap.size + 1) true true [[34], [92]] wr) : BuildPost w (.returned (.iface 190 (.pointer (some ⟨w.heap.size + 1, 0, none⟩)))) wr := by
  obtain ⟨s, c3, f, hrow, h256, hown, hsR, hoth, ⟨p, c1, e1, l1, _, _, b1⟩, ⟨q, c2, e2, l2, _, _, b2⟩⟩ := h.ex
  have hl := World.ownsRow.lt hown s rfl
  have k0 := World.ownsRow.cells hown (g := s) rfl 0 _ rfl
  have k1 := World.ownsRow.cells hown (g := s) rfl 1 _ rfl
  rw [add_base] at k0 k1
  exact ⟨_, rfl, ⟨f, p, q, s, c1, c2, c3, hrow, h256, e1, e2, hoth, b1, b2, ⟨k0, k1⟩, ⟨by omega, l1, l2, hl.1⟩, hl.2⟩, h.bel⟩
set_option maxRecDepth 100000 in
set_option maxHeartbeats 1000000 in
theorem repbuild_any (b g c : Nat) (w : World) (h4 : w.cell? ⟨b, 4, none⟩ = some (.slice (some ⟨g, 0, none⟩) 4 c)) (hg : g < w.heap.size) (hs : ∀ j u, (sv escStrs)[j]? = some u → w.cell? ((⟨g, 0, none⟩ : Addr).add j) = some u) :
    Calls Tryz.prog 126 #[.pointer (some ⟨b, 0, none⟩)] w (BuildPost w) := by
  obtain ⟨s0, s1, s2, s3⟩ := esc_cells hs
  have hz := zRep_val
  have hbu := build_rep
  have hst := store_rep2
  have hmk := make_strs2
  have HST := Lib.hid (BSt.start w)
  clear hs
  go_enter Tryz.func126, Tryz.ntmps126
  go_wp2
  go_loop [4, 5] (fun a i => a = .bool true ∧ i = .int .i64 0 ∨ a = .bool false ∧ i = .int .i64 2 ∨ a = .bool false ∧ i = .int .i64 4) (fun _ i => 4 - (intOf i).toNat)
  case atStart => exact .inl ⟨rfl, rfl⟩
  case round =>
    rcases hrel with ⟨rfl, rfl⟩ | ⟨rfl, rfl⟩ | ⟨rfl, rfl⟩
    · go_wp2
      go_round
      case rel => exact .inr (.inl ⟨rfl, rfl⟩)
      case measure => simp [intOf]
    · go_wp2
      go_round
      case rel => exact .inr (.inr ⟨rfl, rfl⟩)
      case measure => simp [intOf]
    · go_wp2
      go_loopw [12, 13, 14] (fun i o n wr => ∃ y z : Value, o = y ∧ n = z ∧ (i = .int .i64 2 ∧ Hid (BSt w (w.heap.size + 1) false false [] wr) ∨ i = .int .i64 0 ∧ Hid (BSt w (w.heap.size + 1) true false [[34]] wr) ∨ i = .int .i64 (-2) ∧ Hid (BSt w (w.heap.size + 1) true true [[34], [92]] wr))) (fun i _ _ _ => (intOf i + 2).toNat)
      case atStart => exact ⟨_, _, rfl, rfl, .inl ⟨rfl, HST⟩⟩
      case round =>
        obtain ⟨y, z, rfl, rfl, hr⟩ := hrel
        clear hz hbu hst hmk HST
        have hnl := nil_eql
        have hcv := fun (W : World) (S : ByteArray) => run_bytes_of_string (P := Tryz.prog) W 9 59 5 S Tryz.underlying9 Tryz.underlying59 Tryz.underlying5
        rcases hr with ⟨rfl, HR⟩ | ⟨rfl, HR⟩ | ⟨rfl, HR⟩
        · have hbel := HR.out.bel
          have t2 := (hbel.cell (p := ⟨g, 2, none⟩) hg).trans s2
          have t3 := (hbel.cell (p := ⟨g, 3, none⟩) hg).trans s3
          obtain ⟨s, c3, f, hrow, h256, hown, hsR, hoth, h34, h92⟩ := HR.out.ex
          have hf34 : f 34 = .slice none 0 0 := h34
          have r34 := hrow.cell (j := 34) (by omega)
          have r256 := hrow.cell (j := 256) (by omega)
          have z34 := hrow.free 34
          have z256 := hrow.free 256
          rw [hf34] at r34
          rw [h256] at r256
          have hsz := hbel.size
          have hcb : (convert 59 9 (.slice (some ⟨wr.heap.size, 0, none⟩) 1 1)).run Tryz.prog (wr.alloc (.cells #[.int .u8 34] 5)) = .ok (.string (ba [34])) (wr.alloc (.cells #[.int .u8 34] 5)) := conv_byte wr 34
          have HOWN := Lib.hid (World.ownsRow.alloc hown (.cells #[.int .u8 34] 5))
          have HROW := Lib.hid hrow
          have HSR := Lib.hid hsR
          have HS0 := Lib.hid (World.ownsRow.lt hown s rfl).1
          have hg34 : ((⟨#[34]⟩ : ByteArray)[0]'(by decide)).toNat = 34 := rfl
          have HREST := Lib.hid (And.intro h256 (And.intro hoth (And.intro h34 h92)))
          have HBEL := Lib.hid hbel
          clear hbel hrow h256 hown hsR hoth h34 h92 hf34 HR
          go_wp2_with (at_builtin; go_must (refine wpList_pushStr (s := [34]) (W := wr.alloc (.cells #[.int .u8 34] 5)) HOWN.out (by simp; omega) (by decide) rfl (.tmp 119) (.tmp 123) 89 1 rfl Tryz.underlying89 rfl (by show Value.slice (some ⟨wr.heap.size + 1, 0, none⟩) 1 1 = _; simp) ?_); intro v2 w2 h1 h2 h3; (obtain ⟨s', c', hv, hs1, hs2⟩ := own_strsN h1 (n := 1) rfl (by omega)); (subst hv); (have HST2 := Lib.hid (push_facts HROW.out HSR.out hsz HS0.out h1 h2 h3)); (have q34 := HST2.out.1); (have q256 := HST2.out.2.1); (have y34 := HST2.out.2.2.1); (have y256 := HST2.out.2.2.2.1); (have hRlt := HST2.out.2.2.2.2.2.2.1); clear h1 h2 h3)
          go_roundw
          case rel => exact ⟨_, _, rfl, rfl, .inr (.inl ⟨rfl, Lib.hid (bst_34 HREST.out HSR.out HBEL.out hsz HST2.out (Nat.le_succ _) (Nat.le_trans (by decide) (grownCap_ge _ _ _ _)) rfl)⟩)⟩
          case measure => simp [intOf]
        · have hbel := HR.out.bel
          have t0 := (hbel.cell (p := ⟨g, 0, none⟩) hg).trans s0
          have t1 := (hbel.cell (p := ⟨g, 1, none⟩) hg).trans s1
          obtain ⟨s, c3, f, hrow, h256, hown, hsR, hoth, h34, h92⟩ := HR.out.ex
          have hf92 : f 92 = .slice none 0 0 := h92
          have r92 := hrow.cell (j := 92) (by omega)
          have r256 := hrow.cell (j := 256) (by omega)
          have z92 := hrow.free 92
          have z256 := hrow.free 256
          rw [hf92] at r92
          rw [h256] at r256
          have hsz := hbel.size
          have hcb : (convert 59 9 (.slice (some ⟨wr.heap.size, 0, none⟩) 1 1)).run Tryz.prog (wr.alloc (.cells #[.int .u8 92] 5)) = .ok (.string (ba [92])) (wr.alloc (.cells #[.int .u8 92] 5)) := conv_byte wr 92
          have HOWN := Lib.hid (World.ownsRow.alloc hown (.cells #[.int .u8 92] 5))
          have HROW := Lib.hid hrow
          have HSR := Lib.hid hsR
          have HS0 := Lib.hid (World.ownsRow.lt hown s rfl).1
          have hg34 : ((⟨#[92]⟩ : ByteArray)[0]'(by decide)).toNat = 92 := rfl
          have HREST := Lib.hid (And.intro h256 (And.intro hoth (And.intro h34 h92)))
          have HBEL := Lib.hid hbel
          clear hbel hrow h256 hown hsR hoth h34 h92 hf92 HR
          go_wp2_with (at_builtin; go_must (refine wpList_pushStr (s := [92]) (W := wr.alloc (.cells #[.int .u8 92] 5)) HOWN.out (by simp; omega) (by decide) rfl (.tmp 119) (.tmp 123) 89 1 rfl Tryz.underlying89 rfl (by show Value.slice (some ⟨wr.heap.size + 1, 0, none⟩) 1 1 = _; simp) ?_); intro v2 w2 h1 h2 h3; (obtain ⟨s', c', hv, hs1, hs2⟩ := own_strsN h1 (n := 2) rfl (by omega)); (subst hv); (have HST2 := Lib.hid (push_facts HROW.out HSR.out hsz HS0.out h1 h2 h3)); (have q92 := HST2.out.2.2.2.2.1); (have q256 := HST2.out.2.1); (have y92 := HST2.out.2.2.2.2.2.1); (have y256 := HST2.out.2.2.2.1); (have hRlt := HST2.out.2.2.2.2.2.2.1); clear h1 h2 h3)
          go_roundw
          case rel => exact ⟨_, _, rfl, rfl, .inr (.inr ⟨rfl, Lib.hid (bst_92 HREST.out HSR.out HBEL.out hsz HST2.out (Nat.le_succ _) (Nat.le_trans (by decide) (grownCap_ge _ _ _ _)) rfl)⟩)⟩
          case measure => simp [intOf]
        · go_wp2
          go_ret
          exact built_fin HR.out
end Go.Proofs.YtnpgnohlcphfnaaGreatDoor
end
