/- Maps that are sets of keys: what is done to them. -/
import Derived.Test.YtekkngkphejfcaaDoorDfrz
import Derived.MapKept
namespace Go.Proofs.YtekkngkphejfcaaDoor
open Go.RowKit

def intT (P : Program) (t : TypeId) : Bool := match P.underlying t with
  | some (.int .i64) => true
  | _ => false
theorem intT_spec {P : Program} {t : TypeId} (h : intT P t = true) : P.underlying t = some (.int .i64) := by
  unfold intT at h
  split at h
  · assumption
  · cases h
/-- Of how many integers the keys of a type are. -/
def keyB (P : Program) (t : TypeId) : Option Nat := match P.underlying t with
  | some (.int .i64) => some 1
  | some (.struct fs) => match fs.toList with
    | [f, g] => if f.name != "_" && g.name != "_" && decide (f.offset = 0) && decide (g.offset = 1) && intT P f.type && intT P g.type && !P.stoodInHeld t then some 2 else none
    | _ => none
  | _ => none
section
variable {P : Program} {w : World} {t : TypeId}

theorem keyB_cases {n : Nat} (h : keyB P t = some n) : (n = 1 ∧ P.underlying t = some (.int .i64)) ∨ ∃ f g fs, n = 2 ∧ P.underlying t = some (.struct fs) ∧ fs.toList = [f, g] ∧ f.name ≠ "_" ∧ g.name ≠ "_" ∧ f.offset = 0 ∧ g.offset = 1 ∧ P.underlying f.type = some (.int .i64) ∧ P.underlying g.type = some (.int .i64) ∧ P.stoodInHeld t = false := by
  unfold keyB at h
  split at h
  · exact .inl ⟨(Option.some.inj h).symm, by assumption⟩
  · rename_i fs hu
    split at h
    · rename_i f g hf
      split at h
      · rename_i hc
        simp only [Bool.and_eq_true, bne_iff_ne, ne_eq, decide_eq_true_eq, Bool.not_eq_true'] at hc
        obtain ⟨⟨⟨⟨⟨⟨h1, h2⟩, h3⟩, h4⟩, h5⟩, h6⟩, h7⟩ := hc
        exact .inr ⟨f, g, fs, (Option.some.inj h).symm, hu, hf, h1, h2, h3, h4, intT_spec h5, intT_spec h6, h7⟩
      · cases h
    · cases h
  · cases h

theorem run_part_int {t : TypeId} (h : P.underlying t = some (.int .i64)) (cs : Array Value) (o : Nat) (v : Value) (hv : cs[o]? = some v) : (part t cs o).run P w = .ok v w := by
  unfold part
  rw [Sem.run_bind, run_isAgg' h]
  simp [Result.andThen, isAggB, h, hv]
theorem key_two {x : List Int} (h : x.length = 2) : ∃ a b, x = [a, b] := by
  match x, h with
  | [a, b], _ => exact ⟨a, b, rfl⟩
theorem key_one {x : List Int} (h : x.length = 1) : ∃ a, x = [a] := by
  match x, h with
  | [a], _ => exact ⟨a, rfl⟩
theorem key_check {n : Nat} (hk : keyB P t = some n) {x : List Int} (hx : x.length = n) (e : Bool) : (Instr.checkKey e 10000 t (keyV x)).run P w = .ok () w := by
  rcases keyB_cases hk with ⟨rfl, hu⟩ | ⟨f, g, fs, rfl, hu, hf, n1, n2, o1, o2, t1, t2, _⟩
  · obtain ⟨a, rfl⟩ := key_one hx
    exact MapKept.run_checkKey hu (by trivial) e 9999
  · obtain ⟨a, b, rfl⟩ := key_two hx
    show (Instr.checkKey e (9999 + 1) t (.agg #[.int .i64 a, .int .i64 b])).run P w = _
    unfold Instr.checkKey
    have c1 : ∀ a, (Instr.checkKey e 9999 f.type (.int .i64 a)).run P w = .ok () w := fun a => MapKept.run_checkKey t1 (by trivial) e 9998
    have c2 : ∀ a, (Instr.checkKey e 9999 g.type (.int .i64 a)).run P w = .ok () w := fun a => MapKept.run_checkKey t2 (by trivial) e 9998
    simp only [Sem.run_bind, run_underlying hu, Result.andThen]
    rw [← Array.forIn_toList, hf]
    simp only [List.forIn_cons, List.forIn_nil, n1, n2, ne_eq, not_false_eq_true, if_true, o1, o2, Sem.run_bind]
    rw [run_part_int t1 _ 0 (.int .i64 a) rfl]
    simp only [Result.andThen, c1, Sem.run_pure, Sem.run_bind]
    rw [run_part_int t2 _ 1 (.int .i64 b) rfl]
    simp only [Result.andThen, c2, Sem.run_pure]
theorem key_eq {n : Nat} (hk : keyB P t = some n) {x y : List Int} (hx : x.length = n) (hy : y.length = n) : (Op.equal t (keyV x) (keyV y)).run P w = .ok (x == y) w := by
  rcases keyB_cases hk with ⟨rfl, hu⟩ | ⟨f, g, fs, rfl, hu, hf, n1, n2, o1, o2, t1, t2, hs⟩
  · obtain ⟨a, rfl⟩ := key_one hx
    obtain ⟨b, rfl⟩ := key_one hy
    show (Op.equalIn (9999 + 1) t (.int .i64 a) (.int .i64 b)).run P w = _
    rw [run_equalIn_int w 9999 t .i64 .i64 a b hu]
    congr 1
    rw [Bool.eq_iff_iff]; simp
  · obtain ⟨a, b, rfl⟩ := key_two hx
    obtain ⟨c, d, rfl⟩ := key_two hy
    have hF : P.fieldsOf t = fs := by unfold Program.fieldsOf; rw [hu]
    show (Op.equalIn (9999 + 1) t (.agg #[.int .i64 a, .int .i64 b]) (.agg #[.int .i64 c, .int .i64 d])).run P w = _
    rw [run_equalIn_struct w 9999 t _ _ (by rw [hF]; exact hu) hs, hF, hf]
    have e1 : ∀ a c : Int, (Op.equalIn 9999 f.type (.int .i64 a) (.int .i64 c)).run P w = .ok (a == c) w := fun a c => run_equalIn_int w 9998 f.type .i64 .i64 a c t1
    have e2 : ∀ a c : Int, (Op.equalIn 9999 g.type (.int .i64 a) (.int .i64 c)).run P w = .ok (a == c) w := fun a c => run_equalIn_int w 9998 g.type .i64 .i64 a c t2
    simp only [Op.eqFields, n1, n2, ne_eq, not_false_eq_true, if_true, o1, o2, Sem.run_bind]
    rw [run_part_int t1 _ 0 (.int .i64 a) rfl]
    simp only [Result.andThen]
    rw [run_part_int t1 _ 0 (.int .i64 c) rfl]
    simp only [Result.andThen, e1, Sem.run_ite]
    by_cases h1 : a = c
    · subst h1
      simp only [beq_self_eq_true, Bool.not_true, Bool.false_eq_true, if_false, Sem.run_bind]
      rw [run_part_int t2 _ 1 (.int .i64 b) rfl]
      simp only [Result.andThen]
      rw [run_part_int t2 _ 1 (.int .i64 d) rfl]
      simp only [Result.andThen, e2, Sem.run_ite]
      by_cases h2 : b = d
      · subst h2; simp
      · have : ([a, b] == [a, d]) = false := by simp [h2]
        have h2' : (b == d) = false := by simp [h2]
        simp [h2', h2]
    · have h1' : (a == c) = false := by simp [h1]
      simp [h1', h1]
/-- The entry of a key. -/
theorem key_find {n : Nat} (hk : keyB P t = some n) {x : List Int} (hx : x.length = n) {ks : KS} (hks : ∀ y ∈ ks, y.length = n) {es : List MapEntry} (he : ∀ e ∈ es, ∃ y ∈ ks, e.key = keyV y) :
    ((Instr.findKey t (keyV x) es).run P w = .ok none w ∧ ∀ e ∈ es, e.key ≠ keyV x) ∨ ∃ j e, (Instr.findKey t (keyV x) es).run P w = .ok (some (j, e.val)) w ∧ es[j]? = some e ∧ e.key = keyV x := by
  have ask : ∀ (es : List MapEntry) (i : Nat), (∀ e ∈ es, ∃ y ∈ ks, e.key = keyV y) → ((Instr.findAsking t (keyV x) es i).run P w = .ok none w ∧ ∀ e ∈ es, e.key ≠ keyV x) ∨ ∃ j e, (Instr.findAsking t (keyV x) es i).run P w = .ok (some (i + j, e.val)) w ∧ es[j]? = some e ∧ e.key = keyV x := by
    intro es
    induction es with
    | nil => intro i _; exact .inl ⟨rfl, fun e he => by cases he⟩
    | cons e es ih =>
      intro i he
      obtain ⟨y, hy, hy2⟩ := he e (by simp)
      have h1 : (Op.equal t (keyV x) e.key).run P w = .ok (x == y) w := by rw [hy2]; exact key_eq hk hx (hks y hy)
      by_cases hxy : x = y
      · subst hxy
        exact .inr ⟨0, e, by simp [Instr.findAsking, h1, Result.andThen], rfl, hy2⟩
      · have hf : (x == y) = false := by simp [hxy]
        rcases ih (i + 1) (fun e he' => he e (by simp [he'])) with ⟨g1, g2⟩ | ⟨j, e', g1, g2, g3⟩
        · refine .inl ⟨by simp [Instr.findAsking, h1, hf, Result.andThen, g1], fun e' he' => ?_⟩
          rcases List.mem_cons.1 he' with rfl | he'
          · rw [hy2]; exact fun h => hxy (keyV_inj h).symm
          · exact g2 e' he'
        · exact .inr ⟨j + 1, e', by simp [Instr.findAsking, h1, hf, Result.andThen, g1]; omega, by simpa using g2, g3⟩
  rcases keyB_cases hk with ⟨rfl, hu⟩ | ⟨f, g, fs, rfl, hu, _⟩
  · obtain ⟨a, rfl⟩ := key_one hx
    rcases MapKept.findNow_spec (d := .int .i64) (k := .int .i64 a) (by trivial) es 0 (fun e hm => by
      obtain ⟨y, hy, hy2⟩ := he e hm
      obtain ⟨b, rfl⟩ := key_one (hks y hy)
      rw [hy2]; trivial) with ⟨h1, h2⟩ | ⟨j, e, h1, h2, h3⟩
    · exact .inl ⟨MapKept.run_findKey hu h1, h2⟩
    · exact .inr ⟨j, e, by have := MapKept.run_findKey (w := w) hu h1; rw [Nat.zero_add] at this; exact this, h2, h3⟩
  · have hn : ∀ es : List MapEntry, (∀ e ∈ es, ∃ y ∈ ks, e.key = keyV y) → (Instr.findKey t (keyV x) es).run P w = (match es with | [] => .ok none w | _ => (Instr.findAsking t (keyV x) es 0).run P w) := fun es he => by
      cases es with
      | nil => simp [Instr.findKey, run_underlying hu, Instr.findNow, Result.andThen]
      | cons e es =>
        have : Instr.findNow (.struct fs) (keyV x) (e :: es) 0 = none := by
          simp [Instr.findNow, Instr.sameNow]
        simp [Instr.findKey, run_underlying hu, this, Result.andThen]
    rw [hn es he]
    cases es with
    | nil => exact .inl ⟨rfl, fun e he => by cases he⟩
    | cons e es =>
      rcases ask (e :: es) 0 he with h | ⟨j, e', g1, g2⟩
      · exact .inl h
      · exact .inr ⟨j, e', by simpa using g1, g2⟩
theorem key_stays {n : Nat} (hk : keyB P t = some n) {x : List Int} (hx : x.length = n) : (Instr.keyThatStays (keyV x) (keyV x)).run P w = .ok (keyV x) w := by
  rcases keyB_cases hk with ⟨rfl, hu⟩ | ⟨f, g, fs, rfl, hu, _⟩
  · obtain ⟨a, rfl⟩ := key_one hx
    exact MapKept.run_keyThatStays (d := .int .i64) (by trivial)
  · obtain ⟨a, b, rfl⟩ := key_two hx
    have : Instr.sameBits 10000 (keyV [a, b]) (keyV [a, b]) = true := by
      show Instr.sameBits (9998 + 1 + 1) (.agg #[.int .i64 a, .int .i64 b]) (.agg #[.int .i64 a, .int .i64 b]) = true
      simp [Instr.sameBits]
    simp [Instr.keyThatStays, this]
end

/-! ### Sets in order -/
def ltK : List Int → List Int → Bool
  | _, [] => false
  | [], _ :: _ => true
  | a :: r, b :: s => decide (a < b) || (a == b && ltK r s)
def insK (x : List Int) : KS → KS
  | [] => [x]
  | y :: r => if ltK x y then x :: y :: r else y :: insK x r
def putK (x : List Int) (l : KS) : KS := if l.contains x then l else insK x l
theorem insK_perm (x : List Int) : ∀ l : KS, (insK x l).Perm (x :: l)
  | [] => List.Perm.refl _
  | y :: r => by
    unfold insK
    split
    · exact List.Perm.refl _
    · exact ((insK_perm x r).cons y).trans (List.Perm.swap x y r)
theorem putK_old {x : List Int} {l : KS} (h : x ∈ l) : putK x l = l := by unfold putK; simp [h]
theorem putK_new {x : List Int} {l : KS} (h : x ∉ l) : (putK x l).Perm (x :: l) := by unfold putK; simp [h]; exact insK_perm x l
theorem mem_putK {x y : List Int} {l : KS} : y ∈ putK x l ↔ y = x ∨ y ∈ l := by
  by_cases h : x ∈ l
  · rw [putK_old h]; exact ⟨.inr, fun h' => h'.elim (fun e => e ▸ h) id⟩
  · rw [(putK_new h).mem_iff]; simp

section
variable {P : Program} {w : World} {b n : Nat} {l : KS} {es : Array MapEntry} {clock : Nat}
theorem MapAt.key (h : MapAt w b n l es clock) : ∀ e ∈ es.toList, ∃ y ∈ l, e.key = keyV y := fun e he => by
  have : e.key ∈ es.toList.map (·.key) := List.mem_map.2 ⟨e, he, rfl⟩
  obtain ⟨y, h1, h2⟩ := List.mem_map.1 (h.keys.mem_iff.1 this)
  exact ⟨y, h1, h2.symm⟩
theorem MapAt.has (h : MapAt w b n l es clock) {x : List Int} : x ∈ l ↔ ∃ e ∈ es.toList, e.key = keyV x := by
  constructor
  · intro hx
    have : keyV x ∈ l.map keyV := List.mem_map.2 ⟨x, hx, rfl⟩
    obtain ⟨e, h1, h2⟩ := List.mem_map.1 (h.keys.mem_iff.2 this)
    exact ⟨e, h1, h2⟩
  · rintro ⟨e, h1, h2⟩
    obtain ⟨y, h3, h4⟩ := h.key e h1
    exact keyV_inj (h2.symm.trans h4) ▸ h3
theorem MapAt.find (h : MapAt w b n l es clock) {t : TypeId} (hk : keyB P t = some n) {x : List Int} (hx : x.length = n) :
    (x ∉ l ∧ (Instr.findKey t (keyV x) es.toList).run P w = .ok none w) ∨ (x ∈ l ∧ ∃ j e, (Instr.findKey t (keyV x) es.toList).run P w = .ok (some (j, .bool true)) w ∧ es[j]? = some e ∧ e.key = keyV x ∧ e.val = .bool true) := by
  rcases key_find (w := w) hk hx h.len h.key with ⟨h1, h2⟩ | ⟨j, e, h1, h2, h3⟩
  · exact .inl ⟨fun hx => by obtain ⟨e, g1, g2⟩ := h.has.1 hx; exact h2 e g1 g2, h1⟩
  · have hm : e ∈ es.toList := List.mem_of_getElem? h2
    have hv := h.tru e hm
    exact .inr ⟨h.has.2 ⟨e, hm, h3⟩, j, e, by rw [← hv]; exact h1, by simpa using h2, h3, hv⟩
theorem upd_setObj {w : World} {b : Nat} (o : Obj) : Upd (fun k => k = b) w { w with heap := w.heap.setIfInBounds b o } :=
  ⟨rfl, rfl, rfl, by simp, fun k _ hne => by simp [Ne.symm hne]⟩
theorem MapAt.put (h : MapAt w b n l es clock) {mt kt et : TypeId} (hm : P.underlying mt = some (.map kt et)) (hk : keyB P kt = some n) {x : List Int} (hx : x.length = n) :
    ∃ w' es' clock', (Instr.mapUpdate mt (.map (some b)) (keyV x) (.bool true)).run P w = .ok () w' ∧ Upd (fun k => k = b) w w' ∧ MapAt w' b n (putK x l) es' clock' := by
  have hlt : b < w.heap.size := (Array.getElem?_eq_some_iff.1 h.blk).1
  rcases h.find hk hx with ⟨h1, h2⟩ | ⟨h1, j, e, h2, h3, h4, h5⟩
  · refine ⟨{ w with heap := w.heap.setIfInBounds b (.map (es.push { key := keyV x, val := .bool true, born := clock }) (clock + 1)) }, es.push { key := keyV x, val := .bool true, born := clock }, clock + 1, ?_, upd_setObj _, ?_⟩
    · simp [Instr.mapUpdate, run_underlying hm, MapKept.run_getObj_map h.blk, key_check hk hx, h2, MapKept.run_setObj_map _ h.blk, Result.andThen]
    · refine ⟨by simp [hlt], ?_, ((putK_new h1).nodup_iff).2 (List.nodup_cons.2 ⟨h1, h.nd⟩), fun y hy => ?_, fun e he => ?_, fun e he => ?_, ?_⟩
      · have e1 : ((es.push { key := keyV x, val := .bool true, born := clock }).toList.map (·.key)) = es.toList.map (·.key) ++ [keyV x] := by simp
        rw [e1]
        refine (List.perm_append_comm).trans ?_
        show (keyV x :: es.toList.map (·.key)).Perm _
        exact (h.keys.cons (keyV x)).trans (((putK_new h1).map keyV).symm)
      · rcases mem_putK.1 hy with rfl | hy
        · exact hx
        · exact h.len y hy
      · simp only [Array.toList_push, List.mem_append, List.mem_singleton] at he
        rcases he with he | rfl
        · exact h.tru e he
        · rfl
      · simp only [Array.toList_push, List.mem_append, List.mem_singleton] at he
        rcases he with he | rfl
        · exact Nat.lt_succ_of_lt (h.born e he)
        · exact Nat.lt_succ_self _
      · have e1 : ((es.push { key := keyV x, val := .bool true, born := clock }).toList.map (·.born)) = es.toList.map (·.born) ++ [clock] := by simp
        rw [e1]
        refine List.nodup_append.2 ⟨h.stamps, by simp, fun a ha c hc => ?_⟩
        obtain ⟨e, g1, g2⟩ := List.mem_map.1 ha
        have := h.born e g1
        simp at hc
        omega
  · have hj : j < es.size := (Array.getElem?_eq_some_iff.1 h3).1
    have hme : (es.modify j fun e => { e with key := keyV x, val := .bool true }) = es := by
      apply Array.ext_getElem?
      intro i
      rw [Array.getElem?_modify]
      split
      · rename_i hij
        subst hij
        rw [h3]
        show some ({ e with key := keyV x, val := .bool true } : MapEntry) = some e
        rw [← h4, ← h5]
      · rfl
    refine ⟨{ w with heap := w.heap.setIfInBounds b (.map es clock) }, es, clock, ?_, upd_setObj _, ?_⟩
    · have hks : ((es[j]?).map (·.key)).getD (keyV x) = keyV x := by rw [h3]; exact h4
      simp [Instr.mapUpdate, run_underlying hm, MapKept.run_getObj_map h.blk, key_check hk hx, h2, hks, key_stays hk hx, MapKept.run_setObj_map _ h.blk, Result.andThen, hme]
    · rw [putK_old h1]
      exact { h with blk := by simp [hlt] }
theorem MapAt.look (h : MapAt w b n l es clock) {mt kt et : TypeId} (hm : P.underlying mt = some (.map kt et)) (hk : keyB P kt = some n) {x : List Int} (hx : x.length = n) (hz : (zeroValue et).run P w = .ok (.bool false) w) :
    (Instr.lookup mt (.map (some b)) (keyV x) false).run P w = .ok (.bool (l.contains x)) w := by
  rcases h.find hk hx with ⟨h1, h2⟩ | ⟨h1, j, e, h2, h3, h4, h5⟩
  · have : l.contains x = false := by simpa using h1
    simp [Instr.lookup, run_underlying hm, MapKept.run_getObj_map h.blk, key_check hk hx, h2, hz, Result.andThen, this, h1]
  · have : l.contains x = true := by simpa using h1
    simp [Instr.lookup, run_underlying hm, MapKept.run_getObj_map h.blk, key_check hk hx, h2, Result.andThen, this, h1]
end

/-! ### On the view -/
def lkOff (lk : Option (Nat × Nat × Array MapEntry × Nat)) (i : Nat) : Prop := ∀ y, lk = some y → y.1 ≠ i
section
variable {P : Program} {w w' : World} {p : Place} {n : Nat} {ls : List (Option KS)} {lk : Option (Nat × Nat × Array MapEntry × Nat)} {vs : Array Value}
theorem SetsAt.lies (h : SetsAt w p n ls lk vs) {b : Nat} (hb : p.foot b) : Lies w b := by
  rcases h.foot b hb with rfl | ⟨j, l, h1, h2⟩
  · obtain ⟨cs, t, h3, _⟩ := h.row
    exact .cells h3
  · obtain ⟨b', g1, _, _, es, clock, g2, _⟩ := h.has j l h1
    have : b' = b := by rw [g1] at h2; cases h2; rfl
    subst this
    exact ⟨_, rfl, (), g2.blk⟩
theorem SetsAt.put (h : SetsAt w p n ls lk vs) {i b : Nat} {l l' : KS} {es : Array MapEntry} {clock : Nat} (hi : ls[i]? = some (some l)) (hb : vs[i]? = some (Value.map (some b))) (hu : Upd (fun k => k = b) w w') (hm : MapAt w' b n l' es clock) (hoff : lkOff lk i) : SetsAt w' p n (ls.set i (some l')) lk vs := by
  have hil : i < ls.length := (List.getElem?_eq_some_iff.1 hi).1
  obtain ⟨b0, g1, g2, g3, _⟩ := h.has i l hi
  have : b0 = b := by rw [g1] at hb; cases hb; rfl
  subst this
  have get : ∀ {j : Nat} {x : Option KS}, (ls.set i (some l'))[j]? = some x → (j = i ∧ x = some l') ∨ (j ≠ i ∧ ls[j]? = some x) := fun {j x} hj => by
    rw [List.getElem?_set] at hj
    by_cases e : i = j
    · subst e; simp [hil] at hj; exact .inl ⟨rfl, hj.symm⟩
    · rw [if_neg e] at hj; exact .inr ⟨Ne.symm e, hj⟩
  refine ⟨h.val, by simp [h.size], ?_, h.blk, fun j l1 hj => ?_, fun j hj => ?_, fun b' hb' => ?_, h.inj⟩
  · obtain ⟨cs, t, k1, k2⟩ := h.row
    exact ⟨cs, t, (hu.block _ (Array.getElem?_eq_some_iff.1 k1).1 (fun e => g2 e.symm)).trans k1, by simpa using k2⟩
  · rcases get hj with ⟨rfl, e⟩ | ⟨hne, hj⟩
    · cases e
      exact ⟨b0, hb, g2, g3, es, clock, hm, fun y hy e => absurd e (hoff y hy)⟩
    · obtain ⟨b1, k1, k2, k3, es1, c1, k4, k5⟩ := h.has j l1 hj
      refine ⟨b1, k1, k2, k3, es1, c1, k4.out (hu.block _ (Array.getElem?_eq_some_iff.1 k4.blk).1 fun e => hne ?_), k5⟩
      subst e
      exact h.inj j i b1 k1 hb
  · rcases get hj with ⟨rfl, e⟩ | ⟨hne, hj⟩
    · cases e
    · exact h.nil j hj
  · rcases h.foot b' hb' with e | ⟨j, l1, k1, k2⟩
    · exact .inl e
    · by_cases e : j = i
      · subst e; exact .inr ⟨j, l', by simp [hil], k2⟩
      · exact .inr ⟨j, l1, by rw [List.getElem?_set, if_neg (Ne.symm e)]; exact k1, k2⟩
end
def keyD (n : Nat) (d : DV) : Option (List Int) := match d with
  | .int .i64 a => if n = 1 then some [a] else none
  | .agg m f => if m = n ∧ n ≠ 1 then if (List.range m).all fun j => isI (f j) then some ((List.range m).map fun j => intD (f j)) else none else none
  | _ => none
def keyDV (n : Nat) (x : List Int) : DV := if n = 1 then .int .i64 (x.getD 0 0) else .agg n (tab n fun j => .int .i64 (x.getD j 0))
section
variable {P : Program} {w : World} {ρ : List Place} {M : Nat → Prop}
theorem keyV_agg {x : List Int} (h : x.length ≠ 1) : keyV x = .agg (x.map fun a => .int .i64 a).toArray := by
  unfold keyV
  split
  · simp at h
  · rfl
theorem keyD_spec {n : Nat} {d : DV} {x : List Int} {v : Value} (h : keyD n d = some x) (hr : RepV M w d ρ v) : v = keyV x ∧ x.length = n := by
  unfold keyD at h
  split at h
  · split at h
    · cases h
      exact ⟨hr, by simp; omega⟩
    · cases h
  · rename_i m f
    split at h
    · rename_i hm
      split at h
      · rename_i ha
        cases h
        have hl : ((List.range m).map fun j => intD (f j)).length = m := by simp
        refine ⟨?_, by rw [hl]; exact hm.1⟩
        obtain ⟨cs, rfl, hs, hc⟩ := hr
        rw [keyV_agg (by rw [hl]; omega)]
        congr 1
        apply Array.ext_getElem?
        intro j
        by_cases hj : j < m
        · obtain ⟨u, e1, e2⟩ := hc j hj
          have := isI_spec (List.all_eq_true.1 ha j (List.mem_range.2 hj)) e2
          rw [e1, this]
          simp [hj]
        · rw [Array.getElem?_eq_none (by omega)]
          simp [hj]
      · cases h
    · cases h
  · cases h
theorem keyDV_rep {n : Nat} {x : List Int} (h : x.length = n) : RepV M w (keyDV n x) ρ (keyV x) := by
  unfold keyDV
  split
  · rename_i e
    subst e
    obtain ⟨a, rfl⟩ := key_one h
    rfl
  · rename_i e
    rw [keyV_agg (by omega)]
    refine ⟨_, rfl, by simp [h], fun j hj => ?_⟩
    rw [tab_lt hj]
    have hj' : j < x.length := by omega
    exact ⟨.int .i64 (x.getD j 0), by simp [hj'], rfl⟩
end

/-- The first row of sets of which one is locked. -/
def findLk : Nat → DH → Option (Nat × Nat × List (Option KS) × Nat × Nat × Array MapEntry × Nat)
  | _, [] => none
  | k, some (.mo (.sets n ls (some y))) :: _ => some (k, n, ls, y)
  | k, _ :: r => findLk (k + 1) r
theorem findLk_spec {n : Nat} {ls : List (Option KS)} {y : Nat × Nat × Array MapEntry × Nat} {k : Nat} : ∀ (h : DH) (k0 : Nat), findLk k0 h = some (k, n, ls, y) → k0 ≤ k ∧ h[k - k0]? = some (some (.mo (.sets n ls (some y)))) := by
  intro h
  induction h with
  | nil => intro k0 e; cases e
  | cons x r ih =>
    intro k0 e
    have step : findLk (k0 + 1) r = some (k, n, ls, y) → k0 ≤ k ∧ (x :: r)[k - k0]? = some (some (.mo (.sets n ls (some y)))) := fun e => by
      obtain ⟨h1, h2⟩ := ih (k0 + 1) e
      refine ⟨by omega, ?_⟩
      have : k - k0 = k - (k0 + 1) + 1 := by omega
      rw [this]; simpa using h2
    match x, e with
    | none, e => exact step e
    | some (.cells _), e => exact step e
    | some (.ints _), e => exact step e
    | some (.bools _), e => exact step e
    | some (.arr _ _ _), e => exact step e
    | some (.iter _), e => exact step e
    | some (.mo (.set _ _)), e => exact step e
    | some (.mo (.mit _ _ _ _ _ _)), e => exact step e
    | some (.mo (.sets _ _ none)), e => exact step e
    | some (.mo (.sets _ _ (some _))), e => cases e; exact ⟨Nat.le_refl _, by simp⟩
def mapT (P : Program) (t : TypeId) : Option (Nat × TypeId) := match P.underlying t with
  | some (.map k e) => match keyB P k with
    | some n => match P.info? e with
      | some i => match i.zero with
        | some (.bool false) => some (n, k)
        | _ => none
      | none => none
    | none => none
  | _ => none
theorem mapT_spec {P : Program} {t k : TypeId} {n : Nat} (h : mapT P t = some (n, k)) : ∃ e, P.underlying t = some (.map k e) ∧ keyB P k = some n ∧ ∀ w, (zeroValue e).run P w = .ok (.bool false) w := by
  unfold mapT at h
  split at h
  · rename_i k' e hu
    split at h
    · rename_i n' hk
      split at h
      · rename_i i hi
        split at h
        · rename_i hz
          cases h
          exact ⟨e, hu, hk, fun w => by simp [zeroValue, typeInfo, hi, hz]⟩
        · cases h
      · cases h
    · cases h
  · cases h
def putD (P : Program) (S : St) (t : TypeId) (m k x : DV) : Option (DV × DH × List Prop × Bool) := match mapT P t with
  | some (n, _) => match keyD n k, x with
    | some x, .bool true => match m with
      | .it j => match S.h[j]? with
        | some (some (.mo (.set n' l))) => if n' = n then some (.any, S.h.set j (some (.mo (.set n (putK x l)))), [], false) else none
        | _ => none
      | .mri j i => match S.h[j]? with
        | some (some (.mo (.sets n' ls lk))) => if n' = n then some (.any, S.h.set j (some (.mo (.sets n (ls.set i (some (putK x ((ls.getD i none).getD [])))) lk))), [(ls.getD i none).isSome = true, lkOff lk i], false) else none
        | _ => none
      | _ => none
    | _, _ => none
  | none => none
def mapD (P : Program) (S : St) : Op → Option (DV × DH × List Prop × Bool)
  | .makeMap t none => match mapT P t with
    | some (n, _) => some (.it S.h.length, S.h ++ [some (.mo (.set n []))], [], true)
    | none => none
  | .mapUpdate t m k x => putD P S t (opd S.fr m) (opd S.fr k) (opd S.fr x)
  | .insert t m k x => putD P S t (opd S.fr m) (opd S.fr k) (opd S.fr x)
  | .lookup t m k false => match mapT P t with
    | some (n, _) => match keyD n (opd S.fr k) with
      | some x => match opd S.fr m with
        | .it j => match S.h[j]? with
          | some (some (.mo (.set n' l))) => if n' = n then some (.bool (l.contains x), S.h, [], true) else none
          | _ => none
        | .mri j i => match S.h[j]? with
          | some (some (.mo (.sets n' ls _))) => if n' = n then some (.bool (((ls.getD i none).getD []).contains x), S.h, [(ls.getD i none).isSome = true], true) else none
          | _ => none
        | _ => none
      | none => none
    | none => none
  | .range t m => match mapT P t with
    | some (n, _) => match opd S.fr m with
      | .mri j i => match S.h[j]? with
        | some (some (.mo (.sets n' ls (some (i', mb, es, clock))))) => if n' = n then some (.it S.h.length, S.h ++ [some (.mo (.mit n mb es clock ((ls.getD i none).getD []) none))], [(ls.getD i none).isSome = true, i' = i], true) else none
        | _ => none
      | _ => none
    | none => none
  | .entry m => match opd S.fr m with
    | .it j => match S.h[j]? with
      | some (some (.mo (.mit n mb es clock _ (some x)))) => match findLk 0 S.h with
        | some (_, _, ls, i, mb', es', clock') => some (.tup 2 (tab 2 fun c => if c = 0 then keyDV n x else .bool true), S.h, [(ls.getD i none).isSome = true, mb' = mb, es' = es, clock' = clock], true)
        | none => none
      | _ => none
    | _ => none
  | _ => none

section
variable {P : Program} {Γ : Glo} {N : Nat → Prop} {S : St} {ρ : List Place} {a : Act} {w : World}
theorem getD_isSome {ls : List (Option KS)} {i : Nat} (h : (ls.getD i none).isSome = true) : ls[i]? = some (some ((ls.getD i none).getD [])) := by
  rw [List.getD_eq_getElem?_getD] at h ⊢
  cases hx : ls[i]? with
  | none => rw [hx] at h; cases h
  | some x =>
    rw [hx] at h
    cases x with
    | none => cases h
    | some l => simp
/-- The map that a value is. -/
theorem set_at (R : Rel P Γ N S ρ a w) {j n : Nat} {l : KS} {v : Value} (hk : S.h[j]? = some (some (.mo (.set n l)))) (hv : RepV (MS N S.h ρ) w (.it j) ρ v) : ∃ p es clock, ρ[j]? = some p ∧ v = .map (some p.blk) ∧ p.foot = (fun b => b = p.blk) ∧ p.val = Value.map (some p.blk) ∧ MapAt w p.blk n l es clock := by
  obtain ⟨p, hp, rfl⟩ := hv
  obtain ⟨p', hp', h1, h2, es, clock, h3⟩ := R.hr.obj j _ hk
  have : p' = p := Option.some.inj (hp'.symm.trans hp)
  subst this
  exact ⟨p', es, clock, hp, h1, h2, h1, h3⟩
theorem sets_at (R : Rel P Γ N S ρ a w) {j i n : Nat} {ls : List (Option KS)} {lk : Option (Nat × Nat × Array MapEntry × Nat)} {v : Value} (hk : S.h[j]? = some (some (.mo (.sets n ls lk)))) (hv : RepV (MS N S.h ρ) w (.mri j i) ρ v) (hs : (ls.getD i none).isSome = true) :
    ∃ p vs b es clock, ρ[j]? = some p ∧ SetsAt w p n ls lk vs ∧ v = .map (some b) ∧ vs[i]? = some (Value.map (some b)) ∧ p.foot b ∧ MapAt w b n ((ls.getD i none).getD []) es clock ∧ ∀ y, lk = some y → y.1 = i → y.2 = (b, es, clock) := by
  obtain ⟨p, vs, hp, hval, hvi⟩ := hv
  obtain ⟨p', hp', vs', h1⟩ := R.hr.obj j _ hk
  have : p' = p := Option.some.inj (hp'.symm.trans hp)
  subst this
  have : vs' = vs := by have := h1.val.symm.trans hval; cases this; rfl
  subst this
  obtain ⟨b, g1, g2, g3, es, clock, g4, g5⟩ := h1.has i _ (getD_isSome hs)
  have : v = .map (some b) := by rw [g1] at hvi; exact (Option.some.inj hvi).symm
  exact ⟨p', vs', b, es, clock, hp, h1, this, g1, g3, g4, g5⟩
theorem same_got (R : Rel P Γ N S ρ a w) {d : DV} {v : Value} (hv : RepV (MS N S.h ρ) w d ρ v) : Got P Γ N S.h ρ w true d S.h v w := ⟨⟨ρ, R.hr, hv, Step.refl _ _ _, fun _ _ h => h⟩, fun _ => Ext.refl w⟩
theorem got_newO (H : HRel P Γ N S.h ρ w) {ob : Obj} (hob : heapy ob = true) {pl : Place} (hfoot : pl.foot = fun b => b = w.heap.size) {o : DO} {d : DV} {v : Value} (ho : ∀ M ρ', ObjRep P M (w.alloc ob) ρ' pl o)
    (hv : ∀ M ρ', ρ'[S.h.length]? = some pl → RepV M (w.alloc ob) d ρ' v) (ext : Bool) : Got P Γ N S.h ρ w ext d (S.h ++ [some o]) v (w.alloc ob) := by
  have hE : Ext w (w.alloc ob) := (Ext.refl w).allocR _
  have hf : ∀ b, pl.foot b → w.heap.size ≤ b := fun b hb => by rw [hfoot] at hb; exact Nat.le_of_eq (Eq.symm hb)
  have hb : (w.alloc ob).heap[w.heap.size]? = some ob := heap_alloc_new w _
  refine ⟨⟨ρ ++ [pl], H.snoc hE (fun b hx => ⟨hf b hx, ob, hob, (), by rw [hfoot] at hx; rw [show b = w.heap.size from hx]; exact hb⟩) (ho _ _), ?_, Step.snoc H hE hf, fun k p hk => get_snoc_left hk⟩, fun _ => hE⟩
  exact hv _ _ (by rw [← H.len]; simp)

theorem putD_sound (R : Rel P Γ N S ρ a w) {t : TypeId} {m k x : Operand} {d : DV} {h' : DH} {vs : List Prop} {ext : Bool} (hd : putD P S t (opd S.fr m) (opd S.fr k) (opd S.fr x) = some (d, h', vs, ext)) (hv : allP vs) :
    ∃ w', (Instr.mapUpdate t (a.eval m) (a.eval k) (a.eval x)).run P w = .ok () w' ∧ Got P Γ N S.h ρ w ext d h' undef w' := by
  have rm := opd_rep R m
  have rk := opd_rep R k
  have rx := opd_rep R x
  unfold putD at hd
  split at hd
  · rename_i n kt hT
    obtain ⟨e, hu, hk, hz⟩ := mapT_spec hT
    split at hd
    · rename_i xs hK hX
      obtain ⟨ek, el⟩ := keyD_spec hK rk
      rw [hX] at rx
      have ex : a.eval x = .bool true := rx
      rw [ek, ex]
      split at hd
      · rename_i j hM
        split at hd
        · rename_i n' l hO
          split at hd
          · rename_i hn
            cases hd
            subst hn
            rw [hM] at rm
            obtain ⟨p, es, clock, hp, ev, hfoot, hval, hA⟩ := set_at R hO rm
            rw [ev]
            obtain ⟨w', es', clock', h1, h2, h3⟩ := hA.put hu hk el
            have hup : Upd p.foot w w' := by rw [hfoot]; exact h2
            refine ⟨w', h1, ⟨ρ, R.hr.write hO hp hup (fun b hb => ?_) ⟨hval, hfoot, es', clock', h3⟩, trivial, Step.write hO hp hup, fun _ _ h => h⟩, fun h => by cases h⟩
            rw [hfoot] at hb
            exact ⟨_, rfl, (), by rw [show b = p.blk from hb]; exact h3.blk⟩
          · cases hd
        · cases hd
      · rename_i j i hM
        split at hd
        · rename_i n' ls lk hO
          split at hd
          · rename_i hn
            cases hd
            subst hn
            obtain ⟨hs, hoff, _⟩ := hv
            rw [hM] at rm
            obtain ⟨p, vs, b, es, clock, hp, hS, ev, hvi, hfb, hA, _⟩ := sets_at R hO rm hs
            rw [ev]
            obtain ⟨w', es', clock', h1, h2, h3⟩ := hA.put hu hk el
            have hup : Upd p.foot w w' := h2.mono fun c _ hc => by rw [show c = b from hc]; exact hfb
            have hS' := hS.put (getD_isSome hs) hvi h2 h3 hoff
            exact ⟨w', h1, ⟨ρ, R.hr.write hO hp hup (fun b hb => hS'.lies hb) ⟨vs, hS'⟩, trivial, Step.write hO hp hup, fun _ _ h => h⟩, fun h => by cases h⟩
          · cases hd
        · cases hd
      · cases hd
    · cases hd
  · cases hd
theorem leftOf_none (es : Array MapEntry) : leftOf es #[] = es := by
  unfold leftOf
  refine Array.filter_eq_self.2 fun x hx => by simp
theorem run_entry_at {r bm since clock : Nat} {seen : Array Nat} {es : Array MapEntry} {e : MapEntry} (hr : w.heap[r]? = some (.mapIter (some bm) since seen clock)) (hs : seen.back? = some e.born) (hb : w.heap[bm]? = some (.map es clock)) (he : e ∈ es.toList) (hn : (es.toList.map (·.born)).Nodup) :
    (Instr.entry (.pointer (some ⟨r, 0, none⟩))).run P w = .ok (.tuple #[e.key, e.val]) w := by
  have hf : es.find? (·.born == e.born) = some e := by rw [← Array.find?_toList]; exact find_born e es.toList hn he
  simp only [Instr.entry, getObj, Sem.run_bind, Sem.run, hr, hb, Result.andThen, hs, bne_self_eq_false, Bool.false_eq_true, if_false, hf]
  rfl
theorem mapD_sound (R : Rel P Γ N S ρ a w) (o : Oper) {d : DV} {h' : DH} {vs : List Prop} {ext : Bool} (hd : mapD P S o.op = some (d, h', vs, ext)) (hv : allP vs) : Does P (execOp a.eval o) w (Got P Γ N S.h ρ w ext d h') := by
  unfold mapD at hd
  split at hd
  · rename_i t ho
    split at hd
    · rename_i n kt hT
      cases hd
      refine Does.value (s := Instr.makeMap t none) (by unfold execOp; rw [ho]; rfl) (v := .map (some w.heap.size)) (w' := w.alloc (.map #[] 0)) (by simp [Instr.makeMap, newObj]; rfl) ?_
      refine got_newO (ob := .map #[] 0) (o := .mo (.set n [])) (d := .it S.h.length) (v := .map (some w.heap.size)) (pl := ⟨w.heap.size, 0, 0, .map (some w.heap.size), fun b => b = w.heap.size⟩) R.hr rfl rfl (fun M ρ' => ⟨rfl, rfl, #[], 0, ⟨heap_alloc_new w _, by simp, List.nodup_nil, fun y hy => absurd hy List.not_mem_nil, fun e he => absurd he (by simp), fun e he => absurd he (by simp), by simp⟩⟩) (fun M ρ' hp => ⟨_, hp, rfl⟩) true
    · cases hd
  · rename_i t m k x ho
    obtain ⟨w', h1, h2⟩ := putD_sound R hd hv
    exact Does.skip (s := Instr.mapUpdate t (a.eval m) (a.eval k) (a.eval x)) (by unfold execOp; rw [ho]) h1 h2
  · rename_i t m k x ho
    obtain ⟨w', h1, h2⟩ := putD_sound R hd hv
    exact Does.skip (s := Instr.mapUpdate t (a.eval m) (a.eval k) (a.eval x)) (by unfold execOp; rw [ho]) h1 h2
  · rename_i t m k ho
    have rm := opd_rep R m
    have rk := opd_rep R k
    split at hd
    · rename_i n kt hT
      obtain ⟨e, hu, hk, hz⟩ := mapT_spec hT
      split at hd
      · rename_i xs hK
        obtain ⟨ek, el⟩ := keyD_spec hK rk
        split at hd
        · rename_i j hM
          split at hd
          · rename_i n' l hO
            split at hd
            · rename_i hn
              cases hd
              subst hn
              rw [hM] at rm
              obtain ⟨p, es, clock, hp, ev, hfoot, hval, hA⟩ := set_at R hO rm
              exact Does.value (s := Instr.lookup t (a.eval m) (a.eval k) false) (by unfold execOp; rw [ho]) (by rw [ek, ev]; exact hA.look hu hk el (hz w)) (same_got R rfl)
            · cases hd
          · cases hd
        · rename_i j i hM
          split at hd
          · rename_i n' ls lk hO
            split at hd
            · rename_i hn
              cases hd
              subst hn
              rw [hM] at rm
              obtain ⟨p, vs, b, es, clock, hp, hS, ev, hvi, hfb, hA, _⟩ := sets_at R hO rm hv.1
              exact Does.value (s := Instr.lookup t (a.eval m) (a.eval k) false) (by unfold execOp; rw [ho]) (by rw [ek, ev]; exact hA.look hu hk el (hz w)) (same_got R rfl)
            · cases hd
          · cases hd
        · cases hd
      · cases hd
    · cases hd
  · rename_i t m ho
    have rm := opd_rep R m
    split at hd
    · rename_i n kt hT
      obtain ⟨e, hu, hk, hz⟩ := mapT_spec hT
      split at hd
      · rename_i j i hM
        split at hd
        · rename_i n' ls i' mb es clock hO
          split at hd
          · rename_i hn
            cases hd
            subst hn
            obtain ⟨hs, hi, _⟩ := hv
            subst hi
            rw [hM] at rm
            obtain ⟨p, vs, b, es1, clock1, hp, hS, ev, hvi, hfb, hA, hL⟩ := sets_at R hO rm hs
            have hL := hL _ rfl rfl
            cases hL
            refine Does.value (s := Instr.range t (a.eval m)) (by unfold execOp; rw [ho]) (by rw [ev]; exact run_range_map w t _ _ _ _ _ hu hA.blk) ?_
            refine got_newO (ob := .mapIter (some mb) clock #[] clock) (o := .mo (.mit n' mb es clock ((ls.getD i' none).getD []) none)) (d := .it S.h.length) (v := .pointer (some ⟨w.heap.size, 0, none⟩)) (pl := ⟨w.heap.size, 0, 0, .pointer (some ⟨w.heap.size, 0, none⟩), fun b => b = w.heap.size⟩) R.hr rfl rfl (fun M ρ' => ⟨fun x hx => hx.elim (hA.len x) (fun e => by cases e), rfl, rfl, #[], heap_alloc_new w _, by rw [leftOf_none]; exact hA.keys, fun x hx => by cases hx⟩) (fun M ρ' hp => ⟨_, hp, rfl⟩) true
          · cases hd
        · cases hd
      · cases hd
    · cases hd
  · rename_i m ho
    have rm := opd_rep R m
    split at hd
    · rename_i j hM
      split at hd
      · rename_i n mb es clock rem x hO
        split at hd
        · rename_i k n' ls i mb' es' clock' hF
          cases hd
          obtain ⟨hs, e1, e2, e3, _⟩ := hv
          subst e1 e2 e3
          rw [hM] at rm
          obtain ⟨p, hp, ev⟩ := rm
          obtain ⟨p', hp', h0, h1, h2, seen, h3, h4, h5⟩ := R.hr.obj j _ hO
          have : p' = p := Option.some.inj (hp'.symm.trans hp)
          subst this
          obtain ⟨e, g1, g2, g3⟩ := h5 x rfl
          have hF := (findLk_spec _ _ hF).2
          obtain ⟨q, hq, vs, hS⟩ := R.hr.obj _ _ hF
          obtain ⟨b, k1, k2, k3, es1, clock1, k4, k5⟩ := hS.has i _ (getD_isSome hs)
          have k5 := k5 _ rfl rfl
          cases k5
          refine Does.value (s := Instr.entry (a.eval m)) (by unfold execOp; rw [ho]) (by rw [ev, h1]; exact run_entry_at h3 g3 k4.blk g1 k4.stamps) (same_got R ?_)
          refine ⟨_, rfl, rfl, fun c hc => ?_⟩
          rw [tab_lt hc, g2, k4.tru e g1]
          match c, hc with
          | 0, _ => exact ⟨keyV x, rfl, keyDV_rep (h0 x (.inr rfl))⟩
          | 1, _ => exact ⟨.bool true, rfl, rfl⟩
        · cases hd
      · cases hd
    · cases hd
  · cases hd
end
end Go.Proofs.YtekkngkphejfcaaDoor
