/- The drawn orders of a region: each keeps the edges; so each tells the same as the text's order. Conditions: none. -/
import Derived.Test.YthdeaenleimbeaaDoorEvOrder
namespace Go.Proofs.YthdeaenleimbeaaDoor.Ev
set_option linter.unusedVariables false
set_option linter.unusedSimpArgs false
set_option linter.unusedSectionVars false

def Resp (ops : Array Oper) (l : List Nat) : Prop := ∀ l1 x l2, l = l1 ++ x :: l2 → ∀ o, ops[x]? = some o → ∀ e ∈ o.after.toList, plainEdge e = true → e.on ∈ l1

theorem fold_or_bit (f : Edge → Nat) (i : Nat) : ∀ (es : List Edge) (s : Nat), (es.foldl (fun s e => s ||| f e) s).testBit i = true → s.testBit i = true ∨ ∃ e ∈ es, (f e).testBit i = true
  | [], s, h => .inl h
  | e :: es, s, h => by
    simp only [List.foldl_cons] at h
    rcases fold_or_bit f i es _ h with h1 | ⟨e', h1, h2⟩
    · rw [Nat.testBit_or, Bool.or_eq_true] at h1
      rcases h1 with h1 | h1
      · exact .inl h1
      · exact .inr ⟨e, by simp, h1⟩
    · exact .inr ⟨e', by simp [h1], h2⟩

theorem maskOf_bit {acc : List Nat} {o : Oper} {i : Nat} (h : (maskOf acc o).testBit i = true) : ∃ e ∈ o.after.toList, plainEdge e = true ∧ (e.on = i ∨ (acc.getD e.on 0).testBit i = true) := by
  unfold maskOf at h
  rcases fold_or_bit (fun e => 2 ^ e.on ||| acc.getD e.on 0) i _ 0 h with h1 | ⟨e, h1, h2⟩
  · simp at h1
  · rw [List.mem_filter] at h1
    refine ⟨e, h1.1, h1.2, ?_⟩
    rw [Nat.testBit_or, Bool.or_eq_true] at h2
    rcases h2 with h2 | h2
    · rw [Nat.testBit_two_pow] at h2; exact .inl (by simpa using h2)
    · exact .inr h2

theorem masksFrom_spec : ∀ (l : List Oper) (acc : List Nat), (masksFrom acc l).take acc.length = acc ∧ ∀ k o, l[k]? = some o → (masksFrom acc l).getD (acc.length + k) 0 = maskOf ((masksFrom acc l).take (acc.length + k)) o
  | [], acc => by simp [masksFrom]
  | o :: l, acc => by
    obtain ⟨h1, h2⟩ := masksFrom_spec l (acc ++ [maskOf acc o])
    simp only [masksFrom]
    have hl : (acc ++ [maskOf acc o]).length = acc.length + 1 := by simp
    have h3 : (masksFrom (acc ++ [maskOf acc o]) l).take acc.length = acc := by
      have := congrArg (List.take acc.length) h1
      rw [List.take_take, hl, Nat.min_eq_left (by omega)] at this
      rw [this]; simp
    refine ⟨h3, fun k p hk => ?_⟩
    cases k with
    | zero =>
      simp only [List.getElem?_cons_zero, Option.some.injEq] at hk
      subst hk
      rw [Nat.add_zero, h3]
      have := congrArg (fun x => x.getD acc.length 0) h1
      simp only [hl] at this
      rw [List.getD_eq_getElem?_getD, List.getElem?_take, if_pos (by omega), ← List.getD_eq_getElem?_getD] at this
      rw [this]; simp
    | succ k =>
      have := h2 k p (by simpa using hk)
      rw [hl, show acc.length + 1 + k = acc.length + (k + 1) by omega] at this
      exact this

theorem dep_bit {ops : Array Oper} {j : Nat} {o : Oper} (hj : ops[j]? = some o) {i : Nat} (h : ((masksFrom [] ops.toList).getD j 0).testBit i = true) (hon : ∀ e ∈ o.after.toList, plainEdge e = true → e.on < j) :
    ∃ e ∈ o.after.toList, plainEdge e = true ∧ (e.on = i ∨ ((masksFrom [] ops.toList).getD e.on 0).testBit i = true) := by
  have := (masksFrom_spec ops.toList []).2 j o (by simpa using hj)
  simp only [List.length_nil, Nat.zero_add] at this
  rw [this] at h
  obtain ⟨e, h1, hp, h2⟩ := maskOf_bit h
  refine ⟨e, h1, hp, h2.imp id fun h3 => ?_⟩
  rw [List.getD_eq_getElem?_getD, List.getElem?_take, if_pos (hon e h1 hp), ← List.getD_eq_getElem?_getD] at h3
  exact h3

theorem resp_dep {ops : Array Oper} (hon : ∀ (j : Nat) (o : Oper), ops[j]? = some o → ∀ e ∈ o.after.toList, plainEdge e = true → e.on < j) {l : List Nat} (hr : Resp ops l) (hlt : ∀ x ∈ l, x < ops.size) :
    ∀ (x : Nat) (l1 l2 : List Nat), l = l1 ++ x :: l2 → ∀ i, ((masksFrom [] ops.toList).getD x 0).testBit i = true → i ∈ l1 := by
  intro x
  induction x using Nat.strongRecOn with
  | _ x ih =>
    intro l1 l2 hl i hi
    have hx : x < ops.size := hlt x (by rw [hl]; simp)
    obtain ⟨e, he, hp, h1⟩ := dep_bit (Array.getElem?_eq_getElem hx) hi (hon x _ (Array.getElem?_eq_getElem hx))
    have hin := hr l1 x l2 hl _ (Array.getElem?_eq_getElem hx) e he hp
    rcases h1 with h1 | h1
    · exact h1 ▸ hin
    · obtain ⟨a, b, rfl⟩ := List.append_of_mem hin
      have := ih e.on (hon x _ (Array.getElem?_eq_getElem hx) e he hp) a (b ++ x :: l2) (by rw [hl]; simp) i h1
      simp [this]

theorem pairwise_of_resp {ops : Array Oper} (hon : ∀ (j : Nat) (o : Oper), ops[j]? = some o → ∀ e ∈ o.after.toList, plainEdge e = true → e.on < j) {l : List Nat} (hr : Resp ops l) (hlt : ∀ x ∈ l, x < ops.size) (hn : l.Nodup) :
    l.Pairwise (fun x y => ¬ ((masksFrom [] ops.toList).getD x 0).testBit y = true) := by
  suffices h : ∀ (l2 l1 : List Nat), l = l1 ++ l2 → l2.Pairwise (fun x y => ¬ ((masksFrom [] ops.toList).getD x 0).testBit y = true) from h l [] rfl
  intro l2
  induction l2 with
  | nil => simp
  | cons x l2 ih =>
    intro l1 hl
    refine List.pairwise_cons.2 ⟨fun y hy hb => ?_, ih (l1 ++ [x]) (by rw [hl]; simp)⟩
    have h1 := resp_dep hon hr hlt x l1 l2 hl y hb
    rw [hl] at hn
    exact (List.nodup_append.1 hn).2.2 y h1 y (by simp [hy]) rfl

theorem binds_plain {m : Region.Mode} {e : Edge} (h : plainEdge e = true) : Region.binds m e = true := by
  unfold plainEdge at h
  unfold Region.binds
  cases hg : e.ground <;> rw [hg] at h <;> first | rfl | (cases h)

theorem plain_any {e : Edge} (h : Region.binds .any e = true) : plainEdge e = true := by
  unfold Region.binds at h
  unfold plainEdge
  cases hg : e.ground <;> rw [hg] at h <;> first | rfl | (simp at h)

def RespM (m : Region.Mode) (ops : Array Oper) (l : List Nat) : Prop := ∀ l1 x l2, l = l1 ++ x :: l2 → ∀ o, ops[x]? = some o → ∀ e ∈ o.after.toList, Region.binds m e = true → e.on ∈ l1
/-- as long as not all are listed, one is ready -/
def Ready (m : Region.Mode) (ops : Array Oper) : Prop := ∀ acc : List Nat, (∃ i, i < ops.size ∧ i ∉ acc) → ∃ i, i < ops.size ∧ i ∉ acc ∧ ∀ o, ops[i]? = some o → ∀ e ∈ o.after.toList, Region.binds m e = true → e.on ∈ acc

theorem lin_go {m : Region.Mode} {ops : Array Oper} :
    ∀ (fuel t : Nat) (listed : Array Bool) (acc : List Nat), fuel + acc.length = ops.size → listed.size = ops.size → acc.Nodup → (∀ i, i < ops.size → (listed.getD i true = true ↔ i ∈ acc)) → (∀ x ∈ acc, x < ops.size) → RespM m ops acc.reverse →
      ∃ l, Region.linearise.go m ops fuel t listed acc = l ∧ l.Nodup ∧ (∀ x ∈ l, x < ops.size) ∧ RespM m ops l ∧ (Ready m ops → l.length = ops.size)
  | 0, t, listed, acc, h1, h2, h3, h4, h5, h6 => by
    refine ⟨acc.reverse, rfl, ?_, ?_, h6, fun _ => ?_⟩
    · exact (List.reverse_perm acc).nodup_iff.2 h3
    · intro x hx; exact h5 x (List.mem_reverse.1 hx)
    · rw [List.length_reverse]; omega
  | fuel + 1, t, listed, acc, h1, h2, h3, h4, h5, h6 => by
    simp only [Region.linearise.go]
    generalize hrs : ((List.range ops.size).filter fun i => !listed.getD i true && ((ops[i]?).map (·.after.all fun e => !Region.binds m e || listed.getD e.on false)).getD false) = rs
    have hex : ∃ i, i < ops.size ∧ i ∉ acc := by
      rcases Classical.em (∃ i, i < ops.size ∧ i ∉ acc) with h | h
      · exact h
      · exfalso
        have hsub : ∀ x ∈ List.range ops.size, x ∈ acc := by
          intro x hx
          rcases Classical.em (x ∈ acc) with h0 | h0
          · exact h0
          · exact (h ⟨x, by simpa using hx, h0⟩).elim
        have := (List.nodup_range (n := ops.size)).length_le_of_subset hsub
        simp at this; omega
    have hlisted : ∀ i, i < ops.size → listed.getD i false = listed.getD i true := by
      intro i hi
      simp [Array.getD, h2, hi]
    have hout : ∀ i, listed.getD i false = true → i < ops.size := by
      intro i hi
      rcases Nat.lt_or_ge i ops.size with h | h
      · exact h
      · exfalso; simp [Array.getD, h2, Nat.not_lt.2 h] at hi
    have hmem : ∀ i, i ∈ rs ↔ i < ops.size ∧ i ∉ acc ∧ ∀ o, ops[i]? = some o → ∀ e ∈ o.after.toList, Region.binds m e = true → e.on ∈ acc := by
      intro i
      rw [← hrs, List.mem_filter, List.mem_range]
      constructor
      · rintro ⟨hi, hb⟩
        simp only [Bool.and_eq_true, Bool.not_eq_true'] at hb
        refine ⟨hi, fun hc => ?_, fun o ho e he hbd => ?_⟩
        · rw [(h4 i hi).2 hc] at hb; simp at hb
        · rw [ho] at hb
          simp only [Option.map_some, Option.getD_some, Array.all_eq_true_iff_forall_mem] at hb
          have h7 := hb.2 e (by simpa using he)
          rw [hbd] at h7
          simp only [Bool.not_true, Bool.false_or] at h7
          have hlt := hout _ h7
          rw [hlisted _ hlt] at h7
          exact (h4 _ hlt).1 h7
      · rintro ⟨hi, hc, hb⟩
        refine ⟨hi, ?_⟩
        have hl0 : listed.getD i true = false := by
          cases hv : listed.getD i true with
          | false => rfl
          | true => exact (hc ((h4 i hi).1 hv)).elim
        rw [hl0, Array.getElem?_eq_getElem hi]
        simp only [Bool.not_false, Bool.true_and, Option.map_some, Option.getD_some, Array.all_eq_true_iff_forall_mem]
        intro e he
        cases hbd : Region.binds m e with
        | false => simp
        | true =>
          have h9 := hb _ (Array.getElem?_eq_getElem hi) e (by simpa using he) hbd
          have hlt := h5 _ h9
          rw [hlisted _ hlt, (h4 _ hlt).2 h9]
          simp
    cases hg : rs[t % rs.length]? with
    | none =>
      refine ⟨acc.reverse, rfl, (List.reverse_perm acc).nodup_iff.2 h3, fun x hx => h5 x (List.mem_reverse.1 hx), h6, fun hr => ?_⟩
      exfalso
      obtain ⟨i, hi1, hi2, hi3⟩ := hr acc hex
      have hi := (hmem i).2 ⟨hi1, hi2, hi3⟩
      have hlen : 0 < rs.length := List.length_pos_iff.2 (fun e => by rw [e] at hi; cases hi)
      have hidx : t % rs.length < rs.length := Nat.mod_lt _ hlen
      rw [List.getElem?_eq_getElem hidx] at hg
      cases hg
    | some i =>
      simp only
      have hin := (hmem _).1 (List.mem_of_getElem? hg)
      refine lin_go fuel (t / rs.length) (listed.setIfInBounds i true) (i :: acc) (by simp; omega) (by simp [h2]) (List.nodup_cons.2 ⟨hin.2.1, h3⟩) (fun j hj => ?_) (fun x hx => ?_) ?_
      · by_cases e : i = j
        · subst e; simp [Array.getD, h2, hj]
        · have : (listed.setIfInBounds i true).getD j true = listed.getD j true := by
            simp [Array.getD, h2, hj, Array.getElem_setIfInBounds, e]
          rw [this, h4 j hj]
          simp [Ne.symm e]
      · rcases List.mem_cons.1 hx with h | h
        · rw [h]; exact hin.1
        · exact h5 x h
      · intro l1 x l2 hl o ho e he hbd
        rw [List.reverse_cons] at hl
        rcases List.eq_nil_or_concat l2 with h | ⟨l3, y, h⟩
        · subst h
          have := List.append_inj' hl rfl
          obtain ⟨h7, h8⟩ := this
          have : i = x := by simpa using h8
          subst this
          rw [← h7]
          exact List.mem_reverse.2 (hin.2.2 o ho e he hbd)
        · rw [List.concat_eq_append] at h
          subst h
          rw [show l1 ++ x :: (l3 ++ [y]) = (l1 ++ x :: l3) ++ [y] by simp] at hl
          obtain ⟨h7, h8⟩ := List.append_inj' hl rfl
          exact h6 l1 x l3 h7 o ho e he hbd

theorem lin_all (m : Region.Mode) (ops : Array Oper) (t : Nat) : (Region.linearise m ops t).Nodup ∧ (∀ x ∈ Region.linearise m ops t, x < ops.size) ∧ RespM m ops (Region.linearise m ops t) ∧ (Ready m ops → (Region.linearise m ops t).length = ops.size) := by
  obtain ⟨l, h1, h2, h4, h5, h6⟩ := lin_go (m := m) (ops := ops) ops.size t (Array.replicate ops.size false) [] (by simp) (by simp) (by simp) (fun i hi => by simp [Array.getD, hi]) (by simp) (by intro l1 x l2 h; simp at h)
  unfold Region.linearise
  rw [h1]
  exact ⟨h2, h4, h5, h6⟩
theorem perm_of {n : Nat} {l : List Nat} (h2 : l.Nodup) (h4 : ∀ x ∈ l, x < n) (h3 : l.length = n) : l.Perm (List.range n) := by
  refine (List.perm_ext_iff_of_nodup h2 List.nodup_range).2 fun x => ⟨fun hx => by simpa using h4 x hx, fun hx => ?_⟩
  rcases Classical.em (x ∈ l) with h | h
  · exact h
  · exfalso
    have hsub : ∀ y ∈ (x :: l), y ∈ List.range n := by
      intro y hy
      rcases List.mem_cons.1 hy with e | e
      · rw [e]; exact hx
      · simpa using h4 y e
    have := (List.nodup_cons.2 ⟨h, h2⟩).length_le_of_subset hsub
    simp at this; omega
/-- an order that goes through shows that one is always ready -/
theorem ready_of {m : Region.Mode} {ops : Array Oper} (h : (Region.linearise m ops 0).length = ops.size) : Ready m ops := by
  obtain ⟨h1, h2, h3, _⟩ := lin_all m ops 0
  have hp := perm_of h1 h2 h
  intro acc ⟨i, hi, hn⟩
  have hin : i ∈ Region.linearise m ops 0 := hp.mem_iff.2 (by simpa using hi)
  generalize Region.linearise m ops 0 = l at *
  have key : ∀ (l2 l1 : List Nat), l = l1 ++ l2 → (∀ x ∈ l1, x ∈ acc) → i ∈ l2 → ∃ i, i < ops.size ∧ i ∉ acc ∧ ∀ o, ops[i]? = some o → ∀ e ∈ o.after.toList, Region.binds m e = true → e.on ∈ acc := by
    intro l2
    induction l2 with
    | nil => intro l1 _ _ h; cases h
    | cons x l2 ih =>
      intro l1 hl hacc hm
      rcases Classical.em (x ∈ acc) with hx | hx
      · refine ih (l1 ++ [x]) (by rw [hl]; simp) (fun y hy => ?_) ?_
        · rcases List.mem_append.1 hy with h | h
          · exact hacc y h
          · rw [List.mem_singleton.1 h]; exact hx
        · rcases List.mem_cons.1 hm with e | h
          · exact (hn (e ▸ hx)).elim
          · exact h
      · exact ⟨x, h2 x (by rw [hl]; simp), hx, fun o ho e he hb => hacc _ (h3 l1 x l2 hl o ho e he hb)⟩
  exact key l [] rfl (fun _ h => by cases h) hin
theorem ready_any {ops : Array Oper} (hpl : ∀ (j : Nat) (o : Oper), ops[j]? = some o → ∀ e ∈ o.after.toList, plainEdge e = true → e.on < j) : Ready .any ops := by
  intro acc hex
  have hmin : ∃ i, i < ops.size ∧ i ∉ acc ∧ ∀ j, j < i → j ∈ acc := by
    obtain ⟨i, hi⟩ := hex
    induction i using Nat.strongRecOn with
    | _ i ih =>
      rcases Classical.em (∀ j, j < i → j ∈ acc) with h | h
      · exact ⟨i, hi.1, hi.2, h⟩
      · rcases Classical.not_forall.1 h with ⟨j, hj⟩
        rcases Classical.not_imp.1 hj with ⟨hj1, hj2⟩
        exact ih j hj1 ⟨by omega, hj2⟩
  obtain ⟨i0, hi0, hn0, hm0⟩ := hmin
  exact ⟨i0, hi0, hn0, fun o ho e he hb => hm0 _ (hpl i0 o ho e he (plain_any hb))⟩
theorem linearise_spec {m : Region.Mode} {ops : Array Oper} (hr : Ready m ops) (t : Nat) :
    (Region.linearise m ops t).Perm (List.range ops.size) ∧ Resp ops (Region.linearise m ops t) := by
  obtain ⟨h1, h2, h3, h4⟩ := lin_all m ops t
  exact ⟨perm_of h1 h2 (h4 hr), fun l1 x l2 hl o ho e he hp => h3 l1 x l2 hl o ho e he (binds_plain hp)⟩

theorem schedule_spec {mixed : Bool} {ops : Array Oper} (hpl : ∀ (j : Nat) (o : Oper), ops[j]? = some o → ∀ e ∈ o.after.toList, plainEdge e = true → e.on < j) (hm : modesOk ops = true) (t : Nat) :
    (Region.schedule mixed ops t).Perm (List.range ops.size) ∧ Resp ops (Region.schedule mixed ops t) := by
  unfold Region.schedule
  split
  · exact linearise_spec (ready_any hpl) t
  · rename_i hc
    simp only [Bool.or_eq_true, Bool.not_eq_true', not_or, Bool.not_eq_true] at hc
    have hd : Region.departs ops = true := by simpa using hc.2
    simp only [modesOk, hd, Bool.not_true, Bool.false_or, Bool.and_eq_true, beq_iff_eq] at hm
    split
    · exact linearise_spec (ready_of hm.1) _
    · exact linearise_spec (ready_of hm.2) _

theorem drawOk_edges {E : Env} {fid : Nat} {ops : Array Oper} (h : drawOk E fid ops = true) : ∀ (j : Nat) (o : Oper), ops[j]? = some o → ∀ e ∈ o.after.toList, plainEdge e = true → e.on < j := by
  intro j o ho e he hp
  simp only [drawOk, Bool.and_eq_true] at h
  have := List.all_eq_true.1 h.1.1 (o, j) (by rw [List.mem_zipIdx_iff_getElem?]; simpa using ho)
  have := List.all_eq_true.1 this e he
  simpa [hp] using this

theorem drawOk_modes {E : Env} {fid : Nat} {ops : Array Oper} (h : drawOk E fid ops = true) : modesOk ops = true := by
  simp only [drawOk, Bool.and_eq_true] at h
  exact h.2

theorem drawOk_indep {E : Env} {fid : Nat} {ops : Array Oper} (h : drawOk E fid ops = true) {i j : Nat} (hij : i < j) {a b : Oper} (ha : ops[i]? = some a) (hb : ops[j]? = some b)
    (hd : ¬ ((masksFrom [] ops.toList).getD j 0).testBit i = true) : indep E fid ops a b = true := by
  simp only [drawOk, Bool.and_eq_true] at h
  have := List.all_eq_true.1 h.1.2 (a, i) (by rw [List.mem_zipIdx_iff_getElem?]; simpa using ha)
  have := List.all_eq_true.1 this (b, j) (by rw [List.mem_zipIdx_iff_getElem?]; simpa using hb)
  simp only [Bool.or_eq_true, decide_eq_true_eq] at this
  rcases this with (h1 | h1) | h1
  · omega
  · exact (hd h1).elim
  · exact h1

theorem runI_range {E : Env} {call : CallT} {fid : Nat} {ops : Array Oper} : ∀ (l : List Oper) (k : Nat) (st : St), (∀ j, l[j]? = ops[k + j]?) → runI E call fid ops (List.range' k l.length) st = runOps E call fid ops l st
  | [], k, st, _ => rfl
  | o :: l, k, st, h => by
    have h0 : ops[k]? = some o := by simpa using (h 0).symm
    simp only [List.length_cons, List.range'_succ, runI, runOps, stepI, h0]
    congr 1; funext s
    exact runI_range l (k + 1) s fun j => by have := h (j + 1); simpa [Nat.add_assoc, Nat.add_comm 1 j] using this

/-- Every drawn order tells what the text's order tells. -/
theorem run_schedule {E : Env} {call : CallT} {fid : Nat} {ops : Array Oper} (h : drawOk E fid ops = true) (mixed : Bool) (t : Nat) (st : St) :
    runI E call fid ops (Region.schedule mixed ops t) st = runOps E call fid ops ops.toList st := by
  have hpl := drawOk_edges h
  obtain ⟨h1, h2⟩ := schedule_spec (mixed := mixed) hpl (drawOk_modes h) t
  have hlt : ∀ x ∈ Region.schedule mixed ops t, x < ops.size := fun x hx => by simpa using h1.mem_iff.1 hx
  have hpw := pairwise_of_resp hpl h2 hlt (h1.nodup_iff.2 List.nodup_range)
  rw [runI_perm (fun i j => ((masksFrom [] ops.toList).getD j 0).testBit i = true) (fun i j hij hd s => ?_) (List.range ops.size) _ List.pairwise_lt_range h1 (hpw.imp fun hx => hx) st]
  · rw [List.range_eq_range', ← Array.length_toList]
    exact runI_range ops.toList 0 st (by simp)
  · cases ha : ops[i]? with
    | none =>
      have ei : stepI E call fid ops i = fun s => some s := by funext s; simp [stepI, ha]
      rw [ei]
      simp
    | some a =>
      have ei : stepI E call fid ops i = fun s => stepOp E call fid ops s a := by funext s; simp [stepI, ha]
      cases hb : ops[j]? with
      | none =>
        have ej : stepI E call fid ops j = fun s => some s := by funext s; simp [stepI, hb]
        rw [ei, ej]
        simp
      | some b =>
        have ej : stepI E call fid ops j = fun s => stepOp E call fid ops s b := by funext s; simp [stepI, hb]
        rw [ei, ej]
        exact step_comm (drawOk_indep h hij ha hb hd) s

/-! a variable made beside reads -/
def stepDI (E : Env) (call : CallT) (fid : Nat) (ops : Array Oper) (D : List Nat) (i : Nat) (st : St) : Option St :=
  match ops[i]? with
  | some o => stepD E call fid ops D st o
  | none => some st
theorem runG_range {E : Env} {call : CallT} {fid : Nat} {ops : Array Oper} {D : List Nat} : ∀ (l : List Oper) (k : Nat) (st : St), (∀ j, l[j]? = ops[k + j]?) → runG (stepDI E call fid ops D) (List.range' k l.length) st = runD E call fid ops D l st
  | [], k, st, _ => rfl
  | o :: l, k, st, h => by
    have h0 : ops[k]? = some o := by simpa using (h 0).symm
    simp only [List.length_cons, List.range'_succ, runG, runD, stepDI, h0]
    congr 1; funext s
    exact runG_range l (k + 1) s fun j => by have := h (j + 1); simpa [Nat.add_assoc, Nat.add_comm 1 j] using this
theorem runG_runI {E : Env} {call : CallT} {fid : Nat} {ops : Array Oper} {D : List Nat} : ∀ (l : List Nat) (st r : St), runG (stepDI E call fid ops D) l st = some r → runI E call fid ops l st = some r
  | [], st, r, h => h
  | i :: l, st, r, h => by
    simp only [runG, runI, Option.bind_eq_some_iff] at h ⊢
    obtain ⟨s1, h1, h2⟩ := h
    refine ⟨s1, ?_, runG_runI l s1 r h2⟩
    unfold stepDI at h1
    unfold stepI
    cases ho : ops[i]? with
    | none => rw [ho] at h1; exact h1
    | some o =>
      rw [ho] at h1
      simp only at h1 ⊢
      unfold stepD at h1
      split at h1
      · exact h1
      · cases h1
theorem mem_allocs {ops : Array Oper} {i : Nat} {o : Oper} (ho : ops[i]? = some o) {d : Nat} (ha : isAlloc o = true) (hd : o.dst = some d) : d ∈ allocsOf ops := by
  unfold allocsOf
  refine List.mem_filterMap.2 ⟨o, ?_, by simp [ha, hd]⟩
  exact List.mem_of_getElem? (by simpa using ho : ops.toList[i]? = some o)
/-- Every drawn order tells what the text's order tells. -/
theorem run_schedule2 {E : Env} {call : CallT} {fid : Nat} {ops : Array Oper} (h : drawOk2 E fid ops = true) (mixed : Bool) (t : Nat) {st r : St} (hr : runD E call fid ops (allocsOf ops) ops.toList st = some r) :
    runI E call fid ops (Region.schedule mixed ops t) st = some r := by
  simp only [drawOk2, Bool.and_eq_true] at h
  have hpl : ∀ (j : Nat) (o : Oper), ops[j]? = some o → ∀ e ∈ o.after.toList, plainEdge e = true → e.on < j := by
    intro j o ho e he hp
    have := List.all_eq_true.1 h.1.1 (o, j) (by rw [List.mem_zipIdx_iff_getElem?]; simpa using ho)
    have := List.all_eq_true.1 this e he
    simpa [hp] using this
  have hin : ∀ {i j : Nat}, i < j → ∀ {a b : Oper}, ops[i]? = some a → ops[j]? = some b → ¬ ((masksFrom [] ops.toList).getD j 0).testBit i = true → indep2 E fid ops a b = true := by
    intro i j hij a b ha hb hd
    have := List.all_eq_true.1 h.1.2 (a, i) (by rw [List.mem_zipIdx_iff_getElem?]; simpa using ha)
    have := List.all_eq_true.1 this (b, j) (by rw [List.mem_zipIdx_iff_getElem?]; simpa using hb)
    simp only [Bool.or_eq_true, decide_eq_true_eq] at this
    rcases this with (h1 | h1) | h1
    · omega
    · exact (hd h1).elim
    · exact h1
  obtain ⟨h1, h2⟩ := schedule_spec (mixed := mixed) hpl h.2 t
  have hlt : ∀ x ∈ Region.schedule mixed ops t, x < ops.size := fun x hx => by simpa using h1.mem_iff.1 hx
  have hpw := pairwise_of_resp hpl h2 hlt (h1.nodup_iff.2 List.nodup_range)
  refine runG_runI (D := allocsOf ops) _ _ _ ?_
  rw [runG_perm (fun i j => ((masksFrom [] ops.toList).getD j 0).testBit i = true) (fun i j hij hd s => ?_) (List.range ops.size) _ List.pairwise_lt_range h1 (hpw.imp fun hx => hx) st]
  · rw [List.range_eq_range', ← Array.length_toList, runG_range ops.toList 0 st (by simp)]
    exact hr
  · cases ha : ops[i]? with
    | none =>
      have ei : stepDI E call fid ops (allocsOf ops) i = fun s => some s := by funext s; simp [stepDI, ha]
      rw [ei]
      simp
    | some a =>
      have ei : stepDI E call fid ops (allocsOf ops) i = fun s => stepD E call fid ops (allocsOf ops) s a := by funext s; simp [stepDI, ha]
      cases hb : ops[j]? with
      | none =>
        have ej : stepDI E call fid ops (allocsOf ops) j = fun s => some s := by funext s; simp [stepDI, hb]
        rw [ei, ej]
        simp
      | some b =>
        have ej : stepDI E call fid ops (allocsOf ops) j = fun s => stepD E call fid ops (allocsOf ops) s b := by funext s; simp [stepDI, hb]
        rw [ei, ej]
        exact stepD_comm (fun d h1 h2 => mem_allocs ha h1 h2) (fun d h1 h2 => mem_allocs hb h1 h2) (hin hij ha hb hd) s

theorem mem_freshs {E : Env} {fid : Nat} {ops : Array Oper} {i : Nat} {o : Oper} (ho : ops[i]? = some o) {d : Nat} (ha : isFresh E fid o = true) (hd : o.dst = some d) : d ∈ freshs E fid ops := by
  unfold freshs
  refine List.mem_filterMap.2 ⟨o, ?_, by simp [ha, hd]⟩
  exact List.mem_of_getElem? (by simpa using ho : ops.toList[i]? = some o)
theorem run_schedule3 {E : Env} {call : CallT} {fid : Nat} {ops : Array Oper} (h : drawOk3 E fid ops = true) (mixed : Bool) (t : Nat) {st r : St} (hr : runD E call fid ops (freshs E fid ops) ops.toList st = some r) :
    runI E call fid ops (Region.schedule mixed ops t) st = some r := by
  simp only [drawOk3, Bool.and_eq_true] at h
  have hpl : ∀ (j : Nat) (o : Oper), ops[j]? = some o → ∀ e ∈ o.after.toList, plainEdge e = true → e.on < j := by
    intro j o ho e he hp
    have := List.all_eq_true.1 h.1.1 (o, j) (by rw [List.mem_zipIdx_iff_getElem?]; simpa using ho)
    have := List.all_eq_true.1 this e he
    simpa [hp] using this
  have hin : ∀ {i j : Nat}, i < j → ∀ {a b : Oper}, ops[i]? = some a → ops[j]? = some b → ¬ ((masksFrom [] ops.toList).getD j 0).testBit i = true → indep3 E fid ops a b = true := by
    intro i j hij a b ha hb hd
    have := List.all_eq_true.1 h.1.2 (a, i) (by rw [List.mem_zipIdx_iff_getElem?]; simpa using ha)
    have := List.all_eq_true.1 this (b, j) (by rw [List.mem_zipIdx_iff_getElem?]; simpa using hb)
    simp only [Bool.or_eq_true, decide_eq_true_eq] at this
    rcases this with (h1 | h1) | h1
    · omega
    · exact (hd h1).elim
    · exact h1
  obtain ⟨h1, h2⟩ := schedule_spec (mixed := mixed) hpl h.2 t
  have hlt : ∀ x ∈ Region.schedule mixed ops t, x < ops.size := fun x hx => by simpa using h1.mem_iff.1 hx
  have hpw := pairwise_of_resp hpl h2 hlt (h1.nodup_iff.2 List.nodup_range)
  refine runG_runI (D := freshs E fid ops) _ _ _ ?_
  rw [runG_perm (fun i j => ((masksFrom [] ops.toList).getD j 0).testBit i = true) (fun i j hij hd s => ?_) (List.range ops.size) _ List.pairwise_lt_range h1 (hpw.imp fun hx => hx) st]
  · rw [List.range_eq_range', ← Array.length_toList, runG_range ops.toList 0 st (by simp)]
    exact hr
  · cases ha : ops[i]? with
    | none =>
      have ei : stepDI E call fid ops (freshs E fid ops) i = fun s => some s := by funext s; simp [stepDI, ha]
      rw [ei]
      simp
    | some a =>
      have ei : stepDI E call fid ops (freshs E fid ops) i = fun s => stepD E call fid ops (freshs E fid ops) s a := by funext s; simp [stepDI, ha]
      cases hb : ops[j]? with
      | none =>
        have ej : stepDI E call fid ops (freshs E fid ops) j = fun s => some s := by funext s; simp [stepDI, hb]
        rw [ei, ej]
        simp
      | some b =>
        have ej : stepDI E call fid ops (freshs E fid ops) j = fun s => stepD E call fid ops (freshs E fid ops) s b := by funext s; simp [stepDI, hb]
        rw [ei, ej]
        exact stepD_comm3 (fun d h1 h2 => mem_freshs ha h1 h2) (fun d h1 h2 => mem_freshs hb h1 h2) (hin hij ha hb hd) s

end Go.Proofs.YthdeaenleimbeaaDoor.Ev
