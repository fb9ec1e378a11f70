/- Packet filter: Clone, New. Conditions: none. -/
import Derived.Test.YtmmbepdghpjgeaaFlL
import Derived.Test.YtmmbepdghpjgeaaOck
set_option linter.unusedVariables false
set_option linter.unusedSimpArgs false
set_option maxRecDepth 8000
set_option maxHeartbeats 1000000
namespace Go.Proofs.Ytmmbepdghpjgeaa.Den
open Go Go.RowKit
/-- A connection: protocol, source, dest, from, to; what is stored of it: expiry, number. -/
abbrev Con := Int × Int × Int × Int × Int
abbrev Ey := Int × Int
def Con.enc (x : Con) : List Value := [I x.1, U32 x.2.1, U32 x.2.2.1, I x.2.2.2.1, I x.2.2.2.2]
def kC (x : Con) : Value := .agg ⟨Con.enc x⟩
def vE (x : Ey) : Value := .agg ⟨[I x.1, I x.2]⟩
theorem mapC : MapK (κ := Con) (ν := Ey) 115 119 121 (.struct (Pg.fieldsOf 119)) kC vE (0, 0) :=
  MapK.agg (cells := Con.enc) (ks := [0, 0, 0, 0, 0]) (by kernel_rfl) (by kernel_rfl) (by kernel_rfl) (by kernel_rfl) (fun _ => rfl) (fun x y => by
    simp only [Con.enc, eqCells, eqLeaf, if_true]
    have : (x.1 == y.1 && (x.2.1 == y.2.1 && (x.2.2.1 == y.2.2.1 && (x.2.2.2.1 == y.2.2.2.1 && (x.2.2.2.2 == y.2.2.2.2 && true))))) = decide (x = y) := by rw [Bool.eq_iff_iff]; simp [Prod.ext_iff]
    rw [this]) (fun x => by simp [Instr.sameBits, Con.enc])
theorem elI64 : ElT 91 2 cI.sz 8 [I 0] := ⟨by kernel_rfl, by kernel_rfl, rfl⟩
def newErr (l : List Rul) (limit life : Int) : Int :=
  if checkAll l ≠ 0 then checkAll l else if !inn limit 1 100 || decide (life < 1) || decide (1099511627776 < life) then 34 else 0
section
variable {w w' w0 : World} {L L' F cs A X Y : List Chunk} {s : Value} {K : VK} {R : ER} {b i j : Nat}
theorem nil_of {α : Type} {C : Cod α} {xs : List α} {n c : Nat} (hz : 0 < C.sz) (h : TR C w0 cs (.slice none n c) xs) : xs = [] := by
  rcases h with (⟨c', he, h0, _⟩ | ⟨a, c', he, _⟩) | ⟨b, o, c', e, l, he, _⟩
  · rcases Nat.mul_eq_zero.1 h0 with h | h
    · exact List.length_eq_zero_iff.1 h
    · omega
  · cases he
  · cases he
theorem cloneRul_spec {xs : List _} (h : TR cRul w0 cs s xs) (H : Hp w0 w L) (m1 : ∀ c ∈ cs, c ∈ L) (hl : xs.length ≤ 2 ^ 40) :
    Calls Pg 18 ⟨[s]⟩ w fun e w' => ∃ s' cs', e = .returned s' ∧ Hp w0 w' (cs' ++ L) ∧ TS cRul 29 s' xs cs' := by
  apply F18_calls
  unfold F18
  obtain ⟨⟨a, k, cc⟩, rfl⟩ := h.sh
  cases a with
  | none =>
    have := nil_of (by decide) h
    subst this
    simp only [Sh.val]
    (try simp only [W0])
    exact ⟨_, [], rfl, by simpa using H, TS.nil⟩
  | some a =>
    simp only [Sh.val] at h ⊢
    (try simp only [W0])
    refine lit0_t (C := cRul) elRul H fun w s0 H h0 => ?_
    refine append_t (C := cRul) (F := L) elRul H h0 Split.nil h m1 (by simp; omega) (by simp; omega) fun w s' cs' H h' => ?_
    exact ⟨s', cs', rfl, H, by simpa using h'⟩
theorem clone64_spec {xs : List _} (h : TR cI w0 cs s xs) (H : Hp w0 w L) (m1 : ∀ c ∈ cs, c ∈ L) (hl : xs.length ≤ 2 ^ 40) :
    Calls Pg 62 ⟨[s]⟩ w fun e w' => ∃ s' cs', e = .returned s' ∧ Hp w0 w' (cs' ++ L) ∧ TS cI 2 s' xs cs' := by
  apply F62_calls
  unfold F62
  obtain ⟨⟨a, k, cc⟩, rfl⟩ := h.sh
  cases a with
  | none =>
    have := nil_of (by decide) h
    subst this
    simp only [Sh.val]
    (try simp only [W0])
    exact ⟨_, [], rfl, by simpa using H, TS.nil⟩
  | some a =>
    simp only [Sh.val] at h ⊢
    (try simp only [W0])
    refine lit0_t (C := cI) elI64 H fun w s0 H h0 => ?_
    refine append_t (C := cI) (F := L) elI64 H h0 Split.nil h m1 (by simp; omega) (by simp; omega) fun w s' cs' H h' => ?_
    exact ⟨s', cs', rfl, H, by simpa using h'⟩
theorem new_err {l : List Rul} {limit life : Int} (hl : TR cRul w0 cs s l) (hok : ∀ r ∈ l, r.Ok) (hn : l.length < 2 ^ 63) (H : Hp w0 w L) (m1 : ∀ c ∈ cs, c ∈ L) (he : newErr l limit life ≠ 0) :
    Calls Pg 19 ⟨[s, I limit, I life]⟩ w fun e w' => e = .returned (.tuple ⟨[.pointer none, I (newErr l limit life)]⟩) ∧ Hp w0 w' L := by
  apply F19_calls
  unfold F19
  refine cal_h (checkAll_spec hl hok hn H m1) ?_
  rintro _ w ⟨rfl, H⟩
  (try simp only [W0])
  refine neq_k (fun h => ?_) (fun h => ?_)
  · (try simp only [W0])
    exact ⟨by rw [newErr, if_pos h], H⟩
  · (try simp only [W0])
    unfold F19_j1 F19_j3
    refine cal_h (within_spec H) ?_
    rintro _ w ⟨rfl, H⟩
    have e0 : newErr l limit life = if !inn limit 1 100 || decide (life < 1) || decide (1099511627776 < life) then 34 else 0 := by rw [newErr, if_neg (by simpa using h)]
    rw [e0] at he ⊢
    cases h1 : inn limit 1 100 with
    | false =>
      (try simp only [W0])
      exact ⟨by simp, H⟩
    | true =>
      (try simp only [W0])
      refine lss_k (fun h2 => ?_) (fun h2 => ?_)
      · (try simp only [W0])
        exact ⟨by rw [if_pos (by simp [h2])], H⟩
      · (try simp only [W0])
        refine gtr_k (fun h3 => ?_) (fun h3 => ?_)
        · (try simp only [W0])
          exact ⟨by rw [if_pos (by simp [h3])], H⟩
        · exfalso
          rw [h1, if_neg (by simp; omega)] at he
          exact he rfl
theorem new_ok {l : List Rul} {limit life : Int} (hl : TR cRul w0 cs s l) (hok : ∀ r ∈ l, r.Ok) (H : Hp w0 w L) (m1 : ∀ c ∈ cs, c ∈ L) (he : newErr l limit life = 0) (hn : l.length < 2 ^ 63) :
    Calls Pg 19 ⟨[s, I limit, I life]⟩ w fun e w' => ∃ (fb mb : Nat) (sr sc : Value) (cr cc : List Chunk), e = .returned (.tuple ⟨[ptr fb 0, I 0]⟩) ∧ TS cRul 29 sr l cr ∧ TS cI 2 sc (List.replicate l.length 0) cc ∧
      Hp w0 w' (⟨fb, .t 117, [sr, sc, I limit, I life, .map (some mb), I 0, I 0]⟩ :: ⟨mb, .o (mobj kC vE [] 0), []⟩ :: (cc ++ (cr ++ L))) := by
  unfold newErr at he
  split at he
  · rename_i h; exact absurd he h
  rename_i h0
  split at he
  · cases he
  rename_i h1
  simp only [Bool.or_eq_true, Bool.not_eq_true', decide_eq_true_eq, not_or, Bool.not_eq_false] at h1
  obtain ⟨⟨h1, h2⟩, h3⟩ := h1
  have hlen : l.length ≤ 200 := by
    have h0' : checkAll l = 0 := Decidable.not_not.1 h0
    unfold checkAll at h0'
    split at h0'
    · cases h0'
    · omega
  generalize hQ : (fun (e : Ending) (w' : World) => ∃ (fb mb : Nat) (sr sc : Value) (cr cc : List Chunk), e = .returned (.tuple ⟨[ptr fb 0, I 0]⟩) ∧ TS cRul 29 sr l cr ∧ TS cI 2 sc (List.replicate l.length 0) cc ∧
      Hp w0 w' (⟨fb, .t 117, [sr, sc, I limit, I life, .map (some mb), I 0, I 0]⟩ :: ⟨mb, .o (mobj kC vE [] 0), []⟩ :: (cc ++ (cr ++ L))) : ER) = Q
  apply F19_calls
  unfold F19
  refine cal_h (checkAll_spec hl hok hn H m1) ?_
  rintro _ w ⟨rfl, H⟩
  (try simp only [W0])
  refine neq_n (by simpa using h0) ?_
  (try simp only [W0])
  unfold F19_j1 F19_j3
  refine cal_h (within_spec H) ?_
  rintro _ w ⟨rfl, H⟩
  rw [h1]
  (try simp only [W0])
  refine lss_n h2 ?_
  (try simp only [W0])
  refine gtr_n h3 ?_
  (try simp only [W0])
  unfold F19_j2
  refine drew_k H fun w H => ?_
  refine pv_of (lenS_tr hl) ?_
  (try simp only [W0])
  have fin : ∀ (w : World) (sr sc : Value) (mb : Nat) (cr cc : List Chunk), TS cRul 29 sr l cr → TS cI 2 sc (List.replicate l.length 0) cc → Hp w0 w (⟨mb, .o (mobj kC vE [] 0), []⟩ :: (cc ++ (cr ++ L))) →
      pv (bldO [.slice none 0 0, .slice none 0 0, .int .i64 0, .int .i64 0, .map none, .int .i64 0, .int .i64 0] [(0,1, sr), (1,1, sc), (2,1, I limit), (3,1, I life), (4,1, .map (some mb))]) (fun v8 => bx 117 v8 fun v9 => Q (.returned (.tuple ⟨[v9, (.int .i64 0)]⟩))) w := by
    intro w sr sc mb cr cc t1 t2 H
    obtain ⟨k1, rfl⟩ := t1.sh
    obtain ⟨k2, rfl⟩ := t2.sh
    refine bld_a ?_
    refine bx_m H fun w fb H => ?_
    subst hQ
    exact ⟨fb, mb, _, _, cr, cc, rfl, t1, t2, H⟩
  have hb : l.length * 8 ≤ 2 ^ 48 := by omega
  have mk : ∀ {L : List Chunk} {w : World} {K : VK} (H : Hp w0 w L) (k : ∀ w' s cs, Hp w0 w' (cs ++ L) → TS cI 2 s (List.replicate l.length 0) cs → K s w'), valV Pg noR (Instr.makeSlice 91 (I (l.length : Int)) (I (l.length : Int))) K w :=
    fun H k => make_t (C := cI) (x := 0) elI64 rfl H rfl hb (by omega) k
  refine ⟨?_, ?_, ?_⟩
  · refine cal_h (cloneRul_spec hl H (fun c hc => m1 c hc) (by omega)) ?_
    rintro _ w ⟨sr, cr, rfl, H, tr⟩
    (try simp only [W0])
    refine ⟨?_, ?_⟩
    · refine mk H fun w sc cc H tc => ?_
      (try simp only [W0])
      refine make_m (key := kC) (val := vE) H fun w mb H => ?_
      (try simp only [W0])
      exact fin w sr sc mb cr cc tr tc H.re
    · (try simp only [allW])
      refine make_m (key := kC) (val := vE) H fun w mb H => ?_
      (try simp only [W0])
      refine mk H fun w sc cc H tc => ?_
      (try simp only [W0])
      exact fin w sr sc mb cr cc tr tc H.re
  · refine mk H fun w sc cc H tc => ?_
    (try simp only [W0])
    refine ⟨?_, ?_⟩
    · refine cal_h (cloneRul_spec hl H (fun c hc => List.mem_append_right _ (m1 c hc)) (by omega)) ?_
      rintro _ w ⟨sr, cr, rfl, H, tr⟩
      (try simp only [W0])
      refine make_m (key := kC) (val := vE) H fun w mb H => ?_
      (try simp only [W0])
      exact fin w sr sc mb cr cc tr tc H.re
    · (try simp only [allW])
      refine make_m (key := kC) (val := vE) H fun w mb H => ?_
      (try simp only [W0])
      refine cal_h (cloneRul_spec hl H (fun c hc => List.mem_cons_of_mem _ (List.mem_append_right _ (m1 c hc))) (by omega)) ?_
      rintro _ w ⟨sr, cr, rfl, H, tr⟩
      (try simp only [W0])
      exact fin w sr sc mb cr cc tr tc H.re
  · (try simp only [allW])
    refine make_m (key := kC) (val := vE) H fun w mb H => ?_
    (try simp only [W0])
    refine ⟨?_, ?_⟩
    · refine cal_h (cloneRul_spec hl H (fun c hc => List.mem_cons_of_mem _ (m1 c hc)) (by omega)) ?_
      rintro _ w ⟨sr, cr, rfl, H, tr⟩
      (try simp only [W0])
      refine mk H fun w sc cc H tc => ?_
      (try simp only [W0])
      exact fin w sr sc mb cr cc tr tc H.re
    · refine mk H fun w sc cc H tc => ?_
      (try simp only [W0])
      refine cal_h (cloneRul_spec hl H (fun c hc => List.mem_append_right _ (List.mem_cons_of_mem _ (m1 c hc))) (by omega)) ?_
      rintro _ w ⟨sr, cr, rfl, H, tr⟩
      (try simp only [W0])
      exact fin w sr sc mb cr cc tr tc H.re
end
end Go.Proofs.Ytmmbepdghpjgeaa.Den
