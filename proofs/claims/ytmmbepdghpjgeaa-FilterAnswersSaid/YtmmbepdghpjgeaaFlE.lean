/- Packet filter, the reader of a rule's text: pattern. Conditions: none. -/
import Derived.Test.YtmmbepdghpjgeaaFlD
set_option linter.unusedVariables false
set_option linter.unusedSimpArgs false
set_option maxRecDepth 8000
set_option maxHeartbeats 1000000
namespace Go.Proofs.Ytmmbepdghpjgeaa.Den
open Go Go.RowKit
theorem wrap32_id {a : Int} (h1 : 0 ≤ a) (h2 : a < 4294967296) : IntKind.u32.wrap a = a := by
  have e1 : (2 ^ IntKind.u32.bits : Int) = 4294967296 := by decide
  simp only [IntKind.wrap, e1, IntKind.signed, Bool.false_and, Bool.false_eq_true, if_false]
  omega
theorem shl_oct {a : Nat} (ha : a < 2 ^ 24) : bin .shl (U32 (a : Int)) (.int .u64 8) = some (U32 ((a * 256 : Nat) : Int)) := by
  have : IntKind.u32.wrap ((a : Int) * 2 ^ (min (8 : Int).toNat IntKind.u32.bits)) = ((a * 256 : Nat) : Int) := by
    have e : (2 ^ (min (8 : Int).toNat IntKind.u32.bits) : Int) = 256 := by decide
    rw [e, wrap32_id (by omega) (by omega)]; push_cast; rfl
  show (if (8 : Int) < 0 then none else some (Value.int .u32 (IntKind.u32.wrap ((a : Int) * 2 ^ (min (8 : Int).toNat IntKind.u32.bits))))) = _
  rw [if_neg (by decide), this]
theorem or_oct {a n : Nat} (ha : a < 2 ^ 24) (hn : n < 256) : bin .or (U32 ((a * 256 : Nat) : Int)) (U32 (n : Int)) = some (U32 ((a * 256 + n : Nat) : Int)) := by
  have : (BitVec.ofInt IntKind.u32.bits ((a * 256 : Nat) : Int) ||| BitVec.ofInt IntKind.u32.bits (n : Int)).toNat = a * 256 + n := by
    rw [BitVec.toNat_or, BitVec.ofInt_natCast, BitVec.ofInt_natCast, BitVec.toNat_ofNat, BitVec.toNat_ofNat]
    have e : 2 ^ IntKind.u32.bits = 4294967296 := by decide
    rw [e, Nat.mod_eq_of_lt (by omega), Nat.mod_eq_of_lt (by omega), Nat.mul_comm]
    exact (Nat.two_pow_add_eq_or_of_lt (i := 8) hn a).symm
  show (if IntKind.u32 = IntKind.u32 then bitsI .or .u32 _ _ else none) = _
  rw [if_pos rfl]
  simp only [bitsI, this]
  rw [wrap32_id (by omega) (by omega)]
section
variable {w w' w0 : World} {L L' F cs A X Y : List Chunk} {s : Value} {K : VK} {R : ER} {b i j at' : Nat} {S : ByteArray}
theorem oct_round {Q : ER} {k1 : V4} {x2 x3 a a' : Nat} {t : Int} {no : Bool} (H : Hp w0 w (⟨x3, .t 25, [U32 (a : Int), I 0, .bool no]⟩ :: ⟨x2, .t 25, [U32 0, I 0, .bool false]⟩ :: (X ++ ⟨b, .t 102, [.string S, I (i : Int)]⟩ :: Y)))
    (h : octP S i a = some (a', j)) (ha : a < 2 ^ 24) (hS : S.size ≤ 1000) (hi : i ≤ S.size) (h0 : 0 ≤ t) (h4 : t < 4)
    (k : ∀ w', Hp w0 w' (⟨x3, .t 25, [U32 (a' : Int), I 0, .bool no]⟩ :: ⟨x2, .t 25, [U32 0, I 0, .bool false]⟩ :: (X ++ ⟨b, .t 102, [.string S, I (j : Int)]⟩ :: Y)) → k1 (ptr b 0) (ptr x2 0) (ptr x3 0) (I (t + 1)) w') :
    F91_j11 Q k1 (ptr b 0) (ptr x2 0) (ptr x3 0) (I t) w := by
  unfold octP at h
  cases hn : numP S i 0 255 (-1) with
  | none => rw [hn] at h; cases h
  | some p =>
    obtain ⟨n, j'⟩ := p
    rw [hn] at h
    injection h with h
    obtain ⟨rfl, rfl⟩ := Prod.mk.inj h
    have hq := num_le hn hi
    unfold F91_j11
    refine drew_k H fun w H => ?_
    try simp only [W0]
    refine ld_a ?_
    refine pv_of (shl_oct ha) ?_
    try simp only [W0]
    refine cal_h (fnumber_spec H updP.cons.cons hn (by decide) (by decide) (by decide) (by decide) hS hi) ?_
    rintro _ w ⟨rfl, H⟩
    try simp only [W0]
    refine rd1_s ?_
    rw [wrap32_id (a := (n : Int)) (by omega) (by omega)]
    refine pv_of (or_oct ha (by omega)) ?_
    try simp only [W0]
    refine st_a fun w H => ?_
    unfold F91_j9
    refine add_k (by omega) (by omega) rfl ?_
    exact k w H
theorem oct_le {a a' : Nat} (h : octP S i a = some (a', j)) (hi : i ≤ S.size) : j ≤ S.size ∧ a' ≤ a * 256 + 255 := by
  unfold octP at h
  cases hn : numP S i 0 255 (-1) with
  | none => rw [hn] at h; cases h
  | some p =>
    obtain ⟨n, j'⟩ := p
    rw [hn] at h
    injection h with h
    obtain ⟨rfl, rfl⟩ := Prod.mk.inj h
    have hq := num_le hn hi
    exact ⟨hq.1, by simp only; omega⟩
theorem fpattern_spec {p : Pat} (H : Hp w0 w L) (hu : Upd L b (.t 102) [.string S, I (i : Int)] (.t 102) [.string S, I (j : Int)] L') (hn : patP S i = some (p, j)) (hS : S.size ≤ 1000) (hi : i ≤ S.size) :
    Calls Pg 91 ⟨[ptr b 0]⟩ w fun e w' => e = .returned (.agg ⟨p.enc⟩) ∧ Hp w0 w' L' := by
  obtain ⟨X, Y, rfl, rfl⟩ := hu
  unfold patP at hn
  simp only [Option.bind_eq_bind, Option.bind_eq_some_iff] at hn
  obtain ⟨⟨a1, i1⟩, h1, i2, h2, ⟨a2, i3⟩, h3, i4, h4, ⟨a3, i5⟩, h5, i6, h6, ⟨a4, i7⟩, h7, i8, h8, ⟨nb, i9⟩, h9, h10⟩ := hn
  simp only at h1 h2 h3 h4 h5 h6 h7 h8 h9 h10
  split at h10
  · rename_i hend
    injection h10 with h10
    obtain ⟨rfl, rfl⟩ := Prod.mk.inj h10
    generalize hno : (chr S i == 33) = no at *
    generalize hi0 : (if no = true then i + 1 else i) = i0 at *
    have hi0' : i0 ≤ S.size := by
      subst hi0; subst hno
      split
      · rename_i h
        rcases Nat.lt_or_ge i S.size with g | g
        · omega
        · rw [chr_out g] at h; simp at h
      · exact hi
    have q1 := oct_le h1 hi0'
    have q2 := sign_le h2 (by decide)
    have q3 := oct_le h3 q2.2
    have q4 := sign_le h4 (by decide)
    have q5 := oct_le h5 q4.2
    have q6 := sign_le h6 (by decide)
    have q7 := oct_le h7 q6.2
    have q8 := sign_le h8 (by decide)
    have q9 := num_le h9 q8.2
    generalize hQ : (fun (e : Ending) (w' : World) => e = .returned (.agg ⟨(⟨(a4 : Int), (nb : Int), no⟩ : Pat).enc⟩) ∧ Hp w0 w' (X ++ ⟨b, .t 102, [.string S, I (i9 : Int)]⟩ :: Y) : ER) = Q
    apply F91_calls
    unfold F91
    refine al_m (ys := [U32 0, I 0, .bool false]) H (by kernel_rfl) fun w x2 H => ?_
    refine al_m (ys := [U32 0, I 0, .bool false]) H (by kernel_rfl) fun w x3 H => ?_
    unfold F91_j12
    try simp only [W0]
    refine ld_m H hasP.cons.cons (v := I (i : Int)) rfl ?_
    refine cal_h (fchar_spec H hasP.cons.cons) ?_
    rintro _ w ⟨rfl, H⟩
    try simp only [W0]
    have go : ∀ w, Hp w0 w (⟨x3, .t 25, [U32 ((0 : Nat) : Int), I 0, .bool no]⟩ :: ⟨x2, .t 25, [U32 0, I 0, .bool false]⟩ :: (X ++ ⟨b, .t 102, [.string S, I (i0 : Int)]⟩ :: Y)) → F91_j1 Q (ptr b 0) (ptr x2 0) (ptr x3 0) w := by
      clear H
      intro w H
      unfold F91_j1 F91_j6 F91_j7
      refine ⟨5, ?_⟩
      show F91_l1 Q 5 (ptr b 0) (ptr x2 0) (ptr x3 0) (I 0) w
      rw [F91_l1_succ]
      unfold F91_b1
      refine lss_y (by decide) ?_
      try simp only [W0]
      unfold F91_j8 F91_j10
      refine gtr_n (by decide) ?_
      try simp only [W0]
      refine oct_round H h1 (by decide) hS hi0' (by decide) (by decide) fun w H => ?_
      rw [F91_l1_succ]
      unfold F91_b1
      refine lss_y (by decide) ?_
      try simp only [W0]
      unfold F91_j8 F91_j10
      refine gtr_y (by decide) ?_
      try simp only [W0]
      refine cal_h (fsign_spec (c := 46) H updP.cons.cons h2 (by omega)) ?_
      rintro _ w ⟨rfl, H⟩
      try simp only [W0]
      refine oct_round H h3 (by omega) hS q2.2 (by decide) (by decide) fun w H => ?_
      rw [F91_l1_succ]
      unfold F91_b1
      refine lss_y (by decide) ?_
      try simp only [W0]
      unfold F91_j8 F91_j10
      refine gtr_y (by decide) ?_
      try simp only [W0]
      refine cal_h (fsign_spec (c := 46) H updP.cons.cons h4 (by omega)) ?_
      rintro _ w ⟨rfl, H⟩
      try simp only [W0]
      refine oct_round H h5 (by omega) hS q4.2 (by decide) (by decide) fun w H => ?_
      rw [F91_l1_succ]
      unfold F91_b1
      refine lss_y (by decide) ?_
      try simp only [W0]
      unfold F91_j8 F91_j10
      refine gtr_y (by decide) ?_
      try simp only [W0]
      refine cal_h (fsign_spec (c := 46) H updP.cons.cons h6 (by omega)) ?_
      rintro _ w ⟨rfl, H⟩
      try simp only [W0]
      refine oct_round H h7 (by omega) hS q6.2 (by decide) (by decide) fun w H => ?_
      rw [F91_l1_succ]
      unfold F91_b1
      refine lss_n (by decide) ?_
      try simp only [W0]
      unfold F91_j2
      refine cal_h (fsign_spec (c := 47) H updP.cons.cons h8 (by omega)) ?_
      rintro _ w ⟨rfl, H⟩
      try simp only [W0]
      refine ld_a ?_
      have fin : ∀ nn : Int, nn = (if a4 = 0 ∧ no = false then 0 else -1) → F91_j3 Q (ptr b 0) (ptr x2 0) (ptr x3 0) (I nn) w := by
        rintro nn rfl
        unfold F91_j3
        refine cal_h (fnumber_spec H updP.cons.cons h9 (by decide) (by decide) (by decide) (by decide) hS q8.2) ?_
        rintro _ w ⟨rfl, H⟩
        try simp only [W0]
        refine st_a fun w H => ?_
        simp only [List.set_cons_zero, List.set_cons_succ] at H
        unfold F91_j5
        try simp only [W0]
        refine ld_m H hasP.cons.cons (v := I (i9 : Int)) rfl ?_
        refine cal_h (fends_spec H hasP.cons.cons) ?_
        rintro _ w ⟨rfl, H⟩
        rw [hend]
        try simp only [W0]
        unfold F91_j4
        refine ldA_a ?_
        refine stA_a fun w H => ?_
        refine ldA_a ?_
        subst hQ
        exact ⟨rfl, H.tail.tail⟩
      refine eql_k (fun h0 => ?_) (fun h0 => ?_)
      · simp only [W0]
        refine ld_a ?_
        try simp only [W0]
        cases no
        · simp only [W0]
          exact fin _ (by rw [if_pos ⟨by omega, rfl⟩])
        · simp only [W0]
          exact fin _ (by rw [if_neg (by simp)])
      · simp only [W0]
        exact fin _ (by rw [if_neg (by omega)])
    refine eql_k (fun h0 => ?_) (fun h0 => ?_)
    · have hn1 : no = true := by subst hno; simp; omega
      subst hn1
      simp only [if_true] at hi0
      subst hi0
      try simp only [W0]
      refine st_a fun w H => ?_
      try simp only [W0]
      refine ld_m H hasP.cons.cons (v := I (i : Int)) rfl ?_
      refine add_k (z := ((i + 1 : Nat) : Int)) (by omega) (by omega) (by omega) ?_
      try simp only [W0]
      refine st_m H updP.cons.cons (by simp) rfl fun w H => ?_
      exact go w H
    · have hn1 : no = false := by subst hno; simp; omega
      subst hn1
      simp only [Bool.false_eq_true, if_false] at hi0
      subst hi0
      try simp only [W0]
      exact go w H
  · cases h10
end
end Go.Proofs.Ytmmbepdghpjgeaa.Den
