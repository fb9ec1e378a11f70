/- Message queue: plain data, comparison, the heap's methods. Conditions: none. -/
import Derived.Test.YthcekppbbanfeaaGreatOm
import Derived.Test.YthcekppbbanfeaaGreatFns
set_option linter.unusedVariables false
set_option linter.unusedSimpArgs false
set_option maxRecDepth 8000
set_option maxHeartbeats 1000000
namespace Go.Proofs.YthcekppbbanfeaaGreat.Den
open Go Go.RowKit
def cI : Cod Int := ⟨1, fun n => [I n], fun _ => rfl, by intro a c hc; simp at hc; subst hc; rfl⟩
def cB : Cod Int := ⟨1, fun n => [U8 n], fun _ => rfl, by intro a c hc; simp at hc; subst hc; rfl⟩
/-- A message: priority, the slice, its bytes. -/
structure Ms where
  pri : Int
  sh : Sh
  bs : List Int
def Ms.enc (m : Ms) : List Value := [I m.pri, m.sh.val]
def cMs : Cod Ms := ⟨2, Ms.enc, fun _ => rfl, by intro a c hc; simp only [Ms.enc, List.mem_cons, List.not_mem_nil, or_false] at hc; rcases hc with rfl | rfl <;> rfl⟩
structure Kp where
  m : Ms
  num : Int
def Kp.enc (k : Kp) : List Value := [I k.m.pri, k.m.sh.val, I k.num]
def cKp : Cod Kp := ⟨3, Kp.enc, fun _ => rfl, by intro a c hc; simp only [Kp.enc, List.mem_cons, List.not_mem_nil, or_false] at hc; rcases hc with rfl | rfl | rfl <;> rfl⟩
structure Sw where
  th : Int
  dl : Int
  m : Ms
def Sw.enc (k : Sw) : List Value := [I k.th, I k.dl, I k.m.pri, k.m.sh.val]
def cSw : Cod Sw := ⟨4, Sw.enc, fun _ => rfl, by intro a c hc; simp only [Sw.enc, List.mem_cons, List.not_mem_nil, or_false] at hc; rcases hc with rfl | rfl | rfl | rfl <;> rfl⟩
structure Rw where
  th : Int
  dl : Int
def Rw.enc (k : Rw) : List Value := [I k.th, I k.dl]
def cRw : Cod Rw := ⟨2, Rw.enc, fun _ => rfl, by intro a c hc; simp only [Rw.enc, List.mem_cons, List.not_mem_nil, or_false] at hc; rcases hc with rfl | rfl <;> rfl⟩
def cmpZ (a b : Int) : Int := if a < b then -1 else if b < a then 1 else 0
theorem cmpZ_lt (a b : Int) : cmpZ a b < 0 ↔ a < b := by
  unfold cmpZ
  split
  · omega
  split <;> omega
theorem cmpZ_zero (a b : Int) : cmpZ a b = 0 ↔ a = b := by
  unfold cmpZ
  split
  · omega
  split <;> omega
def befK (a b : Kp) : Int := if cmpZ b.m.pri a.m.pri ≠ 0 then cmpZ b.m.pri a.m.pri else cmpZ a.num b.num
def lessK (a b : Kp) : Bool := decide (b.m.pri < a.m.pri ∨ (a.m.pri = b.m.pri ∧ a.num < b.num))
theorem befK_lt (a b : Kp) : decide (befK a b < 0) = lessK a b := by
  unfold befK lessK
  apply decide_eq_decide.2
  split
  · rename_i h
    rw [cmpZ_lt]
    have : ¬ b.m.pri = a.m.pri := fun h' => h ((cmpZ_zero _ _).2 h')
    constructor
    · exact .inl
    · rintro (h | ⟨h, _⟩)
      · exact h
      · exact absurd h.symm this
  · rename_i h
    have h' := (cmpZ_zero _ _).1 (Decidable.not_not.1 h)
    rw [cmpZ_lt]
    constructor
    · intro h2; exact .inr ⟨h'.symm, h2⟩
    · rintro (h2 | h2)
      · omega
      · exact h2.2
theorem elKp : ElT 53 97 cKp.sz 40 [I 0, .slice none 0 0, I 0] := ⟨by kernel_rfl, by kernel_rfl, rfl⟩
theorem elSw : ElT 57 113 cSw.sz 48 [I 0, I 0, I 0, .slice none 0 0] := ⟨by kernel_rfl, by kernel_rfl, rfl⟩
theorem elRw : ElT 54 115 cRw.sz 24 [I 0, I 0] := ⟨by kernel_rfl, by kernel_rfl, rfl⟩
theorem elB : ElT 32 5 cB.sz 1 [U8 0] := ⟨by kernel_rfl, by kernel_rfl, rfl⟩
theorem elIntC : ElT 40 3 cI.sz 8 [I 0] := ⟨by kernel_rfl, by kernel_rfl, rfl⟩
theorem elMsL : ElT 38 43 cMs.sz 32 [I 0, .slice none 0 0] := ⟨by kernel_rfl, by kernel_rfl, rfl⟩
/-- The heap's functions, as plain data. -/
def lessAt (l : List Kp) (i j : Nat) : Bool := match l[i]?, l[j]? with | some a, some b => lessK a b | _, _ => false
def swapK (l : List Kp) (i j : Nat) : List Kp := match l[i]?, l[j]? with | some a, some b => (l.set i b).set j a | _, _ => l
def upK : Nat → List Kp → Nat → List Kp
  | 0, l, _ => l
  | n + 1, l, j => if (j - 1) / 2 = j ∨ lessAt l j ((j - 1) / 2) = false then l else upK n (swapK l ((j - 1) / 2) j) ((j - 1) / 2)
/-- The smaller child. -/
def kid (n : Nat) (l : List Kp) (i : Nat) : Nat := if 2 * i + 2 < n && lessAt l (2 * i + 2) (2 * i + 1) then 2 * i + 2 else 2 * i + 1
def dnK (n : Nat) : Nat → List Kp → Nat → List Kp
  | 0, l, _ => l
  | f + 1, l, i => if n ≤ 2 * i + 1 then l else if lessAt l (kid n l i) i = false then l else dnK n f (swapK l i (kid n l i)) (kid n l i)
def pushK (l : List Kp) (x : Kp) : List Kp := upK (l.length + 1) (l ++ [x]) l.length
def popK (l : List Kp) : List Kp := dnK (l.length - 1) l.length (swapK l 0 (l.length - 1)) 0
theorem swapK_len (l : List Kp) (i j : Nat) : (swapK l i j).length = l.length := by unfold swapK; split <;> simp
theorem upK_len : ∀ n l j, (upK n l j).length = l.length := by
  intro n
  induction n with
  | zero => intro l j; rfl
  | succ n ih =>
    intro l j
    unfold upK
    split
    · rfl
    · rw [ih, swapK_len]
theorem dnK_len (m : Nat) : ∀ n l j, (dnK m n l j).length = l.length := by
  intro n
  induction n with
  | zero => intro l j; rfl
  | succ n ih =>
    intro l j
    unfold dnK
    split
    · rfl
    split
    · rfl
    · rw [ih, swapK_len]
section
variable {w w' w0 : World} {L L' F cs cs2 A X Y cm : List Chunk} {s s2 sm : Value} {K : VK} {R : ER} {b i j qb : Nat} {l : List Kp} {qr : List Value}
theorem nanI_spec {a : Int} (H : Hp w0 w L) : Calls Pg 99 ⟨[I a]⟩ w fun e w' => e = .returned (.bool false) ∧ Hp w0 w' L := by
  apply F99_calls
  unfold F99
  refine neq_n (by simp) ?_
  exact ⟨(by first | rfl | trivial), H⟩
theorem cmpI_spec {a b : Int} (H : Hp w0 w L) : Calls Pg 75 ⟨[I a, I b]⟩ w fun e w' => e = .returned (I (cmpZ a b)) ∧ Hp w0 w' L := by
  apply F75_calls
  unfold F75
  refine cal_h (nanI_spec H) ?_
  rintro _ w ⟨rfl, H⟩
  (try simp only [W0])
  refine cal_h (nanI_spec H) ?_
  rintro _ w ⟨rfl, H⟩
  (try simp only [W0])
  unfold F75_j1
  (try simp only [W0])
  refine lss_k (fun h => ?_) (fun h => ?_)
  · (try simp only [W0])
    exact ⟨by rw [cmpZ, if_pos h], H⟩
  · (try simp only [W0])
    refine gtr_k (fun h2 => ?_) (fun h2 => ?_)
    · (try simp only [W0])
      exact ⟨by rw [cmpZ, if_neg h, if_pos h2], H⟩
    · (try simp only [W0])
      exact ⟨by rw [cmpZ, if_neg h, if_neg h2], H⟩
theorem nan6_spec {a : Int} (H : Hp w0 w L) : Calls Pg 88 ⟨[I a]⟩ w fun e w' => e = .returned (.bool false) ∧ Hp w0 w' L := by
  apply F88_calls
  unfold F88
  refine neq_n (by simp) ?_
  exact ⟨(by first | rfl | trivial), H⟩
theorem cmp6_spec {a b : Int} (H : Hp w0 w L) : Calls Pg 70 ⟨[I a, I b]⟩ w fun e w' => e = .returned (I (cmpZ a b)) ∧ Hp w0 w' L := by
  apply F70_calls
  unfold F70
  refine cal_h (nan6_spec H) ?_
  rintro _ w ⟨rfl, H⟩
  (try simp only [W0])
  refine cal_h (nan6_spec H) ?_
  rintro _ w ⟨rfl, H⟩
  (try simp only [W0])
  unfold F70_j1
  (try simp only [W0])
  refine lss_k (fun h => ?_) (fun h => ?_)
  · (try simp only [W0])
    exact ⟨by rw [cmpZ, if_pos h], H⟩
  · (try simp only [W0])
    refine gtr_k (fun h2 => ?_) (fun h2 => ?_)
    · (try simp only [W0])
      exact ⟨by rw [cmpZ, if_neg h, if_pos h2], H⟩
    · (try simp only [W0])
      exact ⟨by rw [cmpZ, if_neg h, if_neg h2], H⟩
theorem or_spec {a b : Int} (h : TR cI w0 cs s [a, b]) (H : Hp w0 w L) (m1 : ∀ c ∈ cs, c ∈ L) : Calls Pg 74 ⟨[s]⟩ w fun e w' => e = .returned (I (if a ≠ 0 then a else b)) ∧ Hp w0 w' L := by
  apply F74_calls
  unfold F74 F74_j2
  refine pv_of (lenS_tr h) ?_
  unfold F74_j3
  refine ⟨3, ?_⟩
  show F74_l1 _ 3 (I 0) s (I 2) (I 0) w
  rw [F74_l1_succ]
  unfold F74_b1
  refine lss_y (by decide) ?_
  (try simp only [W0])
  refine ix1_t (C := cI) (i := 0) h H m1 rfl rfl rfl ?_
  refine neq_k (fun h1 => ?_) (fun h1 => ?_)
  · (try simp only [W0])
    exact ⟨by rw [if_pos h1], H⟩
  (try simp only [W0])
  refine add_k (z := 1) (by decide) (by decide) (by decide) ?_
  rw [F74_l1_succ]
  unfold F74_b1
  refine lss_y (by decide) ?_
  (try simp only [W0])
  refine ix1_t (C := cI) (i := 1) h H m1 rfl rfl rfl ?_
  refine neq_k (fun h2 => ?_) (fun h2 => ?_)
  · (try simp only [W0])
    exact ⟨by rw [if_neg (by simpa using h1)], H⟩
  (try simp only [W0])
  refine add_k (z := 2) (by decide) (by decide) (by decide) ?_
  rw [F74_l1_succ]
  unfold F74_b1
  refine lss_n (by decide) ?_
  (try simp only [W0])
  unfold F74_j1
  exact ⟨by rw [if_neg (by simpa using h1), h2], H⟩
theorem before_spec {x y : Kp} (H : Hp w0 w L) : Calls Pg 40 ⟨[.agg ⟨x.enc⟩, .agg ⟨y.enc⟩]⟩ w fun e w' => e = .returned (I (befK x y)) ∧ Hp w0 w' L := by
  apply F40_calls
  unfold F40
  refine bx_m (vs := x.enc) H fun w b1 H => ?_
  refine bx_m (vs := y.enc) H fun w b2 H => ?_
  refine drew_k H fun w H => ?_
  (try simp only [W0])
  refine ld_m H Has.here (o := 0) (v := I y.m.pri) rfl ?_
  (try simp only [W0])
  refine ld_m H (Has.cons Has.here) (o := 0) (v := I x.m.pri) rfl ?_
  have c1 : w.cell? ⟨b1, 2, none⟩ = some (I x.num) := H.cellM (Has.cons Has.here) rfl
  have c2 : w.cell? ⟨b2, 2, none⟩ = some (I y.num) := H.cellM Has.here rfl
  (try simp only [W0])
  refine cal_h (cmpI_spec H) ?_
  rintro _ w ⟨rfl, H⟩
  (try simp only [W0])
  refine ldS_m H (Has.cons Has.here) (o := 2) (v := I x.num) rfl (by intro z hz; rw [List.mem_singleton.1 hz]; exact c1) ?_
  (try simp only [W0])
  refine ldS_m H Has.here (o := 2) (v := I y.num) rfl (by intro z hz; rw [List.mem_singleton.1 hz]; exact c2) ?_
  refine cal_h (cmpI_spec H) ?_
  rintro _ w ⟨rfl, H⟩
  (try simp only [W0])
  refine lit_t (C := cI) [cmpZ y.m.pri x.m.pri, cmpZ x.num y.num] elIntC H rfl (by decide) (by decide) rfl fun w s7 c7 H h7 => ?_
  refine cal_h (or_spec h7.tr H (fun c hc => List.mem_append_left _ hc)) ?_
  rintro _ w ⟨rfl, H⟩
  exact ⟨rfl, H.right.tail.tail⟩
theorem mul_k {x y z : Int} (h1 : -9223372036854775808 ≤ x * y) (h2 : x * y ≤ 9223372036854775807) (hz : x * y = z) (g : K (I z) w) : pv (bin .mul (I x) (I y)) K w := by
  rw [bin_mul, pv_some, wrap64_id h1 h2, hz]; exact g
theorem ixNp_t {α : Type} {C : Cod α} {xs : List α} {x : α} {k : IntKind} {K : Value → VK} (h : TR C w0 cs s xs) (H : Hp w0 w L) (hs : ∀ c ∈ cs, c ∈ L) (hx : xs[i]? = some x) (hz : 0 < C.sz)
    (g : ∀ a, (∀ w' L', Hp w0 w' L' → (∀ c ∈ cs, c ∈ L') → cellsAt w' a 0 C.sz = some (C.enc x)) → K (.pointer (some a)) (.agg ⟨C.enc x⟩) w) : pv (ixS C.sz s (.int k (i : Int))) (fun p => ldN C.sz p (K p)) w := by
  obtain ⟨a, e, h2⟩ := h.ix H hs hx (k := k) hz
  have key : ∀ w' L', Hp w0 w' L' → (∀ c ∈ cs, c ∈ L') → cellsAt w' a 0 C.sz = some (C.enc x) := by
    intro w' L' H' hs'
    obtain ⟨a', e', h2'⟩ := h.ix H' hs' hx (k := k) hz
    rw [e] at e'
    injection e' with e'; injection e' with e'; injection e' with e'; subst e'
    exact (cellsAt_spec _ _ _).2 ⟨C.len x, fun j hj => by rw [Nat.zero_add]; exact h2' j hj⟩
  rw [e, pv_some]
  have h3 := key w L H hs
  have := g a key
  simp only [ldN, h3]; exact this
theorem ivk_push {q : Nat} {x : Value} (g : cal Pg R 133 ⟨[ptr q 0, x]⟩ K w) : ivk Pg R (.iface 23 (ptr q 0)) "Push" ⟨[x]⟩ K w := by
  have e : (invoke (.fn (.method "Push") #[]) (#[.iface 23 (ptr q 0)] ++ ⟨[x]⟩)).run Pg w = .ok (.enter 133 ⟨[ptr q 0, x]⟩) w := by kernel_rfl
  unfold ivk semV; rw [e]; exact g
theorem ivk_pop {q : Nat} (g : cal Pg R 132 ⟨[ptr q 0]⟩ K w) : ivk Pg R (.iface 23 (ptr q 0)) "Pop" ⟨[]⟩ K w := by
  have e : (invoke (.fn (.method "Pop") #[]) (#[.iface 23 (ptr q 0)] ++ ⟨[]⟩)).run Pg w = .ok (.enter 132 ⟨[ptr q 0]⟩) w := by kernel_rfl
  unfold ivk semV; rw [e]; exact g
theorem ivk_len {q : Nat} {v : Value} (h : w.cell? ⟨q, 0, none⟩ = some v) (g : cal Pg R 50 ⟨[v]⟩ K w) : ivk Pg R (.iface 23 (ptr q 0)) "Len" ⟨[]⟩ K w := by
  have e : (invoke (.fn (.method "Len") #[]) (#[.iface 23 (ptr q 0)] ++ ⟨[]⟩)).run Pg w = ((do let s ← load ⟨q, 0, none⟩; callFunc 50 #[s]) : Sem Next).run Pg w := by kernel_rfl
  have e2 : (callFunc 50 #[v]).run Pg w = .ok (.enter 50 ⟨[v]⟩) w := by kernel_rfl
  unfold ivk semV; rw [e]; simp only [Sem.run_bind, run_load1 h, Result.andThen_ok, e2]; exact g
theorem ivk_less {q : Nat} {v x y : Value} (h : w.cell? ⟨q, 0, none⟩ = some v) (g : cal Pg R 131 ⟨[v, x, y]⟩ K w) : ivk Pg R (.iface 23 (ptr q 0)) "Less" ⟨[x, y]⟩ K w := by
  have e : (invoke (.fn (.method "Less") #[]) (#[.iface 23 (ptr q 0)] ++ ⟨[x, y]⟩)).run Pg w = ((do let s ← load ⟨q, 0, none⟩; callFunc 131 #[s, x, y]) : Sem Next).run Pg w := by kernel_rfl
  have e2 : (callFunc 131 #[v, x, y]).run Pg w = .ok (.enter 131 ⟨[v, x, y]⟩) w := by kernel_rfl
  unfold ivk semV; rw [e]; simp only [Sem.run_bind, run_load1 h, Result.andThen_ok, e2]; exact g
theorem ivk_swap {q : Nat} {v x y : Value} (h : w.cell? ⟨q, 0, none⟩ = some v) (g : cal Pg R 134 ⟨[v, x, y]⟩ K w) : ivk Pg R (.iface 23 (ptr q 0)) "Swap" ⟨[x, y]⟩ K w := by
  have e : (invoke (.fn (.method "Swap") #[]) (#[.iface 23 (ptr q 0)] ++ ⟨[x, y]⟩)).run Pg w = ((do let s ← load ⟨q, 0, none⟩; callFunc 134 #[s, x, y]) : Sem Next).run Pg w := by kernel_rfl
  have e2 : (callFunc 134 #[v, x, y]).run Pg w = .ok (.enter 134 ⟨[v, x, y]⟩) w := by kernel_rfl
  unfold ivk semV; rw [e]; simp only [Sem.run_bind, run_load1 h, Result.andThen_ok, e2]; exact g
theorem len_spec (h : TR cKp w0 cs s l) (H : Hp w0 w L) : Calls Pg 50 ⟨[s]⟩ w fun e w' => e = .returned (I (l.length : Int)) ∧ Hp w0 w' L := by
  apply F50_calls
  unfold F50
  refine pv_of (lenS_tr h) ?_
  exact ⟨(by first | rfl | trivial), H⟩
theorem less_spec (h : TR cKp w0 cs s l) (H : Hp w0 w L) (m1 : ∀ c ∈ cs, c ∈ L) (hi : i < l.length) (hj : j < l.length) : Calls Pg 131 ⟨[s, I (i : Int), I (j : Int)]⟩ w fun e w' => e = .returned (.bool (lessAt l i j)) ∧ Hp w0 w' L := by
  have hx : l[i]? = some l[i] := List.getElem?_eq_getElem hi
  have hy : l[j]? = some l[j] := List.getElem?_eq_getElem hj
  have e : lessAt l i j = lessK l[i] l[j] := by unfold lessAt; rw [hx, hy]
  rw [e]
  generalize l[i] = x at *
  generalize l[j] = y at *
  apply F131_calls
  unfold F131
  refine drew_k H fun w H => ?_
  refine ixN_t (C := cKp) h H m1 hx (by decide) ?_
  refine ixN_t (C := cKp) h H m1 hy (by decide) ?_
  (try simp only [W0])
  refine cal_h (before_spec (x := x) (y := y) H) ?_
  rintro _ w ⟨rfl, H⟩
  (try simp only [W0])
  rw [bin_lss, pv_some, befK_lt]
  exact ⟨(by first | rfl | trivial), H⟩
theorem swap_spec (h : TS cKp 97 s l cs) (H : Hp w0 w (cs ++ F)) (hi : i < l.length) (hj : j < l.length) : Calls Pg 134 ⟨[s, I (i : Int), I (j : Int)]⟩ w fun e w' => ∃ cs', e = .returned (.tuple ⟨[]⟩) ∧ TS cKp 97 s (swapK l i j) cs' ∧ Hp w0 w' (cs' ++ F) := by
  have hx : l[i]? = some l[i] := List.getElem?_eq_getElem hi
  have hy : l[j]? = some l[j] := List.getElem?_eq_getElem hj
  have e : swapK l i j = (l.set i l[j]).set j l[i] := by unfold swapK; rw [hx, hy]
  rw [e]
  generalize l[i] = x at *
  generalize l[j] = y at *
  apply F134_calls
  unfold F134
  refine drew_k H fun w H => ?_
  refine ixN_t (C := cKp) h.tr H (fun c hc => List.mem_append_left _ hc) hy (by decide) ?_
  refine ixN_t (C := cKp) h.tr H (fun c hc => List.mem_append_left _ hc) hx (by decide) ?_
  (try simp only [W0])
  refine istN_t (C := cKp) (x := y) h H Split.here hi fun w c1 H h1 => ?_
  (try simp only [W0])
  refine istN_t (C := cKp) (x := x) h1 H Split.here (by simpa using hj) fun w c2 H h2 => ?_
  exact ⟨c2, (by first | rfl | trivial), h2, H⟩
end
end Go.Proofs.YthcekppbbanfeaaGreat.Den
