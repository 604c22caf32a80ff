/- The walks, part 4: the evaluator, the functions, the laws. Conditions: none. -/
import Derived.Test.YtnloolhaojoimaaZ3
namespace Go.Proofs.Ytnloolhaojoimaa.Ev
set_option linter.unusedVariables false
set_option linter.unusedSimpArgs false
variable {σ : Sig}
def q1 (rs : RS) (w : Nat) : R6 := { rs.op w with st := (rs.op w).st + 1 }
def r1 (rs : RS) (w : Nat) : RS := ro rs w (q1 rs w)
@[simp] theorem r1_op (rs : RS) (w : Nat) : (r1 rs w).op w = q1 rs w := by simp [r1, ro]
def rn (rs : RS) (w : Nat) : (Bool × Int × Bool) × RS :=
  let s := r1 rs w
  if (rs.op w).kd = 1 then
    if (rs.op w).st = 1 then ((false, 0, false), racc (ro s w { s.op w with b := s.bot }) w (-1001) false)
    else if (rs.op w).st = 2 then ((decide ((s.pl.length : Int) ≤ (s.op w).b - s.top), 0, false), racc (ro s w (if (s.pl.length : Int) ≤ (s.op w).b - s.top then z6 else { s.op w with t := s.top })) w (-1000) false)
    else if (rs.op w).st = 3 then ((false, 0, false), racc { s with pl := s.pl.set ((s.op w).b.tmod s.pl.length).toNat (s.op w).x } w (-1002 - (s.op w).b.tmod s.pl.length) true)
    else ((true, (s.op w).x, true), ro (racc { s with bot := (s.op w).b + 1 } w (-1001) true) w z6)
  else if (rs.op w).kd = 2 then
    if (rs.op w).st = 1 then ((false, 0, false), racc (ro s w { s.op w with b := s.bot - 1 }) w (-1001) false)
    else if (rs.op w).st = 2 then ((false, 0, false), racc { s with bot := (s.op w).b } w (-1001) true)
    else if (rs.op w).st = 3 then ((false, 0, false), ro (racc (ro s w { s.op w with t := s.top }) w (-1000) false) w (if (s.op w).b < s.top then { s.op w with t := s.top, st := 6 } else { s.op w with t := s.top }))
    else if (rs.op w).st = 4 then ((decide ((s.op w).t < (s.op w).b), if (s.op w).t < (s.op w).b then s.pl.getD ((s.op w).b.tmod s.pl.length).toNat 0 else 0, decide ((s.op w).t < (s.op w).b)),
      ro (racc (ro s w { s.op w with x := s.pl.getD ((s.op w).b.tmod s.pl.length).toNat 0 }) w (-1002 - (s.op w).b.tmod s.pl.length) false) w (if (s.op w).t < (s.op w).b then z6 else { s.op w with x := s.pl.getD ((s.op w).b.tmod s.pl.length).toNat 0 }))
    else if (rs.op w).st = 5 then ((false, 0, false), racc (ro { s with top := if s.top = (s.op w).t then (s.op w).t + 1 else s.top } w { s.op w with ok := decide (s.top = (s.op w).t) }) w (-1000) true)
    else ((true, if (s.op w).ok = true then (s.op w).x else 0, (s.op w).ok), ro (racc { s with bot := (s.op w).b + 1 } w (-1001) true) w z6)
  else
    if (rs.op w).st = 1 then ((false, 0, false), racc (ro s w { s.op w with t := s.top }) w (-1000) false)
    else if (rs.op w).st = 2 then ((decide (s.bot ≤ (s.op w).t), 0, false), ro (racc (ro s w { s.op w with b := s.bot }) w (-1001) false) w (if s.bot ≤ (s.op w).t then z6 else { s.op w with b := s.bot }))
    else if (rs.op w).st = 3 then ((false, 0, false), racc (ro s w { s.op w with x := s.pl.getD ((s.op w).t.tmod s.pl.length).toNat 0 }) w (-1002 - (s.op w).t.tmod s.pl.length) false)
    else ((true, if s.top = (s.op w).t then (s.op w).x else 0, decide (s.top = (s.op w).t)), ro (racc { s with top := if s.top = (s.op w).t then (s.op w).t + 1 else s.top } w (-1000) true) w z6)
def sm (x : Int) : Prop := -1000000 ≤ x ∧ x ≤ 1000000
structure Rb (rs : RS) (w : Nat) : Prop where
  kd : (rs.op w).kd ≠ 0
  st : sm (rs.op w).st
  t : sm (rs.op w).t
  b : sm (rs.op w).b
  top : sm rs.top
  bot : sm rs.bot
  n : rs.pl.length ≠ 0
  m : rs.pl.length ≤ 1000000
  p3 : (rs.op w).kd = 1 → (rs.op w).st = 3 → 0 ≤ (rs.op w).b
  o4 : (rs.op w).kd = 2 → (rs.op w).st = 4 → 0 ≤ (rs.op w).b
  s3 : (rs.op w).kd ≠ 1 → (rs.op w).kd ≠ 2 → (rs.op w).st = 3 → 0 ≤ (rs.op w).t
def tp (p : Bool × Int × Bool) : AV := .tup [Bo p.1, I p.2.1, Bo p.2.2]
theorem RStep_rn {H : Hp} {r w : Nat} {rs : RS} {K : AV → Hp → Prop} (h : Rq H r rs) (hw : w < 65) (hb : Rb rs w) (hK : ∀ H', Rq H' r (rn rs w).2 → Fq r rs.ip H H' → K (tp (rn rs w).1) H') : callK Try.prog σ n_ref18_Deque_Step [.ptr r 0, I w] H K := by
  have hst := hb.st
  have ht := hb.t
  have hbb := hb.b
  have htop := hb.top
  have hbot := hb.bot
  unfold sm at hst ht hbb htop hbot
  refine RStep_go h hw hb.kd (wr64 (by omega) (by omega)) fun H1 h1 f1 => ?_
  have h1 : Rq H1 r (r1 rs w) := h1
  have e1 : (r1 rs w).op w = q1 rs w := r1_op rs w
  have eb : (q1 rs w).b = (rs.op w).b := rfl
  have et : (q1 rs w).t = (rs.op w).t := rfl
  have etop : (r1 rs w).top = rs.top := rfl
  have ebot : (r1 rs w).bot = rs.bot := rfl
  have epl : (r1 rs w).pl = rs.pl := rfl
  have fin : ∀ (p : Bool × Int × Bool) (s' : RS), rn rs w = (p, s') → ∀ H2, Rq H2 r s' → Fq r rs.ip H1 H2 → K (tp p) H2 := fun p s' e H2 h2 f2 => by
    rw [e] at hK
    exact hK H2 h2 (f1.trans f2)
  by_cases k1 : (rs.op w).kd = 1
  · rw [if_pos k1]
    by_cases s1 : (rs.op w).st = 1
    · rw [s1]
      refine Rpush1 h1 hw fun H2 h2 f2 => ?_
      exact fin (false, 0, false) _ (by unfold rn; dsimp only; rw [if_pos k1, if_pos s1]) H2 h2 f2
    by_cases s2 : (rs.op w).st = 2
    · rw [s2]
      refine Rpush2 h1 hw (by rw [e1, eb, etop]; exact wr64 (by omega) (by omega)) fun H2 h2 f2 => ?_
      exact fin _ _ (by unfold rn; dsimp only; rw [if_pos k1, if_neg s1, if_pos s2]) H2 h2 f2
    by_cases s3 : (rs.op w).st = 3
    · rw [s3]
      refine Rpush3 h1 hw (by rw [e1, eb]; exact hb.p3 k1 s3) (by rw [epl]; exact hb.n) (by rw [epl]; exact hb.m) fun H2 h2 f2 => ?_
      exact fin (false, 0, false) _ (by unfold rn; dsimp only; rw [if_pos k1, if_neg s1, if_neg s2, if_pos s3]) H2 h2 f2
    · refine Rpush4 h1 hw s1 s2 s3 (by rw [e1, eb]; exact wr64 (by omega) (by omega)) fun H2 h2 f2 => ?_
      exact fin (true, _, true) _ (by unfold rn; dsimp only; rw [if_pos k1, if_neg s1, if_neg s2, if_neg s3]) H2 h2 f2
  rw [if_neg k1]
  by_cases k2 : (rs.op w).kd = 2
  · rw [if_pos k2]
    by_cases s1 : (rs.op w).st = 1
    · rw [s1]
      refine Rpop1 h1 hw (by rw [ebot]; exact wr64 (by omega) (by omega)) fun H2 h2 f2 => ?_
      exact fin (false, 0, false) _ (by unfold rn; dsimp only; rw [if_neg k1, if_pos k2, if_pos s1]) H2 h2 f2
    by_cases s2 : (rs.op w).st = 2
    · rw [s2]
      refine Rpop2 h1 hw fun H2 h2 f2 => ?_
      exact fin (false, 0, false) _ (by unfold rn; dsimp only; rw [if_neg k1, if_pos k2, if_neg s1, if_pos s2]) H2 h2 f2
    by_cases s3 : (rs.op w).st = 3
    · rw [s3]
      refine Rpop3 h1 hw fun H2 h2 f2 => ?_
      exact fin (false, 0, false) _ (by unfold rn; dsimp only; rw [if_neg k1, if_pos k2, if_neg s1, if_neg s2, if_pos s3]) H2 h2 f2
    by_cases s4 : (rs.op w).st = 4
    · rw [s4]
      refine Rpop4 h1 hw (by rw [e1, eb]; exact hb.o4 k2 s4) (by rw [epl]; exact hb.n) (by rw [epl]; exact hb.m) fun H2 h2 f2 => ?_
      exact fin _ _ (by unfold rn; dsimp only; rw [if_neg k1, if_pos k2, if_neg s1, if_neg s2, if_neg s3, if_pos s4]) H2 h2 f2
    by_cases s5 : (rs.op w).st = 5
    · rw [s5]
      refine Rpop5 h1 hw (by rw [e1, et]; exact wr64 (by omega) (by omega)) fun H2 h2 f2 => ?_
      exact fin (false, 0, false) _ (by unfold rn; dsimp only; rw [if_neg k1, if_pos k2, if_neg s1, if_neg s2, if_neg s3, if_neg s4, if_pos s5]) H2 h2 f2
    · refine Rpop6 h1 hw s1 s2 s3 s4 s5 (by rw [e1, eb]; exact wr64 (by omega) (by omega)) fun H2 h2 f2 => ?_
      exact fin (true, (if ((r1 rs w).op w).ok = true then ((r1 rs w).op w).x else 0), ((r1 rs w).op w).ok) _ (by unfold rn; dsimp only; rw [if_neg k1, if_pos k2, if_neg s1, if_neg s2, if_neg s3, if_neg s4, if_neg s5]) H2 h2 f2
  rw [if_neg k2]
  by_cases s1 : (rs.op w).st = 1
  · rw [s1]
    refine Rsteal1 h1 hw fun H2 h2 f2 => ?_
    exact fin (false, 0, false) _ (by unfold rn; dsimp only; rw [if_neg k1, if_neg k2, if_pos s1]) H2 h2 f2
  by_cases s2 : (rs.op w).st = 2
  · rw [s2]
    refine Rsteal2 h1 hw fun H2 h2 f2 => ?_
    exact fin _ _ (by unfold rn; dsimp only; rw [if_neg k1, if_neg k2, if_neg s1, if_pos s2]) H2 h2 f2
  by_cases s3 : (rs.op w).st = 3
  · rw [s3]
    refine Rsteal3 h1 hw (by rw [e1, et]; exact hb.s3 k1 k2 s3) (by rw [epl]; exact hb.n) (by rw [epl]; exact hb.m) fun H2 h2 f2 => ?_
    exact fin (false, 0, false) _ (by unfold rn; dsimp only; rw [if_neg k1, if_neg k2, if_neg s1, if_neg s2, if_pos s3]) H2 h2 f2
  · refine Rsteal4 h1 hw s1 s2 s3 (by rw [e1, et]; exact wr64 (by omega) (by omega)) fun H2 h2 f2 => ?_
    exact fin (true, (if (r1 rs w).top = ((r1 rs w).op w).t then ((r1 rs w).op w).x else 0), decide ((r1 rs w).top = ((r1 rs w).op w).t)) _ (by unfold rn; dsimp only; rw [if_neg k1, if_neg k2, if_neg s1, if_neg s2, if_neg s3]) H2 h2 f2
def rk2 (rs : RS) (w : Nat) (pl : List Int) (top bot : Int) (q : R6) (c : Int) (b : Bool) : RS := ⟨rs.ip, pl, top, bot, up6 rs.op w q, w, c, b, true⟩
theorem rn_u1 {rs : RS} {w : Nat} (hk : (rs.op w).kd = 1) (hs : (rs.op w).st = 1) : rn rs w = ((false, 0, false), rk2 rs w rs.pl rs.top rs.bot { rs.op w with st := (rs.op w).st + 1, b := rs.bot } (-1001) false) := by
  unfold rn; dsimp only
  rw [if_pos hk, if_pos hs]
  simp [r1, ro, racc, q1, rk2]
theorem rn_u2f {rs : RS} {w : Nat} (hk : (rs.op w).kd = 1) (hs : (rs.op w).st = 2) (hc : (rs.pl.length : Int) ≤ (rs.op w).b - rs.top) : rn rs w = ((true, 0, false), rk2 rs w rs.pl rs.top rs.bot z6 (-1000) false) := by
  unfold rn; dsimp only
  rw [if_pos hk, if_neg (by rw [hs]; decide), if_pos hs]
  simp [r1, ro, racc, q1, rk2, hc]
theorem rn_u2 {rs : RS} {w : Nat} (hk : (rs.op w).kd = 1) (hs : (rs.op w).st = 2) (hc : ¬ (rs.pl.length : Int) ≤ (rs.op w).b - rs.top) : rn rs w = ((false, 0, false), rk2 rs w rs.pl rs.top rs.bot { rs.op w with st := (rs.op w).st + 1, t := rs.top } (-1000) false) := by
  unfold rn; dsimp only
  rw [if_pos hk, if_neg (by rw [hs]; decide), if_pos hs]
  simp [r1, ro, racc, q1, rk2, hc]
theorem rn_u3 {rs : RS} {w : Nat} (hk : (rs.op w).kd = 1) (hs : (rs.op w).st = 3) : rn rs w = ((false, 0, false), rk2 rs w (rs.pl.set ((rs.op w).b.tmod rs.pl.length).toNat (rs.op w).x) rs.top rs.bot { rs.op w with st := (rs.op w).st + 1 } (-1002 - (rs.op w).b.tmod rs.pl.length) true) := by
  unfold rn; dsimp only
  rw [if_pos hk, if_neg (by rw [hs]; decide), if_neg (by rw [hs]; decide), if_pos hs]
  simp [r1, ro, racc, q1, rk2]
theorem rn_u4 {rs : RS} {w : Nat} (hk : (rs.op w).kd = 1) (hs : (rs.op w).st = 4) : rn rs w = ((true, (rs.op w).x, true), rk2 rs w rs.pl rs.top ((rs.op w).b + 1) z6 (-1001) true) := by
  unfold rn; dsimp only
  rw [if_pos hk, if_neg (by rw [hs]; decide), if_neg (by rw [hs]; decide), if_neg (by rw [hs]; decide)]
  simp [r1, ro, racc, q1, rk2]
theorem rn_o1 {rs : RS} {w : Nat} (hk : (rs.op w).kd = 2) (hs : (rs.op w).st = 1) : rn rs w = ((false, 0, false), rk2 rs w rs.pl rs.top rs.bot { rs.op w with st := (rs.op w).st + 1, b := rs.bot - 1 } (-1001) false) := by
  unfold rn; dsimp only
  rw [if_neg (by rw [hk]; decide), if_pos hk, if_pos hs]
  simp [r1, ro, racc, q1, rk2]
theorem rn_o2 {rs : RS} {w : Nat} (hk : (rs.op w).kd = 2) (hs : (rs.op w).st = 2) : rn rs w = ((false, 0, false), rk2 rs w rs.pl rs.top (rs.op w).b { rs.op w with st := (rs.op w).st + 1 } (-1001) true) := by
  unfold rn; dsimp only
  rw [if_neg (by rw [hk]; decide), if_pos hk, if_neg (by rw [hs]; decide), if_pos hs]
  simp [r1, ro, racc, q1, rk2]
theorem rn_o3n {rs : RS} {w : Nat} (hk : (rs.op w).kd = 2) (hs : (rs.op w).st = 3) (hc : (rs.op w).b < rs.top) : rn rs w = ((false, 0, false), rk2 rs w rs.pl rs.top rs.bot { rs.op w with t := rs.top, st := 6 } (-1000) false) := by
  unfold rn; dsimp only
  rw [if_neg (by rw [hk]; decide), if_pos hk, if_neg (by rw [hs]; decide), if_neg (by rw [hs]; decide), if_pos hs]
  simp [r1, ro, racc, q1, rk2, hc]
theorem rn_o3 {rs : RS} {w : Nat} (hk : (rs.op w).kd = 2) (hs : (rs.op w).st = 3) (hc : ¬ (rs.op w).b < rs.top) : rn rs w = ((false, 0, false), rk2 rs w rs.pl rs.top rs.bot { rs.op w with st := (rs.op w).st + 1, t := rs.top } (-1000) false) := by
  unfold rn; dsimp only
  rw [if_neg (by rw [hk]; decide), if_pos hk, if_neg (by rw [hs]; decide), if_neg (by rw [hs]; decide), if_pos hs]
  simp [r1, ro, racc, q1, rk2, hc]
theorem rn_o4y {rs : RS} {w : Nat} (hk : (rs.op w).kd = 2) (hs : (rs.op w).st = 4) (hc : (rs.op w).t < (rs.op w).b) : rn rs w = ((true, (rs.pl.getD ((rs.op w).b.tmod rs.pl.length).toNat 0), true), rk2 rs w rs.pl rs.top rs.bot z6 (-1002 - (rs.op w).b.tmod rs.pl.length) false) := by
  unfold rn; dsimp only
  rw [if_neg (by rw [hk]; decide), if_pos hk, if_neg (by rw [hs]; decide), if_neg (by rw [hs]; decide), if_neg (by rw [hs]; decide), if_pos hs]
  simp [r1, ro, racc, q1, rk2, hc]
theorem rn_o4 {rs : RS} {w : Nat} (hk : (rs.op w).kd = 2) (hs : (rs.op w).st = 4) (hc : ¬ (rs.op w).t < (rs.op w).b) : rn rs w = ((false, 0, false), rk2 rs w rs.pl rs.top rs.bot { rs.op w with st := (rs.op w).st + 1, x := (rs.pl.getD ((rs.op w).b.tmod rs.pl.length).toNat 0) } (-1002 - (rs.op w).b.tmod rs.pl.length) false) := by
  unfold rn; dsimp only
  rw [if_neg (by rw [hk]; decide), if_pos hk, if_neg (by rw [hs]; decide), if_neg (by rw [hs]; decide), if_neg (by rw [hs]; decide), if_pos hs]
  simp [r1, ro, racc, q1, rk2, hc]
theorem rn_o5y {rs : RS} {w : Nat} (hk : (rs.op w).kd = 2) (hs : (rs.op w).st = 5) (hc : rs.top = (rs.op w).t) : rn rs w = ((false, 0, false), rk2 rs w rs.pl ((rs.op w).t + 1) rs.bot { rs.op w with st := (rs.op w).st + 1, ok := true } (-1000) true) := by
  unfold rn; dsimp only
  rw [if_neg (by rw [hk]; decide), if_pos hk, if_neg (by rw [hs]; decide), if_neg (by rw [hs]; decide), if_neg (by rw [hs]; decide), if_neg (by rw [hs]; decide), if_pos hs]
  simp [r1, ro, racc, q1, rk2, hc]
theorem rn_o5n {rs : RS} {w : Nat} (hk : (rs.op w).kd = 2) (hs : (rs.op w).st = 5) (hc : ¬ rs.top = (rs.op w).t) : rn rs w = ((false, 0, false), rk2 rs w rs.pl rs.top rs.bot { rs.op w with st := (rs.op w).st + 1, ok := false } (-1000) true) := by
  unfold rn; dsimp only
  rw [if_neg (by rw [hk]; decide), if_pos hk, if_neg (by rw [hs]; decide), if_neg (by rw [hs]; decide), if_neg (by rw [hs]; decide), if_neg (by rw [hs]; decide), if_pos hs]
  simp [r1, ro, racc, q1, rk2, hc]
theorem rn_o6 {rs : RS} {w : Nat} (hk : (rs.op w).kd = 2) (hs : (rs.op w).st = 6) : rn rs w = ((true, (if (rs.op w).ok = true then (rs.op w).x else 0), (rs.op w).ok), rk2 rs w rs.pl rs.top ((rs.op w).b + 1) z6 (-1001) true) := by
  unfold rn; dsimp only
  rw [if_neg (by rw [hk]; decide), if_pos hk, if_neg (by rw [hs]; decide), if_neg (by rw [hs]; decide), if_neg (by rw [hs]; decide), if_neg (by rw [hs]; decide), if_neg (by rw [hs]; decide)]
  simp [r1, ro, racc, q1, rk2]
theorem rn_s1 {rs : RS} {w : Nat} (hk : (rs.op w).kd = 3) (hs : (rs.op w).st = 1) : rn rs w = ((false, 0, false), rk2 rs w rs.pl rs.top rs.bot { rs.op w with st := (rs.op w).st + 1, t := rs.top } (-1000) false) := by
  unfold rn; dsimp only
  rw [if_neg (by rw [hk]; decide), if_neg (by rw [hk]; decide), if_pos hs]
  simp [r1, ro, racc, q1, rk2]
theorem rn_s2n {rs : RS} {w : Nat} (hk : (rs.op w).kd = 3) (hs : (rs.op w).st = 2) (hc : rs.bot ≤ (rs.op w).t) : rn rs w = ((true, 0, false), rk2 rs w rs.pl rs.top rs.bot z6 (-1001) false) := by
  unfold rn; dsimp only
  rw [if_neg (by rw [hk]; decide), if_neg (by rw [hk]; decide), if_neg (by rw [hs]; decide), if_pos hs]
  simp [r1, ro, racc, q1, rk2, hc]
theorem rn_s2 {rs : RS} {w : Nat} (hk : (rs.op w).kd = 3) (hs : (rs.op w).st = 2) (hc : ¬ rs.bot ≤ (rs.op w).t) : rn rs w = ((false, 0, false), rk2 rs w rs.pl rs.top rs.bot { rs.op w with st := (rs.op w).st + 1, b := rs.bot } (-1001) false) := by
  unfold rn; dsimp only
  rw [if_neg (by rw [hk]; decide), if_neg (by rw [hk]; decide), if_neg (by rw [hs]; decide), if_pos hs]
  simp [r1, ro, racc, q1, rk2, hc]
theorem rn_s3 {rs : RS} {w : Nat} (hk : (rs.op w).kd = 3) (hs : (rs.op w).st = 3) : rn rs w = ((false, 0, false), rk2 rs w rs.pl rs.top rs.bot { rs.op w with st := (rs.op w).st + 1, x := (rs.pl.getD ((rs.op w).t.tmod rs.pl.length).toNat 0) } (-1002 - (rs.op w).t.tmod rs.pl.length) false) := by
  unfold rn; dsimp only
  rw [if_neg (by rw [hk]; decide), if_neg (by rw [hk]; decide), if_neg (by rw [hs]; decide), if_neg (by rw [hs]; decide), if_pos hs]
  simp [r1, ro, racc, q1, rk2]
theorem rn_s4y {rs : RS} {w : Nat} (hk : (rs.op w).kd = 3) (hs : (rs.op w).st = 4) (hc : rs.top = (rs.op w).t) : rn rs w = ((true, (rs.op w).x, true), rk2 rs w rs.pl ((rs.op w).t + 1) rs.bot z6 (-1000) true) := by
  unfold rn; dsimp only
  rw [if_neg (by rw [hk]; decide), if_neg (by rw [hk]; decide), if_neg (by rw [hs]; decide), if_neg (by rw [hs]; decide), if_neg (by rw [hs]; decide)]
  simp [r1, ro, racc, q1, rk2, hc]
theorem rn_s4n {rs : RS} {w : Nat} (hk : (rs.op w).kd = 3) (hs : (rs.op w).st = 4) (hc : ¬ rs.top = (rs.op w).t) : rn rs w = ((true, 0, false), rk2 rs w rs.pl rs.top rs.bot z6 (-1000) true) := by
  unfold rn; dsimp only
  rw [if_neg (by rw [hk]; decide), if_neg (by rw [hk]; decide), if_neg (by rw [hs]; decide), if_neg (by rw [hs]; decide), if_neg (by rw [hs]; decide)]
  simp [r1, ro, racc, q1, rk2, hc]
end Go.Proofs.Ytnloolhaojoimaa.Ev
namespace Go.Proofs.Ytnloolhaojoimaa.Ev
set_option linter.unusedVariables false
set_option linter.unusedSimpArgs false
variable {σ : Sig}
inductive Pp (n : Nat) (T B : Int) : Bool → Option O → R6 → Prop where
  | idleO {r : R6} (hk : r.kd = 0) (h0 : 0 ≤ B) (hr : B - T ≤ n) : Pp n T B true none r
  | idleT {r : R6} (hk : r.kd = 0) : Pp n T B false none r
  | u1 {o : O} {r : R6} (hn : o.nx = .fn n_deque_push1 []) (hk : r.kd = 1) (hs : r.st = 1) (hx : o.x = r.x) (hok : o.ok = false) (h0 : 0 ≤ B) (hr : B - T ≤ n) (hrt : r.t = 0) (hrb : r.b = 0) : Pp n T B true (some o) r
  | u2 {o : O} {r : R6} (hn : o.nx = .fn n_deque_push2 []) (hk : r.kd = 1) (hs : r.st = 2) (hx : o.x = r.x) (hok : o.ok = false) (h0 : 0 ≤ B) (hr : B - T ≤ n) (hb : o.b = B) (hrb : r.b = B) (hrt : r.t = 0) : Pp n T B true (some o) r
  | u3 {o : O} {r : R6} (hn : o.nx = .fn n_deque_push3 []) (hk : r.kd = 1) (hs : r.st = 3) (hx : o.x = r.x) (h0 : 0 ≤ B) (hr : B - T < n) (hb : o.b = B) (hrb : r.b = B) (hrt : 0 ≤ r.t ∧ r.t ≤ T) : Pp n T B true (some o) r
  | u4 {o : O} {r : R6} (hn : o.nx = .fn n_deque_push4 []) (hk : r.kd = 1) (hs : r.st = 4) (hx : o.x = r.x) (h0 : 0 ≤ B) (hr : B - T < n) (hb : o.b = B) (hrb : r.b = B) (hrt : 0 ≤ r.t ∧ r.t ≤ T) : Pp n T B true (some o) r
  | o1 {o : O} {r : R6} (hn : o.nx = .fn n_deque_pop1 []) (hk : r.kd = 2) (hs : r.st = 1) (hok : o.ok = false) (hrok : r.ok = false) (h0 : 0 ≤ B) (hr : B - T ≤ n) (hrt : r.t = 0) (hrb : r.b = 0) : Pp n T B true (some o) r
  | o2 {o : O} {r : R6} (hn : o.nx = .fn n_deque_pop2 []) (hk : r.kd = 2) (hs : r.st = 2) (hok : o.ok = false) (hrok : r.ok = false) (h0 : 0 ≤ B) (hr : B - T ≤ n) (hb : o.b = B - 1) (hrb : r.b = B - 1) (hrt : r.t = 0) : Pp n T B true (some o) r
  | o3 {o : O} {r : R6} (hn : o.nx = .fn n_deque_pop3 []) (hk : r.kd = 2) (hs : r.st = 3) (hok : o.ok = false) (hrok : r.ok = false) (h0 : -1 ≤ B) (hr : B + 1 - T ≤ n) (hb : o.b = B) (hrb : r.b = B) (hrt : r.t = 0) : Pp n T B true (some o) r
  | o4 {o : O} {r : R6} (hn : o.nx = .fn n_deque_pop4 []) (hk : r.kd = 2) (hs : r.st = 4) (hok : o.ok = false) (h0 : 0 ≤ o.t) (htb : o.t ≤ B) (hr : B + 1 - T ≤ n) (hb : o.b = B) (hrb : r.b = B) (ht : r.t = o.t) (htT : o.t ≤ T) : Pp n T B true (some o) r
  | o5 {o : O} {r : R6} (hn : o.nx = .fn n_deque_pop5 []) (hk : r.kd = 2) (hs : r.st = 5) (hx : o.x = r.x) (h0 : 0 ≤ o.t) (hB : 0 ≤ B) (hr : B + 1 - T ≤ n) (hb : o.b = B) (hrb : r.b = B) (ht : r.t = o.t) (htT : o.t ≤ T) : Pp n T B true (some o) r
  | o6 {o : O} {r : R6} (hn : o.nx = .fn n_deque_pop6 []) (hk : r.kd = 2) (hs : r.st = 6) (hx : o.ok = true → o.x = r.x) (hok : o.ok = r.ok) (h0 : -1 ≤ B) (hr : B + 1 - T ≤ n) (hb : o.b = B) (hrb : r.b = B) (hrt : 0 ≤ r.t ∧ r.t ≤ T) : Pp n T B true (some o) r
  | s1 {o : O} {r : R6} (hn : o.nx = .fn n_deque_steal1 []) (hk : r.kd = 3) (hs : r.st = 1) (hok : o.ok = false) (hrt : r.t = 0) (hrb : sm r.b) : Pp n T B false (some o) r
  | s2 {o : O} {r : R6} (hn : o.nx = .fn n_deque_steal2 []) (hk : r.kd = 3) (hs : r.st = 2) (hok : o.ok = false) (ht : r.t = o.t) (h0 : 0 ≤ o.t ∧ o.t ≤ T) (hrb : sm r.b) : Pp n T B false (some o) r
  | s3 {o : O} {r : R6} (hn : o.nx = .fn n_deque_steal3 []) (hk : r.kd = 3) (hs : r.st = 3) (hok : o.ok = false) (ht : r.t = o.t) (h0 : 0 ≤ o.t ∧ o.t ≤ T) (hrb : sm r.b) : Pp n T B false (some o) r
  | s4 {o : O} {r : R6} (hn : o.nx = .fn n_deque_steal4 []) (hk : r.kd = 3) (hs : r.st = 4) (hx : o.x = r.x) (ht : r.t = o.t) (h0 : 0 ≤ o.t ∧ o.t ≤ T) (hrb : sm r.b) : Pp n T B false (some o) r
theorem Pp.mvT {n : Nat} {T T' B : Int} {w : Bool} {o : Option O} {r : R6} (h : Pp n T B w o r) (hT : T ≤ T') : Pp n T' B w o r := by
  cases h with
  | idleO hk h0 hr => exact .idleO hk h0 (by omega)
  | idleT hk => exact .idleT hk
  | u1 hn hk hs hx hok h0 hr hrt hrb => exact .u1 hn hk hs hx hok h0 (by omega) hrt hrb
  | u2 hn hk hs hx hok h0 hr hb hrb hrt => exact .u2 hn hk hs hx hok h0 (by omega) hb hrb hrt
  | u3 hn hk hs hx h0 hr hb hrb hrt => exact .u3 hn hk hs hx h0 (by omega) hb hrb (by omega)
  | u4 hn hk hs hx h0 hr hb hrb hrt => exact .u4 hn hk hs hx h0 (by omega) hb hrb (by omega)
  | o1 hn hk hs hok hrok h0 hr hrt hrb => exact .o1 hn hk hs hok hrok h0 (by omega) hrt hrb
  | o2 hn hk hs hok hrok h0 hr hb hrb hrt => exact .o2 hn hk hs hok hrok h0 (by omega) hb hrb hrt
  | o3 hn hk hs hok hrok h0 hr hb hrb hrt => exact .o3 hn hk hs hok hrok h0 (by omega) hb hrb hrt
  | o4 hn hk hs hok h0 htb hr hb hrb ht htT => exact .o4 hn hk hs hok h0 htb (by omega) hb hrb ht (by omega)
  | o5 hn hk hs hx h0 hB hr hb hrb ht htT => exact .o5 hn hk hs hx h0 hB (by omega) hb hrb ht (by omega)
  | o6 hn hk hs hx hok h0 hr hb hrb hrt => exact .o6 hn hk hs hx hok h0 (by omega) hb hrb (by omega)
  | s1 hn hk hs hok hrt hrb => exact .s1 hn hk hs hok hrt hrb
  | s2 hn hk hs hok ht h0 hrb => exact .s2 hn hk hs hok ht (by omega) hrb
  | s3 hn hk hs hok ht h0 hrb => exact .s3 hn hk hs hok ht (by omega) hrb
  | s4 hn hk hs hx ht h0 hrb => exact .s4 hn hk hs hx ht (by omega) hrb
theorem Pp.mvB {n : Nat} {T B B' : Int} {o : Option O} {r : R6} (h : Pp n T B false o r) : Pp n T B' false o r := by
  cases h with
  | idleT hk => exact .idleT hk
  | s1 hn hk hs hok hrt hrb => exact .s1 hn hk hs hok hrt hrb
  | s2 hn hk hs hok ht h0 hrb => exact .s2 hn hk hs hok ht h0 hrb
  | s3 hn hk hs hok ht h0 hrb => exact .s3 hn hk hs hok ht h0 hrb
  | s4 hn hk hs hx ht h0 hrb => exact .s4 hn hk hs hx ht h0 hrb
structure Lk (N : Int) (s : S) (rs : RS) : Prop where
  pl : rs.pl = s.pl
  top : rs.top = s.top
  bot : rs.bot = s.bot
  lw : rs.lw = s.lw
  lc : rs.lc = s.lc
  lr : rs.lr = s.lr
  la : rs.la = s.la
  n : 1 ≤ s.pl.length ∧ s.pl.length ≤ 1024
  t : 0 ≤ s.top ∧ s.top ≤ N
  b : -1 ≤ s.bot ∧ s.bot ≤ N
  ow : Pp s.pl.length s.top s.bot true (s.op 0) (rs.op 0)
  th : ∀ w, 1 ≤ w → Pp s.pl.length s.top s.bot false (s.op w) (rs.op w)
theorem Lk.pp {N : Int} {s : S} {rs : RS} (h : Lk N s rs) (w : Nat) : Pp s.pl.length s.top s.bot (decide (w = 0)) (s.op w) (rs.op w) := by
  by_cases e : w = 0
  · subst e; exact h.ow
  · rw [decide_eq_false e]; exact h.th w (by omega)
theorem Lk.mk' {N : Int} {s s2 : S} {rs rs2 : RS} {w : Nat} {oo : Option O} {q : R6} (h : Lk N s rs) (hop : s2.op = upd s.op w oo) (rop : rs2.op = up6 rs.op w q) (hpl : rs2.pl = s2.pl) (hl : s2.pl.length = s.pl.length) (htop : rs2.top = s2.top) (hbot : rs2.bot = s2.bot) (hlast : rs2.lw = s2.lw ∧ rs2.lc = s2.lc ∧ rs2.lr = s2.lr ∧ rs2.la = s2.la)
    (hT : s.top ≤ s2.top ∧ s2.top ≤ N + 1) (hB : -1 ≤ s2.bot ∧ s2.bot ≤ N + 1) (hBw : w ≠ 0 → s2.bot = s.bot) (hp : Pp s.pl.length s2.top s2.bot (decide (w = 0)) oo q) : Lk (N + 1) s2 rs2 := by
  have ht := h.t
  refine ⟨hpl, htop, hbot, hlast.1, hlast.2.1, hlast.2.2.1, hlast.2.2.2, by rw [hl]; exact h.n, by omega, hB, ?_, fun v hv => ?_⟩
  · rw [hl, hop, rop]
    by_cases e : w = 0
    · subst e
      rw [upd_same, up6_same]
      exact hp
    · rw [upd_ne _ _ (Ne.symm e)]
      have : up6 rs.op w q 0 = rs.op 0 := by simp [up6, Ne.symm e]
      rw [this, hBw e]
      exact h.ow.mvT hT.1
  · rw [hl, hop, rop]
    by_cases e : v = w
    · subst e
      rw [upd_same, up6_same]
      have : decide (v = 0) = false := decide_eq_false (by omega)
      rw [this] at hp
      exact hp
    · rw [upd_ne _ _ e]
      have : up6 rs.op w q v = rs.op v := by simp [up6, e]
      rw [this]
      exact ((h.th v hv).mvT hT.1).mvB
theorem Lk.rb {N : Int} {s : S} {rs : RS} {w : Nat} {o : O} (h : Lk N s rs) (hN : N ≤ 100000) (ho : s.op w = some o) : Rb rs w := by
  have hp := h.pp w
  rw [ho] at hp
  have ht := h.t
  have hb := h.b
  have hn := h.n
  have e1 := h.pl
  have e2 := h.top
  have e3 := h.bot
  generalize decide (w = 0) = f at hp
  have a1 : sm rs.top := by unfold sm; omega
  have a2 : sm rs.bot := by unfold sm; omega
  have a3 : rs.pl.length ≠ 0 := by rw [e1]; omega
  have a4 : rs.pl.length ≤ 1000000 := by rw [e1]; omega
  obtain ⟨r, hr⟩ : ∃ r, r = rs.op w := ⟨_, rfl⟩
  rw [← hr] at hp
  have go : r.kd ≠ 0 ∧ sm r.st ∧ sm r.t ∧ sm r.b ∧ (r.kd = 1 → r.st = 3 → 0 ≤ r.b) ∧ (r.kd = 2 → r.st = 4 → 0 ≤ r.b) ∧ (r.kd ≠ 1 → r.kd ≠ 2 → r.st = 3 → 0 ≤ r.t) := by
    unfold sm
    cases hp with
    | s1 hn hk hs hok hrt hrb => unfold sm at hrb; refine ⟨?_, ?_, ?_, ?_, ?_, ?_, ?_⟩ <;> omega
    | s2 hn hk hs hok ht h0 hrb => unfold sm at hrb; refine ⟨?_, ?_, ?_, ?_, ?_, ?_, ?_⟩ <;> omega
    | s3 hn hk hs hok ht h0 hrb => unfold sm at hrb; refine ⟨?_, ?_, ?_, ?_, ?_, ?_, ?_⟩ <;> omega
    | s4 hn hk hs hx ht h0 hrb => unfold sm at hrb; refine ⟨?_, ?_, ?_, ?_, ?_, ?_, ?_⟩ <;> omega
    | _ => refine ⟨?_, ?_, ?_, ?_, ?_, ?_, ?_⟩ <;> omega
  obtain ⟨g1, g2, g3, g4, g5, g6, g7⟩ := go
  rw [hr] at g1 g2 g3 g4 g5 g6 g7
  exact ⟨g1, g2, g3, g4, a1, a2, a3, a4, g5, g6, g7⟩
theorem Lk.step {N : Int} {H : Hp} {d w : Nat} {s : S} {rs : RS} {o : O} {K : AV → Hp → Prop} (h : Lk N s rs) (hN : N ≤ 100000) (hq : Dq H d s) (hw : w < 65) (ho : s.op w = some o)
    (hK : ∀ H' s', Dq H' d s' → Lk (N + 1) s' (rn rs w).2 → Fd d s H H' → s'.ip = s.ip → (∀ v o', s'.op v = some o' → ∃ o, s.op v = some o ∧ o'.id = o.id) → K (tp (rn rs w).1) H') : callK Try.prog σ n_deque_Deque_Step [.ptr d 0, I w] H K := by
  have ht := h.t
  have hb := h.b
  have hn := h.n
  have e1 := h.pl
  have e2 := h.top
  have e3 := h.bot
  have el := h.lw
  have el2 := h.lc
  have el3 := h.lr
  have el4 := h.la
  have hp := h.pp w
  rw [ho] at hp
  have on : ∀ (H' : Hp) (s1 : S) (o1 : O) (g : Nat) (pl : List Int) (top bot : Int) (q : R6) (c : Int) (b : Bool), rn rs w = ((false, 0, false), rk2 rs w pl top bot q c b) → Dq H' d (put s1 w { o1 with nx := .fn g [] }) → Fd d s H H' → s1.op = s.op → s1.ip = s.ip → o1.id = o.id → pl = s1.pl → s1.pl.length = s.pl.length → top = s1.top → bot = s1.bot →
      ((w : Int) = s1.lw ∧ c = s1.lc ∧ b = s1.lr ∧ true = s1.la) → (s.top ≤ s1.top ∧ s1.top ≤ N + 1) → (-1 ≤ s1.bot ∧ s1.bot ≤ N + 1) → (w ≠ 0 → s1.bot = s.bot) → Pp s.pl.length s1.top s1.bot (decide (w = 0)) (some { o1 with nx := .fn g [] }) q → K (.tup [Bo false, I 0, Bo false]) H' := by
    intro H' s1 o1 g pl top bot q c b hr hd f p1 p2 p3 p5 p6 p7 p8 p9 p10 p11 p12 p13
    rw [hr] at hK
    refine hK H' _ hd (h.mk' (oo := some { o1 with nx := .fn g [] }) (by simp [put, p1]) rfl p5 p6 p7 p8 p9 p10 p11 p12 p13) f p2 fun v o' hv => ?_
    by_cases e : v = w
    · subst e
      simp only [put, p1, upd_same, Option.some.injEq] at hv
      subst hv
      exact ⟨o, ho, p3⟩
    · simp only [put, p1, upd_ne _ _ e] at hv
      exact ⟨o', hv, rfl⟩
  have off : ∀ (H' : Hp) (s1 : S) (p : Bool × Int × Bool) (pl : List Int) (top bot : Int) (c : Int) (b : Bool), rn rs w = (p, rk2 rs w pl top bot z6 c b) → Dq H' d { s1 with op := upd s.op w none } → Fd d s H H' → s1.ip = s.ip → pl = s1.pl → s1.pl.length = s.pl.length → top = s1.top → bot = s1.bot →
      ((w : Int) = s1.lw ∧ c = s1.lc ∧ b = s1.lr ∧ true = s1.la) → (s.top ≤ s1.top ∧ s1.top ≤ N + 1) → (-1 ≤ s1.bot ∧ s1.bot ≤ N + 1) → (w ≠ 0 → s1.bot = s.bot) → Pp s.pl.length s1.top s1.bot (decide (w = 0)) none z6 → K (tp p) H' := by
    intro H' s1 p pl top bot c b hr hd f p2 p5 p6 p7 p8 p9 p10 p11 p12 p13
    rw [hr] at hK
    refine hK H' _ hd (h.mk' (s2 := { s1 with op := upd s.op w none }) (oo := none) rfl rfl p5 p6 p7 p8 p9 p10 p11 p12 p13) f p2 fun v o' hv => ?_
    by_cases e : v = w
    · subst e
      simp only [upd_same] at hv
      cases hv
    · simp only [upd_ne _ _ e] at hv
      exact ⟨o', hv, rfl⟩
  by_cases hw0 : w = 0
  · have hd0 : decide (w = 0) = true := decide_eq_true hw0
    have nw : ∀ {P : Prop}, w ≠ 0 → P := fun hne => absurd hw0 hne
    rw [hd0] at hp on off
    have B1 : s.top ≤ s.top ∧ s.top ≤ N + 1 := by omega
    have B2 : -1 ≤ s.bot ∧ s.bot ≤ N + 1 := by omega
    cases hp with
    | u1 hx' hk hs hx hok h0 hr hrt hrb =>
      exact Step_fn hq hw ho hx' ph_push1 fun H' h' f => on H' _ _ n_deque_push2 _ _ _ _ _ _ (rn_u1 hk hs) h' f rfl rfl rfl e1 rfl e2 e3 ⟨rfl, rfl, rfl, rfl⟩ B1 B2 nw (.u2 rfl hk (by show (rs.op w).st + 1 = 2; omega) hx hok h0 hr rfl e3 hrt)
    | u2 hx' hk hs hx hok h0 hr hb2 hrb hrt =>
      have p := ph_push2 (σ := σ) (d := d) (w := w) (s := s) (o := o) (wr64 (by omega) (by omega))
      by_cases e : o.b - s.top = s.pl.length
      · rw [if_pos e] at p
        refine Step_nil hq hw ho hx' p fun H' h' f => ?_
        have k := off H' (acc s w (-1000) false) _ _ _ _ _ _ (rn_u2f hk hs (by rw [e1, e2, hrb]; omega)) h' f rfl e1 rfl e2 e3 ⟨rfl, rfl, rfl, rfl⟩ B1 B2 nw (.idleO rfl h0 hr)
        simpa [tp, hok] using k
      · rw [if_neg e] at p
        exact Step_fn hq hw ho hx' p fun H' h' f => on H' _ _ n_deque_push3 _ _ _ _ _ _ (rn_u2 hk hs (by rw [e1, e2, hrb]; omega)) h' f rfl rfl rfl e1 rfl e2 e3 ⟨rfl, rfl, rfl, rfl⟩ B1 B2 nw (.u3 rfl hk (by show (rs.op w).st + 1 = 3; omega) hx h0 (by show s.bot - s.top < _; omega) hb2 hrb (by show 0 ≤ rs.top ∧ rs.top ≤ s.top; omega))
    | u3 hx' hk hs hx h0 hr hb2 hrb hrt =>
      have p := ph_push3 (σ := σ) (d := d) (w := w) (s := s) (o := o) (by omega) (by omega) (by omega)
      have ea : ((rs.op w).b.tmod rs.pl.length) = atI s o.b := by rw [e1, hrb, ← hb2]; rfl
      exact Step_fn hq hw ho hx' p fun H' h' f => on H' _ _ n_deque_push4 _ _ _ _ _ _ (rn_u3 hk hs) h' f rfl rfl rfl (by rw [ea, e1, ← hx]) (by simp) e2 e3 ⟨rfl, by rw [ea]; rfl, rfl, rfl⟩ B1 B2 nw (.u4 rfl hk (by show (rs.op w).st + 1 = 4; omega) hx h0 hr hb2 hrb hrt)
    | u4 hx' hk hs hx h0 hr hb2 hrb hrt =>
      have p := ph_push4 (σ := σ) (d := d) (w := w) (s := s) (o := o) (wr64 (by omega) (by omega))
      refine Step_nil hq hw ho hx' p fun H' h' f => ?_
      have k := off H' { acc s w (-1001) true with bot := o.b + 1 } _ _ _ _ _ _ (rn_u4 hk hs) h' f rfl e1 rfl e2 (by rw [hrb, hb2]) ⟨rfl, rfl, rfl, rfl⟩ B1 (by show -1 ≤ o.b + 1 ∧ o.b + 1 ≤ N + 1; omega) nw (.idleO rfl (by show 0 ≤ o.b + 1; omega) (by show o.b + 1 - s.top ≤ _; omega))
      rw [← hx] at k
      simpa [tp] using k
    | o1 hx' hk hs hok hrok h0 hr hrt hrb =>
      have p := ph_pop1 (σ := σ) (d := d) (w := w) (s := s) (o := o) (wr64 (by omega) (by omega))
      exact Step_fn hq hw ho hx' p fun H' h' f => on H' _ _ n_deque_pop2 _ _ _ _ _ _ (rn_o1 hk hs) h' f rfl rfl rfl e1 rfl e2 e3 ⟨rfl, rfl, rfl, rfl⟩ B1 B2 nw (.o2 rfl hk (by show (rs.op w).st + 1 = 2; omega) hok hrok h0 hr rfl (by show rs.bot - 1 = s.bot - 1; omega) hrt)
    | o2 hx' hk hs hok hrok h0 hr hb2 hrb hrt =>
      exact Step_fn hq hw ho hx' ph_pop2 fun H' h' f => on H' _ _ n_deque_pop3 _ _ _ _ _ _ (rn_o2 hk hs) h' f rfl rfl rfl e1 rfl e2 (by rw [hrb, hb2]) ⟨rfl, rfl, rfl, rfl⟩ B1 (by show -1 ≤ o.b ∧ o.b ≤ N + 1; omega) nw (.o3 rfl hk (by show (rs.op w).st + 1 = 3; omega) hok hrok (by show -1 ≤ o.b; omega) (by show o.b + 1 - s.top ≤ _; omega) rfl (by show (rs.op w).b = o.b; omega) hrt)
    | o3 hx' hk hs hok hrok h0 hr hb2 hrb hrt =>
      have p := ph_pop3 (σ := σ) (d := d) (w := w) (s := s) (o := o)
      by_cases e : o.b < s.top
      · rw [if_pos e] at p
        exact Step_fn hq hw ho hx' p fun H' h' f => on H' _ _ n_deque_pop6 _ _ _ _ _ _ (rn_o3n hk hs (by rw [e2, hrb]; omega)) h' f rfl rfl rfl e1 rfl e2 e3 ⟨rfl, rfl, rfl, rfl⟩ B1 B2 nw (.o6 rfl hk rfl (fun hh => by rw [show o.ok = true from hh] at hok; cases hok) (by show o.ok = (rs.op w).ok; rw [hok, hrok]) h0 hr hb2 hrb (by show 0 ≤ rs.top ∧ rs.top ≤ s.top; omega))
      · rw [if_neg e] at p
        exact Step_fn hq hw ho hx' p fun H' h' f => on H' _ _ n_deque_pop4 _ _ _ _ _ _ (rn_o3 hk hs (by rw [e2, hrb]; omega)) h' f rfl rfl rfl e1 rfl e2 e3 ⟨rfl, rfl, rfl, rfl⟩ B1 B2 nw (.o4 rfl hk (by show (rs.op w).st + 1 = 4; omega) hok (by show 0 ≤ s.top; omega) (by show s.top ≤ s.bot; omega) hr hb2 hrb e2 (Int.le_refl _))
    | o4 hx' hk hs hok h0 htb hr hb2 hrb htt htT =>
      have p := ph_pop4 (σ := σ) (d := d) (w := w) (s := s) (o := o) (by omega) (by omega) (by omega)
      have ea : ((rs.op w).b.tmod rs.pl.length) = atI s o.b := by rw [e1, hrb, ← hb2]; rfl
      by_cases e : o.t < o.b
      · rw [if_pos e, if_pos e] at p
        refine Step_nil hq hw ho hx' p fun H' h' f => ?_
        have k := off H' (acc s w (-1002 - atI s o.b) false) _ _ _ _ _ _ (rn_o4y hk hs (by rw [htt, hrb]; omega)) h' f rfl e1 rfl e2 e3 ⟨rfl, by rw [ea]; rfl, rfl, rfl⟩ B1 B2 nw (.idleO rfl (by show 0 ≤ s.bot; omega) (by show s.bot - s.top ≤ _; omega))
        rw [ea, e1] at k
        simpa [tp] using k
      · rw [if_neg e, if_neg e] at p
        exact Step_fn hq hw ho hx' p fun H' h' f => on H' _ _ n_deque_pop5 _ _ _ _ _ _ (rn_o4 hk hs (by rw [htt, hrb]; omega)) h' f rfl rfl rfl e1 rfl e2 e3 ⟨rfl, by rw [ea]; rfl, rfl, rfl⟩ B1 B2 nw (.o5 rfl hk (by show (rs.op w).st + 1 = 5; omega) (by show s.pl.getD (atI s o.b).toNat 0 = rs.pl.getD ((rs.op w).b.tmod rs.pl.length).toNat 0; rw [ea, e1]) h0 (by show 0 ≤ s.bot; omega) hr hb2 hrb htt htT)
    | o5 hx' hk hs hx h0 hB hr hb2 hrb htt htT =>
      have p := ph_pop5 (σ := σ) (d := d) (w := w) (s := s) (o := o) (wr64 (by omega) (by omega))
      by_cases e : s.top = o.t
      · simp only [e, if_true, decide_true] at p
        exact Step_fn hq hw ho hx' p fun H' h' f => on H' _ _ n_deque_pop6 _ _ _ _ _ _ (rn_o5y hk hs (by rw [e2, htt]; exact e)) h' f rfl rfl rfl e1 rfl (by rw [htt]) e3 ⟨rfl, rfl, rfl, rfl⟩ (by show s.top ≤ o.t + 1 ∧ o.t + 1 ≤ N + 1; omega) B2 nw (.o6 rfl hk (by show (rs.op w).st + 1 = 6; omega) (fun _ => hx) rfl (by show -1 ≤ s.bot; omega) (by show s.bot + 1 - (o.t + 1) ≤ _; omega) hb2 hrb (by show 0 ≤ (rs.op w).t ∧ (rs.op w).t ≤ o.t + 1; omega))
      · simp only [e, if_false, decide_false] at p
        exact Step_fn hq hw ho hx' p fun H' h' f => on H' _ _ n_deque_pop6 _ _ _ _ _ _ (rn_o5n hk hs (by rw [e2, htt]; exact e)) h' f rfl rfl rfl e1 rfl e2 e3 ⟨rfl, rfl, rfl, rfl⟩ B1 B2 nw (.o6 rfl hk (by show (rs.op w).st + 1 = 6; omega) (fun hh => by cases hh) rfl (by show -1 ≤ s.bot; omega) hr hb2 hrb (by show 0 ≤ (rs.op w).t ∧ (rs.op w).t ≤ s.top; omega))
    | o6 hx' hk hs hx hok h0 hr hb2 hrb hrt =>
      have p := ph_pop6 (σ := σ) (d := d) (w := w) (s := s) (o := o) (wr64 (by omega) (by omega))
      refine Step_nil hq hw ho hx' p fun H' h' f => ?_
      have k := off H' { acc s w (-1001) true with bot := o.b + 1 } _ _ _ _ _ _ (rn_o6 hk hs) h' f rfl e1 rfl e2 (by rw [hrb, hb2]) ⟨rfl, rfl, rfl, rfl⟩ B1 (by show -1 ≤ o.b + 1 ∧ o.b + 1 ≤ N + 1; omega) nw (.idleO rfl (by show 0 ≤ o.b + 1; omega) (by show o.b + 1 - s.top ≤ _; omega))
      rw [← hok] at k
      cases hoo : o.ok with
      | true =>
        rw [hoo, ← hx hoo] at k
        simpa [tp] using k
      | false =>
        rw [hoo] at k
        simpa [tp] using k
  · have hd0 : decide (w = 0) = false := decide_eq_false hw0
    rw [hd0] at hp on off
    have B1 : s.top ≤ s.top ∧ s.top ≤ N + 1 := by omega
    have B2 : -1 ≤ s.bot ∧ s.bot ≤ N + 1 := by omega
    cases hp with
    | s1 hx' hk hs hok hrt hrb =>
      exact Step_fn hq hw ho hx' ph_steal1 fun H' h' f => on H' _ _ n_deque_steal2 _ _ _ _ _ _ (rn_s1 hk hs) h' f rfl rfl rfl e1 rfl e2 e3 ⟨rfl, rfl, rfl, rfl⟩ B1 B2 (fun _ => rfl) (.s2 rfl hk (by show (rs.op w).st + 1 = 2; omega) hok e2 (by show 0 ≤ s.top ∧ s.top ≤ s.top; omega) hrb)
    | s2 hx' hk hs hok htt h0 hrb =>
      have p := ph_steal2 (σ := σ) (d := d) (w := w) (s := s) (o := o)
      by_cases e : s.bot ≤ o.t
      · rw [if_pos e] at p
        refine Step_nil hq hw ho hx' p fun H' h' f => ?_
        have k := off H' (acc s w (-1001) false) _ _ _ _ _ _ (rn_s2n hk hs (by rw [e3, htt]; exact e)) h' f rfl e1 rfl e2 e3 ⟨rfl, rfl, rfl, rfl⟩ B1 B2 (fun _ => rfl) (.idleT rfl)
        simpa [tp, hok] using k
      · rw [if_neg e] at p
        exact Step_fn hq hw ho hx' p fun H' h' f => on H' _ _ n_deque_steal3 _ _ _ _ _ _ (rn_s2 hk hs (by rw [e3, htt]; exact e)) h' f rfl rfl rfl e1 rfl e2 e3 ⟨rfl, rfl, rfl, rfl⟩ B1 B2 (fun _ => rfl) (.s3 rfl hk (by show (rs.op w).st + 1 = 3; omega) hok htt h0 (by unfold sm; show -1000000 ≤ rs.bot ∧ rs.bot ≤ 1000000; omega))
    | s3 hx' hk hs hok htt h0 hrb =>
      have p := ph_steal3 (σ := σ) (d := d) (w := w) (s := s) (o := o) h0.1 (by omega) (by omega)
      have ea : ((rs.op w).t.tmod rs.pl.length) = atI s o.t := by rw [e1, htt]; rfl
      exact Step_fn hq hw ho hx' p fun H' h' f => on H' _ _ n_deque_steal4 _ _ _ _ _ _ (rn_s3 hk hs) h' f rfl rfl rfl e1 rfl e2 e3 ⟨rfl, by rw [ea]; rfl, rfl, rfl⟩ B1 B2 (fun _ => rfl) (.s4 rfl hk (by show (rs.op w).st + 1 = 4; omega) (by show s.pl.getD (atI s o.t).toNat 0 = rs.pl.getD ((rs.op w).t.tmod rs.pl.length).toNat 0; rw [ea, e1]) htt h0 hrb)
    | s4 hx' hk hs hx htt h0 hrb =>
      have p := ph_steal4 (σ := σ) (d := d) (w := w) (s := s) (o := o) (wr64 (by omega) (by omega))
      by_cases e : s.top = o.t
      · simp only [e, if_true, decide_true] at p
        refine Step_nil hq hw ho hx' p fun H' h' f => ?_
        have k := off H' { acc s w (-1000) true with top := o.t + 1 } _ _ _ _ _ _ (rn_s4y hk hs (by rw [e2, htt]; exact e)) h' f rfl e1 rfl (by rw [htt]) e3 ⟨rfl, rfl, rfl, rfl⟩ (by show s.top ≤ o.t + 1 ∧ o.t + 1 ≤ N + 1; omega) B2 (fun _ => rfl) (.idleT rfl)
        rw [← hx] at k
        simpa [tp] using k
      · simp only [e, if_false, decide_false] at p
        refine Step_nil hq hw ho hx' p fun H' h' f => ?_
        have k := off H' (acc s w (-1000) true) _ _ _ _ _ _ (rn_s4n hk hs (by rw [e2, htt]; exact e)) h' f rfl e1 rfl e2 e3 ⟨rfl, rfl, rfl, rfl⟩ B1 B2 (fun _ => rfl) (.idleT rfl)
        simpa [tp] using k
end Go.Proofs.Ytnloolhaojoimaa.Ev
namespace Go.Proofs.Ytnloolhaojoimaa.Ev
set_option linter.unusedVariables false
set_option linter.unusedSimpArgs false
variable {σ : Sig}
def Own (d : Nat) (s : S) (j : Nat) : Prop := j = d ∨ j = s.ip ∨ ∃ w o, w < 65 ∧ s.op w = some o ∧ j = o.id
def OwnR (r : Nat) (rs : RS) (j : Nat) : Prop := j = r ∨ j = rs.ip
theorem Dq.keep {H H' : Hp} {d : Nat} {s : S} (h : Dq H d s) (hg : ∀ j, Own d s j → H'.get j = H.get j) (hn : H.n ≤ H'.n) : Dq H' d s := by
  refine ⟨by rw [hg d (.inl rfl)]; exact h.hd, by rw [hg s.ip (.inr (.inl rfl))]; exact h.hp, fun w o hw ho => ?_, h.hi, by have := h.dl; omega, by have := h.pl; omega, h.dp⟩
  obtain ⟨h1, h2, h3, h4⟩ := h.ho w o hw ho
  exact ⟨by rw [hg o.id (.inr (.inr ⟨w, o, hw, ho, rfl⟩))]; exact h1, by omega, h3, h4⟩
theorem Rq.keep {H H' : Hp} {r : Nat} {rs : RS} (h : Rq H r rs) (hg : ∀ j, OwnR r rs j → H'.get j = H.get j) (hn : H.n ≤ H'.n) : Rq H' r rs :=
  ⟨by rw [hg r (.inl rfl)]; exact h.hd, by rw [hg rs.ip (.inr rfl)]; exact h.hp, by have := h.dl; omega, by have := h.pl; omega, h.dp⟩
theorem own_lt {H : Hp} {d : Nat} {s : S} (h : Dq H d s) {j : Nat} (hj : Own d s j) : j < H.n := by
  rcases hj with rfl | rfl | ⟨w, o, hw, ho, rfl⟩
  · exact h.dl
  · exact h.pl
  · exact (h.ho w o hw ho).2.1
theorem ownR_lt {H : Hp} {r : Nat} {rs : RS} (h : Rq H r rs) {j : Nat} (hj : OwnR r rs j) : j < H.n := by
  rcases hj with rfl | rfl
  · exact h.dl
  · exact h.pl
theorem own_sub {d : Nat} {s s' : S} (hi : s'.ip = s.ip) (hs : ∀ v o', s'.op v = some o' → ∃ o, s.op v = some o ∧ o'.id = o.id) {j : Nat} (h : Own d s' j) : Own d s j := by
  rcases h with rfl | rfl | ⟨w, o', hw, ho, rfl⟩
  · exact .inl rfl
  · exact .inr (.inl hi)
  · obtain ⟨o, h1, h2⟩ := hs w o' ho
    exact .inr (.inr ⟨w, o, hw, h1, h2⟩)
theorem Fd.same {d : Nat} {s : S} {H H' : Hp} (f : Fd d s H H') {j : Nat} (h : ¬ Own d s j) : H'.get j = H.get j :=
  f.g j (fun e => h (.inl e)) (fun e => h (.inr (.inl e))) fun w o hw ho e => h (.inr (.inr ⟨w, o, hw, ho, e⟩))
theorem Fq.same {r : Nat} {rs : RS} {H H' : Hp} (f : Fq r rs.ip H H') {j : Nat} (h : ¬ OwnR r rs j) : H'.get j = H.get j :=
  f.g j (fun e => h (.inl e)) (fun e => h (.inr e))
structure S4 (H : Hp) (d o r b : Nat) (c : List AV) (s s2 : S) (rs : RS) : Prop where
  dq : Dq H d s
  oq : Dq H o s2
  rq : Rq H r rs
  bx : H.get b = some (.cells c true)
  bl : b < H.n
  x1 : ∀ j, Own d s j → ¬ Own o s2 j
  x2 : ∀ j, Own d s j → ¬ OwnR r rs j
  x3 : ∀ j, Own o s2 j → ¬ OwnR r rs j
  y1 : ¬ Own d s b
  y2 : ¬ Own o s2 b
  y3 : ¬ OwnR r rs b
section
variable {H H' : Hp} {d o r b : Nat} {c : List AV} {s s' s2 s2' : S} {rs rs' : RS}
theorem S4.stepD (h : S4 H d o r b c s s2 rs) (hd : Dq H' d s') (f : Fd d s H H') (hi : s'.ip = s.ip) (hs : ∀ v o', s'.op v = some o' → ∃ o, s.op v = some o ∧ o'.id = o.id) : S4 H' d o r b c s' s2 rs := by
  have hn : H'.n = H.n := f.n
  exact ⟨hd, h.oq.keep (fun j hj => f.same fun hd => h.x1 j hd hj) (by omega), h.rq.keep (fun j hj => f.same fun hd => h.x2 j hd hj) (by omega), by rw [f.same h.y1]; exact h.bx, by have := h.bl; omega,
    fun j hj => h.x1 j (own_sub hi hs hj), fun j hj => h.x2 j (own_sub hi hs hj), h.x3, fun hj => h.y1 (own_sub hi hs hj), h.y2, h.y3⟩
theorem S4.stepO (h : S4 H d o r b c s s2 rs) (hd : Dq H' o s2') (f : Fd o s2 H H') (hi : s2'.ip = s2.ip) (hs : ∀ v o', s2'.op v = some o' → ∃ o, s2.op v = some o ∧ o'.id = o.id) : S4 H' d o r b c s s2' rs := by
  have hn : H'.n = H.n := f.n
  exact ⟨h.dq.keep (fun j hj => f.same fun ho => h.x1 j hj ho) (by omega), hd, h.rq.keep (fun j hj => f.same fun ho => h.x3 j ho hj) (by omega), by rw [f.same h.y2]; exact h.bx, by have := h.bl; omega,
    fun j hj ho => h.x1 j hj (own_sub hi hs ho), h.x2, fun j ho => h.x3 j (own_sub hi hs ho), h.y1, fun hj => h.y2 (own_sub hi hs hj), h.y3⟩
theorem S4.stepR (h : S4 H d o r b c s s2 rs) (hr : Rq H' r rs') (f : Fq r rs.ip H H') (hi : rs'.ip = rs.ip) : S4 H' d o r b c s s2 rs' := by
  have hn : H'.n = H.n := f.n
  have e : ∀ j, OwnR r rs' j → OwnR r rs j := fun j hj => by unfold OwnR at hj ⊢; rw [hi] at hj; exact hj
  exact ⟨h.dq.keep (fun j hj => f.same fun hr => h.x2 j hj hr) (by omega), h.oq.keep (fun j hj => f.same fun hr => h.x3 j hj hr) (by omega), hr, by rw [f.same h.y3]; exact h.bx, by have := h.bl; omega,
    h.x1, fun j hj hr => h.x2 j hj (e j hr), fun j hj hr => h.x3 j hj (e j hr), h.y1, h.y2, fun hj => h.y3 (e _ hj)⟩
theorem own_put {w : Nat} {q : O} {j : Nat} (h : Own d (put s w q) j) : Own d s j ∨ j = q.id := by
  rcases h with rfl | rfl | ⟨v, o', hv, ho, rfl⟩
  · exact .inl (.inl rfl)
  · exact .inl (.inr (.inl rfl))
  · by_cases e : v = w
    · subst e
      simp only [put, upd_same, Option.some.injEq] at ho
      subst ho
      exact .inr rfl
    · simp only [put, upd_ne _ _ e] at ho
      exact .inl (.inr (.inr ⟨v, o', hv, ho, rfl⟩))
theorem S4.beginD {w : Nat} {q : O} (h : S4 H d o r b c s s2 rs) (hq : q.id = H.n) (hd : Dq H' d (put s w q)) (hn : H'.n = H.n + 1) (f : ∀ j, j < H.n → j ≠ d → H'.get j = H.get j) : S4 H' d o r b c (put s w q) s2 rs := by
  have k : ∀ j, j < H.n → ¬ Own d s j → H'.get j = H.get j := fun j hj hne => f j hj fun e => hne (.inl e)
  have o2 : ∀ j, Own o s2 j → j < H.n := fun j hj => own_lt h.oq hj
  have o3 : ∀ j, OwnR r rs j → j < H.n := fun j hj => ownR_lt h.rq hj
  have hb := h.bl
  refine ⟨hd, h.oq.keep (fun j hj => k j (o2 j hj) fun hd => h.x1 j hd hj) (by omega), h.rq.keep (fun j hj => k j (o3 j hj) fun hd => h.x2 j hd hj) (by omega), by rw [k b hb h.y1]; exact h.bx, by omega, fun j hj ho => ?_, fun j hj hr => ?_, h.x3, fun hj => ?_, h.y2, h.y3⟩
  · rcases own_put hj with hj | e
    · exact h.x1 j hj ho
    · have := o2 j ho; omega
  · rcases own_put hj with hj | e
    · exact h.x2 j hj hr
    · have := o3 j hr; omega
  · rcases own_put hj with hj | e
    · exact h.y1 hj
    · omega
theorem S4.beginO {w : Nat} {q : O} (h : S4 H d o r b c s s2 rs) (hq : q.id = H.n) (hd : Dq H' o (put s2 w q)) (hn : H'.n = H.n + 1) (f : ∀ j, j < H.n → j ≠ o → H'.get j = H.get j) : S4 H' d o r b c s (put s2 w q) rs := by
  have k : ∀ j, j < H.n → ¬ Own o s2 j → H'.get j = H.get j := fun j hj hne => f j hj fun e => hne (.inl e)
  have o1 : ∀ j, Own d s j → j < H.n := fun j hj => own_lt h.dq hj
  have o3 : ∀ j, OwnR r rs j → j < H.n := fun j hj => ownR_lt h.rq hj
  have hb := h.bl
  refine ⟨h.dq.keep (fun j hj => k j (o1 j hj) fun ho => h.x1 j hj ho) (by omega), hd, h.rq.keep (fun j hj => k j (o3 j hj) fun ho => h.x3 j ho hj) (by omega), by rw [k b hb h.y2]; exact h.bx, by omega, fun j hj ho => ?_, h.x2, fun j ho hr => ?_, h.y1, fun hj => ?_, h.y3⟩
  · rcases own_put ho with ho | e
    · exact h.x1 j hj ho
    · have := o1 j hj; omega
  · rcases own_put ho with ho | e
    · exact h.x3 j ho hr
    · have := o3 j hr; omega
  · rcases own_put hj with hj | e
    · exact h.y2 hj
    · omega
structure S3 (H : Hp) (d o r : Nat) (s s2 : S) (rs : RS) : Prop where
  dq : Dq H d s
  oq : Dq H o s2
  rq : Rq H r rs
  x1 : ∀ j, Own d s j → ¬ Own o s2 j
  x2 : ∀ j, Own d s j → ¬ OwnR r rs j
  x3 : ∀ j, Own o s2 j → ¬ OwnR r rs j
theorem S4.three (h : S4 H d o r b c s s2 rs) : S3 H d o r s s2 rs := ⟨h.dq, h.oq, h.rq, h.x1, h.x2, h.x3⟩
theorem S3.box (h : S3 H d o r s s2 rs) (hg : ∀ j, j < H.n → H'.get j = H.get j) (hb : H'.get H.n = some (.cells c true)) (hn : H'.n = H.n + 1) : S4 H' d o r H.n c s s2 rs :=
  ⟨h.dq.keep (fun j hj => hg j (own_lt h.dq hj)) (by omega), h.oq.keep (fun j hj => hg j (own_lt h.oq hj)) (by omega), h.rq.keep (fun j hj => hg j (ownR_lt h.rq hj)) (by omega), hb, by omega, h.x1, h.x2, h.x3,
    fun hj => by have := own_lt h.dq hj; omega, fun hj => by have := own_lt h.oq hj; omega, fun hj => by have := ownR_lt h.rq hj; omega⟩
theorem S4.grow (h : S4 H d o r b c s s2 rs) (hg : ∀ j, j < H.n → H'.get j = H.get j) (hn : H.n ≤ H'.n) : S4 H' d o r b c s s2 rs :=
  ⟨h.dq.keep (fun j hj => hg j (own_lt h.dq hj)) (by omega), h.oq.keep (fun j hj => hg j (own_lt h.oq hj)) (by omega), h.rq.keep (fun j hj => hg j (ownR_lt h.rq hj)) (by omega), by rw [hg b h.bl]; exact h.bx, by have := h.bl; omega, h.x1, h.x2, h.x3, h.y1, h.y2, h.y3⟩
end
theorem Lk.begin {N : Int} {s : S} {rs : RS} {w g id : Nat} {k x : Int} (h : Lk N s rs) (hN : 0 ≤ N) (ho : s.op w = none) (hg : stepsF (w : Int) k = some g) : Lk (N + 1) (put s w ⟨id, x, 0, 0, false, .fn g []⟩) (ro rs w ⟨k, 1, 0, 0, if k = 1 then x else 0, false⟩) := by
  have ht := h.t
  have hb := h.b
  have hp := h.pp w
  rw [ho] at hp
  refine h.mk' (s2 := put s w ⟨id, x, 0, 0, false, .fn g []⟩) (rs2 := ro rs w ⟨k, 1, 0, 0, if k = 1 then x else 0, false⟩) rfl rfl h.pl rfl h.top h.bot ⟨h.lw, h.lc, h.lr, h.la⟩ (by show s.top ≤ s.top ∧ s.top ≤ N + 1; omega) (by show -1 ≤ s.bot ∧ s.bot ≤ N + 1; omega) (fun _ => rfl) ?_
  show Pp s.pl.length s.top s.bot _ _ _
  unfold stepsF at hg
  by_cases w0 : w = 0
  · subst w0
    have hp0 : Pp s.pl.length s.top s.bot true none (rs.op 0) := hp
    show Pp s.pl.length s.top s.bot true _ _
    cases hp0 with
    | idleO hk h0 hr =>
      by_cases k1 : k = 1
      · rw [if_pos ⟨k1, rfl⟩] at hg
        cases hg
        exact .u1 rfl k1 rfl (by rw [if_pos k1]) rfl h0 hr rfl rfl
      · rw [if_neg (fun e => k1 e.1)] at hg
        by_cases k2 : k = 2
        · rw [if_pos ⟨k2, rfl⟩] at hg
          cases hg
          exact .o1 rfl k2 rfl rfl rfl h0 hr rfl rfl
        · rw [if_neg (fun e => k2 e.1), if_neg (fun e => by have := e.2; simp at this)] at hg
          cases hg
  · have hd : decide (w = 0) = false := decide_eq_false w0
    rw [hd]
    rw [if_neg (fun e => w0 (by have := e.2; omega)), if_neg (fun e => w0 (by have := e.2; omega))] at hg
    by_cases k3 : k = 3
    · rw [if_pos ⟨k3, by omega⟩] at hg
      cases hg
      exact .s1 rfl k3 rfl rfl rfl (by unfold sm; show (-1000000 : Int) ≤ 0 ∧ (0 : Int) ≤ 1000000; decide)
    · rw [if_neg (fun e => k3 e.1)] at hg
      cases hg
theorem Lk.busy {N : Int} {s : S} {rs : RS} (h : Lk N s rs) (w : Nat) : (s.op w).isSome = !decide ((rs.op w).kd = 0) := by
  have hp := h.pp w
  generalize decide (w = 0) = f at hp
  generalize s.op w = oo at hp
  generalize rs.op w = r at hp
  cases hp <;> simp_all
end Go.Proofs.Ytnloolhaojoimaa.Ev
namespace Go.Proofs.Ytnloolhaojoimaa.Ev
set_option linter.unusedVariables false
set_option linter.unusedSimpArgs false
set_option maxRecDepth 100000
variable {σ : Sig}
def cl (n : Int) : Nat := if n < 1 then 1 else if 1024 < n then 1024 else n.toNat
theorem cl_in (n : Int) : 1 ≤ cl n ∧ cl n ≤ 1024 := by
  unfold cl
  split
  · omega
  · split <;> omega
theorem cl_int (n : Int) : (cl n : Int) = if n < 1 then 1 else if 1024 < n then 1024 else n := by
  unfold cl
  split
  · rfl
  · split
    · rfl
    · omega
theorem mk_row {H : Hp} {m : Nat} (h1 : 1 ≤ m) (h2 : m ≤ 1024) : mkSlR [.int .i64 0] 1 8 H (I (m : Int)) (I (m : Int)) = some (.sl H.n 0 1 m (some m), H.new (.cells (zrow [.int .i64 0] (m * 1)) true)) := by
  have a : (0 : Int) ≤ m := by omega
  have b : Nat.ble m 9223372036854775807 = true := Nat.ble_eq_true_of_le (by omega)
  have c : Nat.ble (8 * m) 281474976710656 = true := Nat.ble_eq_true_of_le (by omega)
  simp [mkSlR, intA, a, b, c]
theorem NewG_sp {H : Hp} {n : Int} {K : AV → Hp → Prop} (hK : ∀ H', Dq H' (H.n + 1) (s0 H.n (cl n)) → H'.n = H.n + 2 → (∀ j, j < H.n → H'.get j = H.get j) → K (.ptr (H.n + 1) 0) H') : callK Try.prog σ n_deque_New [I n] H K := by
  have hc := cl_in n
  have hci := cl_int n
  refine deque_New.run ?_
  have e1 : maxA [I 1, I n] = some (I (if n < 1 then 1 else n)) := by
    simp [maxA, toI, maxStep]; split <;> split <;> omega
  have e2 : minA [I (if n < 1 then 1 else n), I 1024] = some (I (cl n : Int)) := by
    rw [hci]
    simp [minA, toI, minStep]
    by_cases h1 : n < 1
    · rw [if_pos h1, if_pos h1]; simp
    · rw [if_neg h1, if_neg h1]
  have e3 := mk_row (H := H) hc.1 hc.2
  simp only [e1, e2, e3, bnd_some]
  have e4 : ∀ x : AV, x.cells = [x] → x.isAny = false → bldR (AV.lit (.slice none 0 0) :: I 0 :: I 0 :: (opl (fun _ => none) ++ [I 0, I 0, Bo false, Bo false])) [(0, 1, x)] = some (x :: I 0 :: I 0 :: (opl (fun _ => none) ++ [I 0, I 0, Bo false, Bo false])) := by
    intro x hx ha
    simp [bldR, hx, ha, beqN, bleN]
  have e5 := e4 (.sl H.n 0 1 (cl n) (some (cl n))) rfl rfl
  have e6 : opl (fun _ => none) = List.replicate 65 (AV.lit (.pointer none)) := rfl
  rw [e6] at e5
  simp only [List.replicate] at e5
  erw [e5]
  simp only [bnd_some, boxK_agg]
  have hn : (H.new (Blk.cells (zrow [.int .i64 0] (cl n * 1)) true)).n = H.n + 1 := by simp
  rw [hn]
  refine hK _ ?_ (by simp) ?_
  · refine ⟨?_, ?_, ?_, ?_, by simp, by simp [s0]; omega, by simp [s0]⟩
    · simp [dqc, hdc, lsc, s0]; rfl
    · simp [s0, zrow0]
    · intro w o _ ho; simp [s0] at ho
    · intro w _ o _ _ _ ho; simp [s0] at ho
  · intro j hj
    have a : j ≠ H.n := by omega
    have b : j ≠ H.n + 1 := by omega
    simp [a, b]
def rs0 (ip n : Nat) : RS := ⟨ip, List.replicate n 0, 0, 0, fun _ => z6, 0, 0, false, false⟩
theorem RNew_sp {H : Hp} {n : Int} {K : AV → Hp → Prop} (hK : ∀ H', Rq H' (H.n + 1) (rs0 H.n (cl n)) → H'.n = H.n + 2 → (∀ j, j < H.n → H'.get j = H.get j) → K (.ptr (H.n + 1) 0) H') : callK Try.prog σ n_ref18_NewDeque [I n] H K := by
  have hc := cl_in n
  have hci := cl_int n
  have main : ref18_NewDeque.J1 σ K (I (cl n : Int)) H := by
    refine ref18_NewDeque.J1_step ?_
    simp only [mk_row hc.1 hc.2, bnd_some]
    have hz : (rdc ⟨0, [], 0, 0, fun _ => z6, 0, 0, false, false⟩) = I 0 :: I 0 :: I 0 :: .sl 0 0 1 0 (some 0) :: ((rows6 fun _ => z6).flatten ++ [I 0, I 0, Bo false, Bo false]) := rfl
    have e4 : ∀ x y : AV, x.cells = [x] → x.isAny = false → y.cells = [y] → y.isAny = false → ∀ l : List AV, bldR (I 0 :: I 0 :: I 0 :: AV.lit (.slice none 0 0) :: l) [(0, 1, x), (3, 1, y)] = some (x :: I 0 :: I 0 :: y :: l) := by
      intro x y hx ha hy hb l
      simp [bldR, hx, ha, hy, hb, beqN, bleN]
    erw [e4 (I (cl n : Int)) (.sl H.n 0 1 (cl n) (some (cl n))) rfl rfl rfl rfl]
    simp only [bnd_some, boxK_agg]
    have hn : (H.new (Blk.cells (zrow [.int .i64 0] (cl n * 1)) true)).n = H.n + 1 := by simp
    rw [hn]
    refine hK _ ?_ (by simp) ?_
    · refine ⟨?_, ?_, by simp, by simp [rs0]; omega, by simp [rs0]⟩
      · have : (rdc (rs0 H.n (cl n))) = I (cl n : Int) :: I 0 :: I 0 :: .sl H.n 0 1 (cl n) (some (cl n)) :: ((rows6 fun _ => z6).flatten ++ [I 0, I 0, Bo false, Bo false]) := by
          simp [rdc, rhd, rls, rs0]
        rw [this]
        simp only [hp_get_new, Hp.n_new, if_true]
        rfl
      · simp [rs0, zrow0]
    · intro j hj
      have a : j ≠ H.n := by omega
      have b : j ≠ H.n + 1 := by omega
      simp [a, b]
  refine ref18_NewDeque.run ?_
  simp only [b_lss, bnd_some, ifB_lit, decide_eq_true_eq]
  by_cases h1 : n < 1
  · rw [if_pos h1] at hci ⊢
    refine ref18_NewDeque.J0_step ?_
    have : ¬ ((1024 : Int) < 1) := by decide
    simp only [b_gtr, bnd_some, this, decide_false, ifB_lit, Bool.false_eq_true, if_false]
    rw [hci] at main
    exact main
  · rw [if_neg h1] at hci ⊢
    refine ref18_NewDeque.J0_step ?_
    simp only [b_gtr, bnd_some, ifB_lit, decide_eq_true_eq]
    by_cases h2 : 1024 < n
    · rw [if_pos h2] at hci ⊢
      rw [hci] at main
      exact main
    · rw [if_neg h2] at hci ⊢
      rw [hci] at main
      exact main
theorem lk0 (ip ip2 n : Nat) (h1 : 1 ≤ n) (h2 : n ≤ 1024) : Lk 0 (s0 ip n) (rs0 ip2 n) := by
  have hn : (s0 ip n).pl.length = n := by simp [s0]
  refine ⟨rfl, rfl, rfl, rfl, rfl, rfl, rfl, by rw [hn]; exact ⟨h1, h2⟩, ⟨Int.le_refl _, Int.le_refl _⟩, ⟨by show (-1 : Int) ≤ 0; decide, Int.le_refl _⟩, .idleO rfl (Int.le_refl _) (by show (0 : Int) - 0 ≤ _; omega), fun w _ => .idleT rfl⟩
theorem Last_sp {H : Hp} {d : Nat} {s : S} {K : AV → Hp → Prop} (h : Dq H d s) (hK : ∀ H', (∀ j, j < H.n → H'.get j = H.get j) → H.n ≤ H'.n → K (.agg (lsc s)) H') : callK Try.prog σ n_deque_Deque_Last [.ptr d 0] H K := by
  refine deque_Deque_Last.run ?_
  have hdn : d ≠ H.n := Nat.ne_of_lt h.dl
  have hl : (lsc s).length = 4 := rfl
  have hone : (lsc s).all AV.one = true := rfl
  have l1 : ldA true 4 (H.new (.cells [I 0, I 0, .lit (.bool false), .lit (.bool false)] true)) (.ptr d (0 + 68)) = some (.agg (lsc s)) := by
    rw [ld_ptr, hp_get_new, if_neg hdn, h.hd, ldO_cells, Nat.zero_add]; exact dq_last s
  have s1 : stA 4 (H.new (.cells [I 0, I 0, .lit (.bool false), .lit (.bool false)] true)) (.ptr H.n 0) (.agg (lsc s)) = some ((H.new (.cells [I 0, I 0, .lit (.bool false), .lit (.bool false)] true)).set H.n (some (.cells (lsc s) true))) := by
    rw [st_agg, hp_get_new, if_pos rfl, if_pos hl, stO_cells, if_pos ⟨by rw [hl]; simp, hone⟩, overlay_all (by rw [hl]; simp)]
  have l2 : ldA true 4 ((H.new (.cells [I 0, I 0, .lit (.bool false), .lit (.bool false)] true)).set H.n (some (.cells (lsc s) true))) (.ptr H.n 0) = some (.agg (lsc s)) := by
    rw [ld_ptr, hp_get_set, if_pos rfl]; rfl
  simp only [allocK_eq, n_ptr, bnd_some, sh_ptr, l1, s1, l2]
  refine hK _ (fun j hj => ?_) (by simp)
  have : j ≠ H.n := by omega
  simp [this]
theorem RLast_sp {H : Hp} {r : Nat} {rs : RS} {K : AV → Hp → Prop} (h : Rq H r rs) (hK : ∀ H', (∀ j, j < H.n → H'.get j = H.get j) → H.n ≤ H'.n → K (.agg (rls rs)) H') : callK Try.prog σ n_ref18_Deque_Last [.ptr r 0] H K := by
  refine ref18_Deque_Last.run ?_
  have hdn : r ≠ H.n := Nat.ne_of_lt h.dl
  have hl : (rls rs).length = 4 := rfl
  have hone : (rls rs).all AV.one = true := rfl
  have l1 : ldA true 4 (H.new (.cells [I 0, I 0, .lit (.bool false), .lit (.bool false)] true)) (.ptr r (0 + 394)) = some (.agg (rls rs)) := by
    rw [ld_ptr, hp_get_new, if_neg hdn, h.hd, ldO_cells, Nat.zero_add]; exact rd_last rs
  have s1 : stA 4 (H.new (.cells [I 0, I 0, .lit (.bool false), .lit (.bool false)] true)) (.ptr H.n 0) (.agg (rls rs)) = some ((H.new (.cells [I 0, I 0, .lit (.bool false), .lit (.bool false)] true)).set H.n (some (.cells (rls rs) true))) := by
    rw [st_agg, hp_get_new, if_pos rfl, if_pos hl, stO_cells, if_pos ⟨by rw [hl]; simp, hone⟩, overlay_all (by rw [hl]; simp)]
  have l2 : ldA true 4 ((H.new (.cells [I 0, I 0, .lit (.bool false), .lit (.bool false)] true)).set H.n (some (.cells (rls rs) true))) (.ptr H.n 0) = some (.agg (rls rs)) := by
    rw [ld_ptr, hp_get_set, if_pos rfl]; rfl
  simp only [allocK_eq, n_ptr, bnd_some, sh_ptr, l1, s1, l2]
  refine hK _ (fun j hj => ?_) (by simp)
  have : j ≠ H.n := by omega
  simp [this]
end Go.Proofs.Ytnloolhaojoimaa.Ev
namespace Go.Proofs.Ytnloolhaojoimaa.Ev
open Go.RowKit
set_option linter.unusedVariables false
set_option linter.unusedSimpArgs false
set_option maxRecDepth 100000
set_option maxHeartbeats 1000000
variable {σ : Sig}
structure AC where
  who : Int
  kind : Int
  x : Int
def encAC (a : AC) : List AV := [I a.who, I a.kind, I a.x]
def acts (l : List AC) : AV := .imm 3 (l.map encAC)
@[simp] theorem len_acts (l : List AC) : lenSl (acts l) = some (I l.length) := by simp [acts]
theorem Lk.up {N N' : Int} {s : S} {rs : RS} (h : Lk N s rs) (hN : N ≤ N') : Lk N' s rs :=
  ⟨h.pl, h.top, h.bot, h.lw, h.lc, h.lr, h.la, h.n, by have := h.t; omega, by have := h.b; omega, h.ow, h.th⟩
theorem eqlast {N : Int} {s : S} {rs : RS} (h : Lk N s rs) : eqAggR [.int .i64, .int .i64, .bool, .bool] .neq (.agg (lsc s)) (.agg (rls rs)) = some (Bo false) := by
  unfold lsc rls
  rw [h.lw, h.lc, h.lr, h.la]
  generalize s.lw = a
  generalize s.lc = b
  generalize s.lr = c
  generalize s.la = d
  cases c <;> cases d <;> simp [eqAggR, isAggA, AV.cells, eqC, tfB]
section
attribute [local irreducible] law20_DequePlays.L0 law20_DequePlays.J1
theorem plays_J1 {K : AV → Hp → Prop} {N : Int} {H : Hp} {d o r b i : Nat} {a : AC} {l : List AC} {s s2 : S} {rs : RS} (h4 : S4 H d o r b (encAC a) s s2 rs) (hk : Lk N s rs) (hN : N ≤ 100000) (hi : i < 1000)
    (next : ∀ H', S3 H' d o r s s2 rs → law20_DequePlays.L0 σ K (acts l) (.ptr d 0) (.ptr o 0) (.ptr r 0) (I ((i + 1 : Nat) : Int)) (.ptr b 0) (Bo true) H') :
    law20_DequePlays.J1 σ K (acts l) (.ptr d 0) (.ptr o 0) (.ptr r 0) (I (i : Int)) (.ptr b 0) (Bo true) H := by
  refine law20_DequePlays.J1_step ?_
  have lb : ldA false 1 H (.ptr b (0 + 0)) = some (I a.who) := by rw [ld_ptr, h4.bx]; rfl
  have ht := hk.t
  have hb := hk.b
  simp only [u_not, bnd_some, ifB_lit, Bool.not_true, Bool.false_eq_true, if_false, sh_ptr, lb]
  refine Busy_sp h4.dq ?_
  simp only [kp_ptr, true_and, lb, bnd_some]
  refine RBusy_sp h4.rq ?_
  rw [hk.busy a.who.toNat]
  simp only [e_boolN, BEq.rfl, Bool.not_true, bnd_some, ifB_lit, Bool.false_eq_true, if_false]
  refine Len_sp h4.dq (wr64 (by omega) (by omega)) ?_
  refine RLen h4.rq (by rw [hk.bot, hk.top]; exact wr64 (by omega) (by omega)) ?_
  have el : (if rs.bot < rs.top then 0 else rs.bot - rs.top) = (if 0 < s.bot - s.top then s.bot - s.top else 0) := by
    rw [hk.bot, hk.top]
    split <;> split <;> omega
  rw [el]
  simp only [b_neq, decide_true, Bool.not_true, bnd_some, ifB_lit, Bool.false_eq_true, if_false]
  refine Last_sp h4.dq fun H1 g1 n1 => ?_
  have h5 := h4.grow g1 n1
  refine RLast_sp h5.rq fun H2 g2 n2 => ?_
  have h6 := h5.grow g2 n2
  rw [eqlast hk]
  simp only [bnd_some, ifB_lit, Bool.false_eq_true, if_false, b_add]
  rw [wr_succ (by omega)]
  exact next H2 h6.three
theorem plays_L0 {K : AV → Hp → Prop} (hK : ∀ H, K (Bo true) H) {l : List AC} (hl : l.length ≤ 200) {d o r : Nat} : ∀ (f i : Nat) (H : Hp) (y10 y11 : AV) (s s2 : S) (rs rs2 : RS), l.length - i = f → i ≤ l.length → S3 H d o r s s2 rs → Lk (3 * i) s rs → Lk (3 * i) s2 rs2 → law20_DequePlays.L0 σ K (acts l) (.ptr d 0) (.ptr o 0) (.ptr r 0) (I (i : Int)) y10 y11 H := by
  intro f
  induction f with
  | zero =>
    intro i H y10 y11 s s2 rs rs2 hf hi h3 hk hk2
    have : i = l.length := by omega
    subst this
    refine law20_DequePlays.L0_step ?_
    simp only [len_acts, bnd_some, b_lss, Int.lt_irrefl, decide_false, ifB_lit, Bool.false_eq_true, if_false]
    exact hK _
  | succ f ih =>
    intro i H y10 y11 s s2 rs rs2 hf hi h3 hk hk2
    have hil : i < l.length := by omega
    have hil' : (i : Int) < l.length := by omega
    obtain ⟨a, ha⟩ : ∃ a, l[i]? = some a := ⟨_, List.getElem?_eq_getElem hil⟩
    have hix : ixaSl 3 (acts l) (I (i : Int)) = some (.ip (encAC a)) := ix_map ha
    have l0 : ldL true 3 (encAC a) = some (.agg (encAC a)) := rfl
    refine law20_DequePlays.L0_step ?_
    simp only [len_acts, bnd_some, b_lss, hil', decide_true, ifB_lit, if_true, hix, ld_ip, l0, allocK_eq]
    have s1 : stA 3 (H.new (.cells [I 0, I 0, I 0] true)) (.ptr H.n 0) (.agg (encAC a)) = some ((H.new (.cells [I 0, I 0, I 0] true)).set H.n (some (.cells (encAC a) true))) := by
      rw [st_agg, hp_get_new, if_pos rfl, if_pos (by rfl), stO_cells, if_pos ⟨by simp [encAC], rfl⟩, overlay_all (by simp [encAC])]
    simp only [s1, bnd_some]
    obtain ⟨H1, hH1⟩ : ∃ H1, H1 = (H.new (.cells [I 0, I 0, I 0] true)).set H.n (some (.cells (encAC a) true)) := ⟨_, rfl⟩
    have h4 : S4 H1 d o r H.n (encAC a) s s2 rs := h3.box (fun j hj => by
      have : j ≠ H.n := by omega
      rw [hH1]; simp [this]) (by rw [hH1]; simp) (by rw [hH1]; simp)
    rw [← hH1]
    generalize H.n = b at h4 ⊢
    clear hH1 s1 h3
    have ob : ∀ (K2 : AV → Hp → Prop), (∀ x H2 s2' rs2' q, S4 H2 d o r b (encAC a) s s2' rs → Lk (3 * i + 1) s2' rs2' → s2'.op 0 = some q → K2 x H2) → callK Try.prog σ n_deque_Deque_Begin [.ptr o 0, I ((0 : Nat) : Int), I 1, I (i : Int)] H1 K2 := by
      intro K2 hK2
      cases hop : s2.op 0 with
      | some q => exact Begin_no h4.oq (.inr (.inr (.inl (by show (s2.op ((0 : Nat) : Int).toNat).isSome = true; rw [Int.toNat_natCast, hop]; rfl)))) (hK2 _ _ s2 rs2 q h4 (hk2.up (by omega)) hop)
      | none =>
        have hg : stepsF ((0 : Nat) : Int) 1 = some n_deque_push1 := rfl
        exact Begin_go h4.oq (by omega) hop hg fun H2 hd hn f => hK2 _ _ _ _ ⟨H1.n, (i : Int), 0, 0, false, .fn n_deque_push1 []⟩ (h4.beginO rfl hd hn f) (hk2.begin (id := H1.n) (by omega) hop hg) (by simp [put])
    refine ob _ fun x H2 s2' rs2' q h5 hk5 hq => ?_
    refine Lk.step (w := 0) hk5 (by omega) h5.oq (by omega) hq fun H3 s2'' hd3 hk6 f3 hi3 hs3 => ?_
    have h6 := h5.stepO hd3 f3 hi3 hs3
    have hk6 : Lk (3 * ((i + 1 : Nat) : Int)) s2'' (rn rs2' 0).2 := hk6.up (by omega)
    have lb : ∀ HH : Hp, HH.get b = some (.cells (encAC a) true) → ldA false 1 HH (.ptr b (0 + 0)) = some (I a.who) ∧ ldA false 1 HH (.ptr b (0 + 1)) = some (I a.kind) ∧ ldA false 1 HH (.ptr b (0 + 2)) = some (I a.x) := fun HH hh => by
      refine ⟨?_, ?_, ?_⟩ <;> (rw [ld_ptr, hh]; rfl)
    obtain ⟨lw3, lk3, lx3⟩ := lb H3 h6.bx
    simp only [sh_ptr, bnd_some, lk3, lw3, lx3, b_neq, ifB_lit]
    have J : ∀ (HH : Hp) (s' : S) (rs' : RS), S4 HH d o r b (encAC a) s' s2'' rs' → Lk (3 * ((i + 1 : Nat) : Int)) s' rs' → law20_DequePlays.J1 σ K (acts l) (.ptr d 0) (.ptr o 0) (.ptr r 0) (I (i : Int)) (.ptr b 0) (Bo true) HH := fun HH s' rs' hh hl' =>
      plays_J1 hh hl' (by omega) (by omega) fun H' h3' => ih (i + 1) H' _ _ s' s2'' rs' _ (by omega) (by omega) h3' hl' hk6
    have num : ∀ (n : Int) (HH : Hp) (K2 : AV → Hp → Prop), K2 (I n) HH → callK Try.prog σ n_law20_num [I n] HH K2 := fun n HH K2 hk => by
      refine law20_num.run ?_
      simpa using hk
    by_cases hk0 : a.kind = 0
    ·
      simp only [hk0, decide_true, Bool.not_true, Bool.false_eq_true, if_false]
      have fin : ∀ (p : Bool × Int × Bool) (HH : Hp) (s' : S) (rs' : RS), S4 HH d o r b (encAC a) s' s2'' rs' → Lk (3 * ((i + 1 : Nat) : Int)) s' rs' →
          bnd (exR (tp p) 0) fun x45 => bnd (exR (tp p) 1) fun x46 => bnd (exR (tp p) 2) fun x47 => bnd (eqBoolR .eql (Bo p.1) x45) fun x48 => ifB x48 (bnd (binR .eql (I p.2.1) x46) fun x49 => ifB x49 (bnd (eqBoolR .eql (Bo p.2.2) x47) fun x50 => law20_DequePlays.J1 σ K (acts l) (.ptr d 0) (.ptr o 0) (.ptr r 0) (I (i : Int)) (.ptr b 0) x50 HH) (law20_DequePlays.J1 σ K (acts l) (.ptr d 0) (.ptr o 0) (.ptr r 0) (I (i : Int)) (.ptr b 0) (Bo false) HH)) (law20_DequePlays.J1 σ K (acts l) (.ptr d 0) (.ptr o 0) (.ptr r 0) (I (i : Int)) (.ptr b 0) (Bo false) HH) := by
        intro p HH s' rs' hh hl'
        simp only [tp, x_tup, List.getElem?_cons_zero, List.getElem?_cons_succ, bnd_some, e_bool, BEq.rfl, ifB_lit, if_true, b_eql, decide_true]
        exact J HH s' rs' hh hl'
      cases hbs : (decide (0 ≤ a.who) && (decide (a.who ≤ 64) && (s.op a.who.toNat).isSome)) with
      | false =>
        refine Step_no h6.dq hbs ?_
        have hbr : (decide (0 ≤ a.who) && (decide (a.who ≤ 64) && !decide ((rs.op a.who.toNat).kd = 0))) = false := by rw [← hk.busy]; exact hbs
        simp only [x_tup, List.getElem?_cons_zero, List.getElem?_cons_succ, bnd_some, sh_ptr, lw3]
        refine RStep_no h6.rq hbr ?_
        exact fin (false, 0, false) H3 s rs h6 (hk.up (by omega))
      | true =>
        simp only [Bool.and_eq_true, decide_eq_true_eq] at hbs
        obtain ⟨w, hw⟩ : ∃ w : Nat, a.who = (w : Int) := ⟨a.who.toNat, by omega⟩
        rw [hw, Int.toNat_natCast] at hbs
        obtain ⟨oo, hoo⟩ := Option.isSome_iff_exists.1 hbs.2.2
        rw [hw]
        refine Lk.step (w := w) hk (by omega) h6.dq (by omega) hoo fun H4 s' hd4 hk7 f4 hi4 hs4 => ?_
        have h7 := h6.stepD hd4 f4 hi4 hs4
        obtain ⟨lw4, lk4, lx4⟩ := lb H4 h7.bx
        rw [hw] at lw4
        have hip : (rn rs w).2.ip = rs.ip := by
          unfold rn
          dsimp only
          repeat' split
          all_goals rfl
        have rr := fun K2 => RStep_rn (σ := σ) (K := K2) h7.rq (show w < 65 by omega) (hk.rb (by omega) hoo)
        generalize rn rs w = P at hk7 hip rr ⊢
        simp only [tp, x_tup, List.getElem?_cons_zero, List.getElem?_cons_succ, bnd_some, sh_ptr, lw4]
        refine rr _ fun H5 hr5 f5 => ?_
        exact fin P.1 H5 s' _ (h7.stepR hr5 f5 hip) (hk7.up (by omega))
    ·
      simp only [hk0, decide_false, Bool.not_false, if_true]
      by_cases hc : a.who < 0 ∨ 64 < a.who ∨ (s.op a.who.toNat).isSome = true ∨ stepsF a.who a.kind = none
      · refine Begin_no h6.dq hc ?_
        refine num _ _ _ ?_
        simp only [kp_ptr, true_and, lw3, lk3, lx3, bnd_some, sh_ptr]
        refine RBegin_no h6.rq ?_ ?_
        · rcases hc with h | h | h | h
          · exact .inl h
          · exact .inr (.inl h)
          · refine .inr (.inr (.inl ?_))
            rw [hk.busy] at h
            simpa using h
          · exact .inr (.inr (.inr h))
        · simp only [b_eql, decide_true, bnd_some]
          exact J H3 s rs h6 (hk.up (by omega))
      · have c1 : ¬ a.who < 0 := fun h => hc (.inl h)
        have c2 : ¬ 64 < a.who := fun h => hc (.inr (.inl h))
        have c3 : ¬ (s.op a.who.toNat).isSome = true := fun h => hc (.inr (.inr (.inl h)))
        have c4 : stepsF a.who a.kind ≠ none := fun h => hc (.inr (.inr (.inr h)))
        obtain ⟨w, hw⟩ : ∃ w : Nat, a.who = (w : Int) := ⟨a.who.toNat, by omega⟩
        rw [hw, Int.toNat_natCast] at c3
        rw [hw] at c4
        have hno : s.op w = none := by
          cases hs : s.op w with
          | none => rfl
          | some _ => rw [hs] at c3; simp at c3
        obtain ⟨g, hg⟩ := Option.ne_none_iff_exists'.1 c4
        rw [hw]
        rw [hw] at lb
        have hw65 : w < 65 := by omega
        have hkd : (rs.op w).kd = 0 := by
          have := hk.busy w
          rw [hno] at this
          simpa using this
        refine Begin_go h6.dq hw65 hno hg fun H4 hd4 hn4 f4 => ?_
        have h7 := h6.beginD (q := ⟨H3.n, a.x, 0, 0, false, .fn g []⟩) rfl hd4 hn4 f4
        obtain ⟨lw4, lk4, lx4⟩ := lb H4 h7.bx
        refine num _ _ _ ?_
        simp only [kp_ptr, true_and, lw4, lk4, lx4, bnd_some, sh_ptr, h7.bx, h6.bx]
        refine RBegin_go h7.rq hw65 hkd hg fun H5 hr5 f5 => ?_
        simp only [b_eql, decide_true, bnd_some]
        exact J H5 _ _ (h7.stepR hr5 f5 rfl) ((hk.begin (id := H3.n) (x := a.x) (by omega) hno hg).up (by omega))
end
end Go.Proofs.Ytnloolhaojoimaa.Ev
namespace Go.Proofs.Ytnloolhaojoimaa.Ev
open Go.RowKit
set_option linter.unusedVariables false
set_option linter.unusedSimpArgs false
set_option maxRecDepth 100000
variable {σ : Sig}
theorem own_s0 {d ip n j : Nat} (h : Own d (s0 ip n) j) : j = d ∨ j = ip := by
  rcases h with h | h | ⟨w, o, hw, ho, h⟩
  · exact .inl h
  · exact .inr h
  · simp [s0] at ho
theorem acts_no : ∀ l : List AC, noIdss (l.map encAC) = true
  | [] => rfl
  | a :: l => by simp only [List.map_cons, noIdss, acts_no l, Bool.and_true]; rfl
theorem DequePlays_good (n : Int) (l : List AC) : ∃ Hf, Good Try.prog σ n_law20_DequePlays [I n, acts l] Hp.empty (Bo true) Hf := by
  refine ⟨Hp.empty, good_by (fun K hK => law20_DequePlays.run (callK_of (alive20 _) ?_)) (by simp only [noIds, noId, acts, Bool.and_true, Bool.true_and]; exact acts_no l) rfl _⟩
  simp only [u_not, bnd_some, ifB_lit, Bool.not_true, Bool.false_eq_true, if_false, len_acts, b_gtr, decide_eq_true_eq]
  split
  · exact hK _
  rename_i hl
  refine NewG_sp fun H1 hd1 n1 g1 => ?_
  refine NewG_sp fun H2 hd2 n2 g2 => ?_
  refine RNew_sp fun H3 hr3 n3 g3 => ?_
  have c1 := cl_in n
  have e0 : Hp.empty.n = 0 := rfl
  have o1 : ∀ j, Own (Hp.empty.n + 1) (s0 Hp.empty.n (cl n)) j → j < H1.n := fun j hj => own_lt hd1 hj
  have hdA : Dq H3 (Hp.empty.n + 1) (s0 Hp.empty.n (cl n)) := (hd1.keep (fun j hj => g2 j (o1 j hj)) (by omega)).keep (fun j hj => g3 j (by have := o1 j hj; omega)) (by omega)
  have hdB : Dq H3 (H1.n + 1) (s0 H1.n (cl 2)) := hd2.keep (fun j hj => g3 j (own_lt hd2 hj)) (by omega)
  refine plays_L0 hK (by omega) _ 0 H3 _ _ (s0 Hp.empty.n (cl n)) (s0 H1.n (cl 2)) (rs0 H2.n (cl n)) (rs0 0 (cl 2)) rfl (Nat.zero_le _) ⟨hdA, hdB, hr3, fun j hj ho => ?_, fun j hj hr => ?_, fun j ho hr => ?_⟩ (lk0 _ _ _ c1.1 c1.2) (lk0 _ _ _ (by decide) (by decide))
  · rcases own_s0 hj with h1 | h1 <;> rcases own_s0 ho with h2 | h2 <;> omega
  · have hr : j = H2.n + 1 ∨ j = H2.n := hr
    rcases own_s0 hj with h1 | h1 <;> rcases hr with h2 | h2 <;> omega
  · have hr : j = H2.n + 1 ∨ j = H2.n := hr
    rcases own_s0 ho with h1 | h1 <;> rcases hr with h2 | h2 <;> omega
theorem v_acts {x : AV} (h : ShV tiT.get T_sl_law20_Act x) : ∃ l : List AC, x = acts l := by
  have h1 := v_one T_sl_law20_Act_is rfl h
  obtain ⟨i, hi, hd, _⟩ := T_sl_law20_Act_is
  obtain ⟨j', hj', hd', hs'⟩ := T_law20_Act_is
  have go : ∀ rows : List (List AV), x = .imm 3 rows → (∀ row ∈ rows, Sh tiT.get [T_law20_Act] row) → ∃ l : List AC, x = acts l := by
    intro rows e hr
    obtain ⟨l, rfl⟩ := rows_m (f := encAC) fun row hrow => by
      have h2 : Sh tiT.get [T_int, T_int, T_int] row := sh_struct hj' hd' (hr row hrow)
      obtain ⟨a, y1, e1, _, h3⟩ := d_int h2
      obtain ⟨b, y2, e2, _, h4⟩ := d_int h3
      obtain ⟨c, y3, e3, _, h5⟩ := d_int h4
      rw [sh_nil h5] at e3
      exact ⟨⟨a, b, c⟩, by rw [e1, e2, e3]; rfl⟩
    exact ⟨l, e⟩
  rcases sh_slice hi hd h1 with ⟨ys, _, _⟩ | ⟨j, rows, ys, hj, e, hr, hl, hm, hs⟩
  · cases h1 with
    | sl h' hd2 he hc hl hm hs => rw [hi] at h'; cases h'; rw [hd] at hd2; cases hd2; rw [hj'] at he; cases he; exact go _ (by rw [hs']) hc
    | _ => simp_all
  · rw [hj'] at hj
    cases hj
    rw [hs'] at e
    cases e
    exact go rows rfl hr
def readP : List Nat := [T_int, T_sl_law20_Act, T_law20_Act]
theorem readP_closed : closedB tiT.get readP = true := by kernel_rfl
theorem DequePlays_walk {H : Type} {enc : TypeId × Value → H} (W : World) (_ : W.ShapedOpen Try.prog) {v0 v1 : Value} {r : Reach} {b0 base : Nat} {spare : Nat → Bool} {held : Bool} {d0 d1 : DataW H} {p0 p1 : List MemPlace}
    (e0 : Value.okWide Try.prog W r b0 T_int v0) (h0 : DataW.Trod enc Try.prog W base spare held T_int v0 d0 p0) (u0 : ∀ n ∈ d0.weights Try.prog T_int, n ≤ reachBytes)
    (e1 : Value.okWide Try.prog W r b0 T_sl_law20_Act v1) (h1 : DataW.Trod enc Try.prog W base spare held T_sl_law20_Act v1 d1 p1) (u1 : ∀ n ∈ d1.weights Try.prog T_sl_law20_Act, n ≤ reachBytes) :
    Calls Try.prog n_law20_DequePlays #[v0, v1] W fun e W' => e = .returned (.bool true) ∧ Below W.heap.size W W' := by
  obtain ⟨σ, hσ⟩ : ∃ σ : Sig, σ.g = none := ⟨⟨fun _ => 0, fun _ => false, fun _ => ⟨#[]⟩, none⟩, rfl⟩
  obtain ⟨x0, r0, s0⟩ := read_arg (P := Try.prog) (ti := tiT.get) (S := readP) (t := T_int) (σ := σ) tiT_ok readP_closed (inB_mem (by kernel_rfl)) e0 h0 u0
  obtain ⟨x1, r1, s1⟩ := read_arg (P := Try.prog) (ti := tiT.get) (S := readP) (t := T_sl_law20_Act) (σ := σ) tiT_ok readP_closed (inB_mem (by kernel_rfl)) e1 h1 u1
  obtain ⟨n, rfl, _⟩ := v_int s0
  obtain ⟨l, rfl⟩ := v_acts s1
  obtain ⟨Hf, hg⟩ := DequePlays_good (σ := σ) n l
  exact law_of_good (relL2 r0 r1) hg fun g h => by rw [hσ] at h; cases h
end Go.Proofs.Ytnloolhaojoimaa.Ev
