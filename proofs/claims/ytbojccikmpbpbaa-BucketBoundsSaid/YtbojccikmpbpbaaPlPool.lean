/- The pool in plain words: what went, was lost, and waits. -/
import Derived.Test.YtbojccikmpbpbaaLibA
namespace Go.Proofs.Ytbojccikmpbpbaa
namespace PP
/-- a tick of a pool of which so many wait: what went, was lost, waits -/
def went (cap w c : Int) : Int := min cap (w + c)
def left (room cap w c : Int) : Int := min room (w + c - went cap w c)
def lost (room cap w c : Int) : Int := w + c - went cap w c - left room cap w c
/-- tick by tick: went, lost, waits -/
def run (room cap : Int) (w : Int) : List Int → Int × Int × Int
  | [] => (0, 0, w)
  | c :: l => let r := run room cap (left room cap w c) l
    (went cap w c + r.1, lost room cap w c + r.2.1, r.2.2)
theorem keeps (room cap : Int) (hr : 0 ≤ room) (hc : 1 ≤ cap) : ∀ (l : List Int) (w : Int), 0 ≤ w → w ≤ room → (∀ c ∈ l, 0 ≤ c) →
    0 ≤ (run room cap w l).1 ∧ 0 ≤ (run room cap w l).2.1 ∧ 0 ≤ (run room cap w l).2.2 ∧ (run room cap w l).2.2 ≤ room ∧ (run room cap w l).1 ≤ l.length * cap ∧
      (run room cap w l).1 + (run room cap w l).2.1 + (run room cap w l).2.2 = w + tot l := by
  intro l
  induction l with
  | nil => intro w h0 h1 _; simp [run, tot]; omega
  | cons c l ih =>
    intro w h0 h1 hl
    have hc0 := hl c List.mem_cons_self
    have := ih (left room cap w c) (by unfold left went; omega) (by unfold left; omega) fun d hd => hl d (List.mem_cons_of_mem _ hd)
    simp only [run, tot, List.length_cons, Int.natCast_add, Int.add_mul]
    revert this
    generalize hR : run room cap (left room cap w c) l = R
    intro this
    have e1 : lost room cap w c = w + c - went cap w c - left room cap w c := rfl
    have e2 : went cap w c ≤ cap ∧ 0 ≤ went cap w c := by unfold went; omega
    have e3 : 0 ≤ lost room cap w c := by unfold lost left; omega
    generalize (l.length : Int) * cap = z at *
    simp; omega
/-- with more room no more is lost, as much or more went -/
theorem roomy (room cap more : Int) (hm : 0 ≤ more) (hr : 0 ≤ room) : ∀ (l : List Int) (w v : Int), 0 ≤ w → w ≤ v → w ≤ room → v ≤ room + more → v - w ≤ more → (∀ c ∈ l, 0 ≤ c) →
    (run (room + more) cap v l).2.1 ≤ (run room cap w l).2.1 ∧ (run room cap w l).1 ≤ (run (room + more) cap v l).1 := by
  intro l
  induction l with
  | nil => intros; simp [run]
  | cons c l ih =>
    intro w v h0 h1 h2 h3 h4 hl
    have hc0 := hl c List.mem_cons_self
    have := ih (left room cap w c) (left (room + more) cap v c) (by unfold left went; omega) (by unfold left went; omega) (by unfold left; omega) (by unfold left; omega) (by unfold left went; omega) fun d hd => hl d (List.mem_cons_of_mem _ hd)
    simp only [run]
    revert this
    generalize run room cap (left room cap w c) l = R
    generalize run (room + more) cap (left (room + more) cap v c) l = S
    intro this
    have e1 : went cap w c ≤ went cap v c := by unfold went; omega
    have e2 : lost (room + more) cap v c ≤ lost room cap w c := by unfold lost left went; omega
    omega
/-- with a wider link no more waits, no more is lost -/
theorem wider (room cap more : Int) (hm : 0 ≤ more) (hr : 0 ≤ room) : ∀ (l : List Int) (w v : Int), 0 ≤ v → v ≤ w → w ≤ room → (∀ c ∈ l, 0 ≤ c) →
    (run room (cap + more) v l).2.2 ≤ (run room cap w l).2.2 ∧ (run room (cap + more) v l).2.1 ≤ (run room cap w l).2.1 := by
  intro l
  induction l with
  | nil => intro w v; intros; simp [run]; omega
  | cons c l ih =>
    intro w v h0 h1 h2 hl
    have hc0 := hl c List.mem_cons_self
    have := ih (left room cap w c) (left room (cap + more) v c) (by unfold left went; omega) (by unfold left went; omega) (by unfold left; omega) fun d hd => hl d (List.mem_cons_of_mem _ hd)
    simp only [run]
    revert this
    generalize run room cap (left room cap w c) l = R
    generalize run room (cap + more) (left room (cap + more) v c) l = S
    intro this
    have e2 : lost room (cap + more) v c ≤ lost room cap w c := by unfold lost left went; omega
    omega
theorem run_snoc (room cap : Int) : ∀ (l : List Int) (w x : Int), run room cap w (l ++ [x]) = ((run room cap w l).1 + went cap (run room cap w l).2.2 x, (run room cap w l).2.1 + lost room cap (run room cap w l).2.2 x, left room cap (run room cap w l).2.2 x) := by
  intro l
  induction l with
  | nil => intro w x; simp [run]
  | cons c l ih => intro w x; simp only [List.cons_append, run, ih]; simp [Int.add_assoc]
end PP
end Go.Proofs.Ytbojccikmpbpbaa
