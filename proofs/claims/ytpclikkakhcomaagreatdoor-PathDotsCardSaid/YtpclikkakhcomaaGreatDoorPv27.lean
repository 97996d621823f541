/- Loops, taken apart: what runs ahead of the first loop, one round, what runs behind it. -/
import Derived.Test.YtpclikkakhcomaaGreatDoorPv26
set_option linter.unusedVariables false
namespace Go.Pv
open Go

theorem aloop_rounds {P : Program} {tb : Handler} {an : Ann} {fuel : Nat} {hd : Head} {b : Code} {K : KX} : ∀ (k : Nat) (env : Env) (H : Hp), aloop (enterHead hd) (fun env H K => aexec P tb an fuel b env H K) k env H K = headK hd (fun env H => rounds P tb an fuel hd b k env H K) env H
  | 0, env, H => by
    unfold aloop headK
    split <;> rfl
  | k + 1, env, H => by
    unfold aloop headK
    split
    · rfl
    · rename_i e H1 he
      show aexec P tb an fuel b e H1 _ = aexec P tb an fuel b e H1 _
      congr 1
      funext x env H
      cases x
      · exact aloop_rounds k env H
      · rfl
      · rfl

theorem roundsOf_succ {P : Program} {tb : Handler} {an : Ann} {fuel : Nat} {hd : Head} {c : Code} {k : Nat} {env : Env} {H : Hp} {K : KX} : roundsOf P tb an fuel hd c (k + 1) env H K = round P tb an fuel hd c env H (fun env H => roundsOf P tb an fuel hd c k env H K) K := rfl

theorem loopAt_eq {P : Program} {tb : Handler} {an : Ann} {fuel : Nat} {hd : Head} {c : Code} {env : Env} {H : Hp} {K : KX} : loopAt P tb an fuel hd c env H K = headK hd (fun env H => roundsOf P tb an fuel hd c fuel env H K) env H := aloop_rounds ..

end Go.Pv
