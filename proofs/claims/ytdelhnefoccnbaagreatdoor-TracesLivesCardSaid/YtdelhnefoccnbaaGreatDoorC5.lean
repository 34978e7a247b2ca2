/-
  The trees of the contracts, printed by a program of mine off the executor's own run. Conditions: none.
-/
import Derived.Test.YtdelhnefoccnbaaGreatDoorC1
namespace Go.Tt
open Go Go.Sx
set_option maxRecDepth 100000
def p460 : PE := (.pr 45 [(ν 0), (ν 1)])
def e461 : E := (ξ (ν 0) (ν 2) 0)
def e462 : E := (ξ (ν 0) (ν 2) 1)
def e463 : E := (ξ (ν 0) (ν 2) 2)
def e464 : E := (ξ (ν 0) (ν 2) 3)
def e465 : E := (ξ (ν 0) (ν 2) 4)
def e466 : E := (ξ (ν 0) (ν 2) 5)
def e467 : E := (ξ (ν 0) (ν 2) 6)
def e468 : E := (ξ (ν 0) (ν 2) 7)
def q469 : Tree := (α (.pr 31 [e461, e462, e463, e464, e465, e466, e467, e468, (κ 2)]) .ok)
def e470 : E := (χ (ξ e89 e461 0) ο)
def e471 : E := (.bin .ne e463 ο)
def p472 : PE := (γ (sln e463) e1)
def e473 : E := (χ (fn1 20 e463) ο)
def e474 : E := (ξ e93 e461 0)
def p475 : PE := (γ ο e474)
def p476 : PE := (γ e474 (κ 3))
def e477 : E := (δ (κ 3) e474)
def p478 : PE := (γ (π e474 e477) (κ 3))
def p479 : PE := (γ e477 (κ 1000))
def e480 : E := (υ (υ (υ .zt ο 0 e464) (κ 1) 0 e465) (κ 2) 0 e466)
def q481 : Tree := (α (.pr 31 [e461, e462, e463, e464, e465, e466, e467, e468, (κ 7)]) .ok)
def e482 : E := (χ e467 (κ 1))
def e483 : E := (χ e467 (κ 2))
def q484 : Tree := (α (.pr 31 [e461, e462, e463, e464, e465, e466, e467, e468, ο]) .ok)
def q485 : Tree := (β e483 (β (.bin .lt e468 (κ 1)) q481 (β (.bin .lt (κ 999) e468) q481 q484)) q484)
def q486 : Tree := (β e482 (β (.bin .lt e468 e77) q481 (β (.bin .lt e79 e468) q481 q485)) q485)
def p487 : PE := (.pr 81 [e480, e474, e477, (ν 4)])
def q488 : Tree := (α (.pr 31 [e461, e462, e463, e464, e465, e466, e467, e468, (κ 6)]) .ok)
def q489 : Tree := (α p475 (α p476 (α (γ ο e477) (α p478 (α p479 (η (μ p487 (β (ν 4) q469 q488))))))))
def q490 : Tree := (α p475 (α p476 (α (γ ο e477) (α p478 (α p479 (η (μ p487 (β (ν 4) q469 (η (μ (.pr 82 [e480, ο, (κ 3), (ν 5)]) (β (ν 5) q481 q486)))))))))))
def p491 : PE := (.pr 81 [e480, e474, e477, (ν 5)])
def q492 : Tree := (α p475 (α p476 (α (γ ο e477) (α p478 (α p479 (η (μ p491 (β (ν 5) q469 q488))))))))
def q493 : Tree := (α (γ ο e461) (β (χ (ξ e87 e461 0) ο) (β (.bin .ne e462 ο) (β e470 (β e471 q469 q469) (α p472 (η (μ (.same (ν 3) (fn1 20 e463)) (β e473 q469 q469))))) (β e470 (β e471 q469 (α p475 (α p476 (α (γ ο e477) (α p478 (α p479 (η (μ (.pr 81 [e480, e474, e477, (ν 3)]) (β (ν 3) q469 (η (μ (.pr 82 [e480, ο, (κ 3), (ν 4)]) (β (ν 4) q481 q486)))))))))))) (α p472 (η (μ (.same (ν 3) (fn1 20 e463)) (β e473 q489 q490)))))) (α (γ (sln e462) e1) (η (μ (.same (ν 3) (fn1 20 e462)) (β (χ (fn1 20 e462) ο) (β e470 (β e471 q469 q489) (α p472 (η (μ (.same (ν 4) (fn1 20 e463)) (β e473 q492 q492))))) (β e470 (β e471 q469 q490) (α p472 (η (μ (.same (ν 4) (fn1 20 e463)) (β e473 q492 (α p475 (α p476 (α (γ ο e477) (α p478 (α p479 (η (μ p491 (β (ν 5) q469 (η (μ (.pr 82 [e480, ο, (κ 3), (ν 6)]) (β (ν 6) q481 q486))))))))))))))))))))))
def e604 : E := (.bin .le ο (.fn 1008 (ν 3) (ν 4) (υ (υ .zt ο 0 (κ 1)) ο 1 e462) (κ 3)))
def q605 : Tree := (α (.pr 46 [(ν 3), (ν 4), e461, e462, e463, e464, e465, e466, e467, e468, (κ 8)]) .ok)
def e606 : E := (χ (ξ e89 e461 0) (κ 1))
def e607 : E := (υ (υ (υ (υ (υ (υ (υ (υ (υ (υ (υ e88 (κ 3) 0 (κ 3)) (κ 4) 0 (κ 4)) (κ 5) 0 (κ 4)) (κ 6) 0 ο) (κ 7) 0 (κ 3)) (κ 8) 0 (κ 3)) (κ 9) 0 ο) (κ 10) 0 ο) (κ 11) 0 ο) (κ 12) 0 ο) (κ 13) 0 ο)
def e608 : E := (.bin .le ο (.fn 1008 (ν 3) (ν 4) (υ (υ (υ .zt ο 0 (ξ e607 e461 0)) ο 1 e462) ο 2 e463) (κ 3)))
def q609 : Tree := (α (.pr 46 [(ν 3), (ν 4), e461, e462, e463, e464, e465, e466, e467, e468, (κ 4)]) .ok)
def q610 : Tree := (α (.pr 46 [(ν 3), (ν 4), e461, e462, e463, e464, e465, e466, e467, e468, ο]) .ok)
def q611 : Tree := (β (χ (ξ e89 e461 0) (κ 2)) q609 q610)
def q612 : Tree := (β (χ (ξ e89 e461 0) (κ 2)) (β (χ e608 ο) q609 q610) q610)
def q613 : Tree := (β (χ e470 ο) (β e606 (β e608 q605 q611) q612) q610)
def p614 : PE := (γ (ν 4) e6)
def p615 : PE := (.pr 45 [(ν 3), (ν 4)])
def q616 : Tree := (α (.pr 44 [(ν 0), (ν 1), (ν 2), (ν 3), (ν 4), (κ (-1)), (κ 3)]) .ok)
def e617 : E := (χ (.bin .le (ν 2) (κ 1024)) ο)
def q618 : Tree := (α (.pr 44 [(ν 0), (ν 1), (ν 2), (ν 3), (ν 4), (κ (-1)), (κ 7)]) .ok)
def e619 : E := (.bin .lt (ν 5) (ν 4))
def e620 : E := (ξ (ν 3) (ν 5) 0)
def e621 : E := (ξ (ν 3) (ν 5) 1)
def e622 : E := (ξ (ν 3) (ν 5) 2)
def p623 : PE := (γ (ν 5) (κ 500))
def p624 : PE := (γ e62 (ν 4))
def e625 : E := (.fn 1009 (ν 6) (ν 7) (υ (υ .zt ο 0 (κ 1)) ο 1 e621) (κ 3))
def e626 : E := (.fn 1000 (.bin .le ο (.fn 1008 (ν 6) (ν 7) (υ (υ .zt ο 0 (κ 1)) ο 1 e621) (κ 3))) (ν 7) e418 ο)
def e627 : E := (υ (υ (υ .zt ο 0 (ξ e607 e620 0)) ο 1 e621) ο 2 e622)
def e628 : E := (.fn 1000 (.bin .le ο (.fn 1008 e625 e626 e627 (κ 3))) e626 (π e626 (κ 1)) ο)
def q629 : Tree := (α (γ ο (δ (ν 4) e62)) (α (ω (δ (ν 4) e62) (δ (ν 4) (ν 5))) .ok))
def q630 : Tree := (α (ρ e62) (α (γ ο e62) (α p624 (α (γ ο e626) (α (.pr 47 [(ν 3), e62, e625, e626]) q629)))))
def e631 : E := (.fn 1000 (.bin .le ο (.fn 1008 (ν 6) (ν 7) e627 (κ 3))) (ν 7) e418 ο)
def q632 : Tree := (α (ρ e62) (α (γ ο e62) (α p624 (α (.pr 47 [(ν 3), e62, (ν 6), (ν 7)]) q629))))
def q633 : Tree := (β (χ (χ (ξ e89 e620 0) ο) ο) (β (χ (ξ e89 e620 0) (κ 1)) (α (ρ e62) (α (γ ο e62) (α p624 (α (γ ο e631) (α (.pr 47 [(ν 3), e62, (.fn 1009 (ν 6) (ν 7) e627 (κ 3)), e631]) q629))))) q632) q632)
def q634 : Tree := (α (.pr 44 [(ν 0), (ν 1), (ν 2), (ν 3), (ν 4), ο, ο]) .ok)
def p635 : PE := (.pr 44 [(ν 0), (ν 1), (ν 2), (ν 3), (ν 4), (ν 5), (ν 6)])
def q657 : Tree := (α (.pr 67 [(ν 0), (ν 1), (ν 2), (ν 3), (ν 4), (ν 5), (ν 6), (ν 7), (ν 8), (ν 9), ο]) .ok)
def e658 : E := (ξ (ν 3) (ν 10) 0)
def e659 : E := (ξ (ν 3) (ν 10) 1)
def e660 : E := (ξ (ν 3) (ν 10) 2)
def e661 : E := (ξ (ν 3) (ν 10) 3)
def e662 : E := (ξ (ν 3) (ν 10) 4)
def e663 : E := (ξ (ν 3) (ν 10) 5)
def e664 : E := (ξ (ν 3) (ν 10) 6)
def e665 : E := (ξ (ν 3) (ν 10) 7)
def e666 : E := (π (ν 10) (κ 1))
def q667 : Tree := (α (γ ο (δ (ν 4) e666)) (α (ω (δ (ν 4) e666) (δ (ν 4) (ν 10))) .ok))
def q668 : Tree := (α (.pr 69 [(ν 3), (ν 4), (κ 1)]) .ok)
def q669 : Tree := (β (.bin .lt (κ 600) (ν 4)) q668 (α (.pr 70 [(ν 3), ο]) (η (μ p236 (μ (γ (ν 5) (ν 4)) (μ (.pr 70 [(ν 3), (ν 5)]) (β e619 (β (.bin .lt (κ 100) (sln e621)) q668 (β (.bin .lt (κ 100) (sln e622)) q668 (α (ρ e62) (α (γ ο e62) (α p624 (α (.pr 70 [(ν 3), e62]) q629)))))) (α (.pr 69 [(ν 3), (ν 4), ο]) .ok))))))))
def tShpR : Tree := (μ (.tt e23) (μ (ω (ν 2) (ν 1)) (μ p460 (β (.bin .lt e461 (κ 1)) q469 (β (.bin .le (κ 14) e461) q469 (β (.bin .lt e467 ο) q469 (β (.bin .lt (κ 2) e467) q469 (β (χ e467 ο) (β (χ (χ e468 ο) ο) q469 q493) q493))))))))
def tChk : Tree := (μ (.tt e23) (μ (ω (ν 2) (ν 1)) (μ p460 (μ p51 (η (μ (.pr 31 [e461, e462, e463, e464, e465, e466, e467, e468, (ν 5)]) (β e335 (α (.pr 46 [(ν 3), (ν 4), e461, e462, e463, e464, e465, e466, e467, e468, (ν 5)]) .ok) (α (γ ο e461) (α (ω e461 (κ 14)) (β (χ (χ (ξ e87 e461 0) ο) ο) (β (χ (ξ e87 e461 0) (κ 1)) (β e604 q605 (β (χ (ξ e87 e461 0) (κ 2)) (β (χ e470 ο) (β e606 (β e608 q605 q609) q609) q609) q613)) (β (χ (ξ e87 e461 0) (κ 2)) (β (χ e470 ο) (β e606 (β e608 q605 (β (χ e604 ο) q609 q611)) (β (χ e604 ο) q609 q612)) (β (χ e604 ο) q609 q610)) q613)) q613))))))))))
def tCheck : Tree := (μ p51 (μ p614 (μ p615 (μ (ρ (ν 0)) (μ (ρ (ν 1)) (μ (ρ (ν 2)) (β (.bin .lt (κ 500) (ν 4)) q616 (β e85 (β (.bin .le (ν 0) (κ 4096)) (β e10 (β (.bin .le (ν 1) e79) (β e23 (β e617 q618 (α (.pr 47 [(ν 3), ο, .zt, ο]) (η (τ (η (μ p236 (μ (γ (ν 5) (ν 4)) (μ p73 (μ (.pr 47 [(ν 3), (ν 5), (ν 6), (ν 7)]) (β e619 (η (μ (.pr 46 [(ν 6), (ν 7), e620, e621, e622, (ξ (ν 3) (ν 5) 3), (ξ (ν 3) (ν 5) 4), (ξ (ν 3) (ν 5) 5), (ξ (ν 3) (ν 5) 6), (ξ (ν 3) (ν 5) 7), (ν 8)]) (β e295 (α p52 (α p623 (α (.pr 44 [(ν 0), (ν 1), (ν 2), (ν 3), (ν 4), (ν 5), (ν 8)]) .ok))) (α (γ ο e620) (α (ω e620 (κ 14)) (β (χ (χ (ξ e87 e620 0) ο) ο) (β (χ (ξ e87 e620 0) (κ 1)) (β (χ (χ (ξ e89 e620 0) ο) ο) (β (χ (ξ e89 e620 0) (κ 1)) (α (ρ e62) (α (γ ο e62) (α p624 (α (γ ο e628) (α (.pr 47 [(ν 3), e62, (.fn 1009 e625 e626 e627 (κ 3)), e628]) q629))))) q630) q630) q633) q633)))))) q634)))))))))) q618) q618) q618) q618) q618))))))))
def tSame : Tree := (μ p51 (μ p614 (μ p615 (μ (ρ (ν 0)) (μ (ρ (ν 1)) (μ (ρ (ν 2)) (μ p237 (μ (γ (ν 9) e6) (μ (.pr 45 [(ν 8), (ν 9)]) (μ (ρ (ν 5)) (μ (ρ (ν 6)) (μ (ρ (ν 7)) (β (χ (χ (ν 0) (ν 5)) ο) q657 (β (χ (χ (ν 1) (ν 6)) ο) q657 (β (χ (χ (ν 2) (ν 7)) ο) q657 (β (χ (χ (ν 4) (ν 9)) ο) q657 (α (.pr 68 [(ν 3), (ν 8), ο]) (η (μ p238 (μ (γ (ν 10) (ν 4)) (μ (γ (ν 10) (ν 9)) (μ (.pr 68 [(ν 3), (ν 8), (ν 10)]) (β (.bin .lt (ν 10) (ν 4)) (α (ω (ν 10) (ν 9)) (β (χ (.bin .and (χ e658 (ξ (ν 8) (ν 10) 0)) (.bin .and (χ e659 (ξ (ν 8) (ν 10) 1)) (.bin .and (χ e660 (ξ (ν 8) (ν 10) 2)) (.bin .and (χ e661 (ξ (ν 8) (ν 10) 3)) (.bin .and (χ e662 (ξ (ν 8) (ν 10) 4)) (.bin .and (χ e663 (ξ (ν 8) (ν 10) 5)) (.bin .and (χ e664 (ξ (ν 8) (ν 10) 6)) (.bin .and (χ e665 (ξ (ν 8) (ν 10) 7)) (κ 1))))))))) ο) q657 (α (ρ e666) (α (γ ο e666) (α (γ e666 (ν 4)) (α (γ e666 (ν 9)) (α (.pr 68 [(ν 3), (ν 8), e666]) q667))))))) (α (.pr 67 [(ν 0), (ν 1), (ν 2), (ν 3), (ν 4), (ν 5), (ν 6), (ν 7), (ν 8), (ν 9), (κ 1)]) .ok))))))))))))))))))))))))
def tFar : Tree := (μ p51 (μ (ρ (ν 4)) (β (.bin .lt (κ 60) (ν 4)) (β (.bin .le (ν 4) (κ 500)) q668 q669) q669)))
end Go.Tt
namespace Go.Tt
open Go Go.Sx
set_option maxRecDepth 100000
def p670 : PE := (γ (ν 2) (ν 1))
def p671 : PE := (γ (ν 2) (κ 1000))
def q672 : Tree := (α (ρ e58) (α (γ ο e58) (α (γ e58 (ν 2)) (α (.pr 51 [(ν 0), e58, (ν 3)]) q351))))
def q673 : Tree := (α (ρ e350) (α (γ ο e350) (α (γ e350 (ν 2)) (α (.pr 53 [(ν 0), e350, (ν 3), (ν 4), (ν 5)]) (α (γ ο (δ (ν 2) e350)) (α (ω (δ (ν 2) e350) (δ (ν 2) (ν 6))) .ok))))))
def p674 : PE := (.pr 50 [(ν 0), (ν 2), (ν 4), (ν 13)])
def q675 : Tree := (α (.pr 49 [(ν 0), (ν 2), (ν 3), (ν 4), (ν 5), (ν 6), (ν 7), (ν 8), (ν 9), (ν 10), (κ 8)]) .ok)
def e676 : E := (ξ (ν 12) (ν 3) 2)
def p677 : PE := (γ (κ (-1)) (ν 14))
def p678 : PE := (ω (ν 14) e28)
def p679 : PE := (.pr 52 [(ν 0), (ν 2), (κ 3), (ν 4), (ν 5), (ν 14)])
def e680 : E := (χ e676 (κ (-14136)))
def p681 : PE := (γ (κ (-1)) (ν 15))
def p682 : PE := (.pr 52 [(ν 0), (ν 2), (κ 4), (ν 4), (ν 5), (ν 15)])
def e683 : E := (χ (ξ (ν 12) (ν 3) 1) (κ 56))
def q684 : Tree := (α (.pr 49 [(ν 0), (ν 2), (ν 3), (ν 4), (ν 5), (ν 6), (ν 7), (ν 8), (ν 9), (ν 10), (κ 4)]) .ok)
def e685 : E := (χ e676 (κ 12728))
def p686 : PE := (γ (κ (-1)) (ν 17))
def e687 : E := (χ e676 (κ 14136))
def q688 : Tree := (α (.pr 49 [(ν 0), (ν 2), (ν 3), (ν 4), (ν 5), (ν 6), (ν 7), (ν 8), (ν 9), (ν 10), ο]) .ok)
def q689 : Tree := (β e687 (η (μ p686 (μ (ω (ν 17) e28) (μ (.pr 52 [(ν 0), (ν 2), (κ 4), (ν 4), (ν 5), (ν 17)]) (β (.bin .lt (ν 17) ο) q684 q688))))) q688)
def q690 : Tree := (β e687 (η (μ (γ (κ (-1)) (ν 16)) (μ (ω (ν 16) e28) (μ (.pr 52 [(ν 0), (ν 2), (κ 4), (ν 4), (ν 5), (ν 16)]) (β (.bin .lt (ν 16) ο) q684 q688))))) q688)
def q691 : Tree := (β e685 (η (μ (γ (κ (-1)) (ν 16)) (μ (ω (ν 16) e28) (μ (.pr 52 [(ν 0), (ν 2), (κ 3), (ν 4), (ν 5), (ν 16)]) (β (.bin .lt (ν 16) ο) q684 q689))))) q690)
def q692 : Tree := (β e687 (η (μ p681 (μ (ω (ν 15) e28) (μ p682 (β (.bin .lt (ν 15) ο) q684 q688))))) q688)
def q693 : Tree := (β e685 (η (μ p681 (μ (ω (ν 15) e28) (μ (.pr 52 [(ν 0), (ν 2), (κ 3), (ν 4), (ν 5), (ν 15)]) (β (.bin .lt (ν 15) ο) q684 q690))))) q692)
def q694 : Tree := (β e683 (η (μ (.pr 50 [(ν 0), (ν 2), (ν 4), (ν 15)]) (β e283 q684 q691))) q693)
def p695 : PE := (.pr 52 [(ν 0), (ν 2), (κ 4), (ν 4), (ν 5), (ν 14)])
def q696 : Tree := (β e687 (η (μ p677 (μ p678 (μ p695 (β (.bin .lt (ν 14) ο) q684 q688))))) q688)
def q697 : Tree := (β e685 (η (μ p677 (μ p678 (μ p679 (β (.bin .lt (ν 14) ο) q684 q692))))) q696)
def q698 : Tree := (β e683 (η (μ (.pr 50 [(ν 0), (ν 2), (ν 4), (ν 14)]) (β e282 q684 q693))) q697)
def q699 : Tree := (β e680 (η (μ p677 (μ p678 (μ p695 (β e244 q675 q694))))) q698)
def p700 : PE := (γ (κ (-1)) (ν 13))
def p701 : PE := (ω (ν 13) e28)
def p702 : PE := (.pr 52 [(ν 0), (ν 2), (κ 3), (ν 4), (ν 5), (ν 13)])
def p703 : PE := (.pr 52 [(ν 0), (ν 2), (κ 4), (ν 4), (ν 5), (ν 13)])
def tMade : Tree := (μ (.tt e23) (μ p670 (μ p671 (μ p460 (α (.pr 51 [(ν 0), ο, (ν 3)]) (η (μ p51 (μ (γ (ν 4) (ν 2)) (μ (.pr 51 [(ν 0), (ν 4), (ν 3)]) (β (.bin .lt (ν 4) (ν 2)) (α (ω (ν 4) (ν 1)) (β (χ (ξ (ν 0) (ν 4) 0) (κ 1)) (β (χ (ξ (ν 0) (ν 4) 1) (ν 3)) (α (.pr 50 [(ν 0), (ν 2), (ν 3), (κ 1)]) .ok) q672) q672)) (α (.pr 50 [(ν 0), (ν 2), (ν 3), ο]) .ok)))))))))))
def tFind : Tree := (μ (.tt e23) (μ p670 (μ p671 (μ p460 (α (.pr 53 [(ν 0), ο, (ν 3), (ν 4), (ν 5)]) (η (μ p72 (μ (γ (ν 6) (ν 2)) (μ (.pr 53 [(ν 0), (ν 6), (ν 3), (ν 4), (ν 5)]) (β (.bin .lt (ν 6) (ν 2)) (α (ω (ν 6) (ν 1)) (β (χ (ξ (ν 0) (ν 6) 0) (ν 3)) (β (χ (ξ (ν 0) (ν 6) 1) (ν 4)) (β (χ (ξ (ν 0) (ν 6) 2) (ν 5)) (α (γ (κ (-1)) (ν 6)) (α (ω (ν 6) e28) (α (.pr 52 [(ν 0), (ν 2), (ν 3), (ν 4), (ν 5), (ν 6)]) .ok))) q673) q673) q673)) (α (ω (κ (-1)) e28) (α (.pr 52 [(ν 0), (ν 2), (ν 3), (ν 4), (ν 5), (κ (-1))]) .ok))))))))))))
def tAft : Tree := (μ (.tt e23) (μ p670 (μ p671 (μ p460 (μ (ρ (ν 3)) (μ (γ (sln (ν 4)) e1) (μ p74 (μ (ρ (ν 6)) (μ (ρ (ν 7)) (μ (ρ (ν 8)) (μ (ρ (ν 9)) (μ p383 (η (μ (.pr 31 [(ν 3), (ν 4), (ν 5), (ν 6), (ν 7), (ν 8), (ν 9), (ν 10), (ν 11)]) (β (χ e274 ο) (α (.pr 49 [(ν 0), (ν 2), (ν 3), (ν 4), (ν 5), (ν 6), (ν 7), (ν 8), (ν 9), (ν 10), (ν 11)]) .ok) (τ (μ (.pr 80 [(ν 12)]) (α p3 (α (ω (ν 3) (κ 14)) (β (χ (ξ (ν 12) (ν 3) 1) (κ (-56))) (η (μ p674 (β (ν 13) q675 (β (χ e676 (κ (-12728))) (η (μ p677 (μ p678 (μ p679 (β e244 q675 (β e680 (η (μ p681 (μ (ω (ν 15) e28) (μ p682 (β (.bin .le ο (ν 15)) q675 (β e683 (η (μ (.pr 50 [(ν 0), (ν 2), (ν 4), (ν 16)]) (β (χ (ν 16) ο) q684 (β e685 (η (μ p686 (μ (ω (ν 17) e28) (μ (.pr 52 [(ν 0), (ν 2), (κ 3), (ν 4), (ν 5), (ν 17)]) (β (.bin .lt (ν 17) ο) q684 (β e687 (η (μ (γ (κ (-1)) (ν 18)) (μ (ω (ν 18) e28) (μ (.pr 52 [(ν 0), (ν 2), (κ 4), (ν 4), (ν 5), (ν 18)]) (β (.bin .lt (ν 18) ο) q684 q688))))) q688)))))) q689)))) q691)))))) q694)))))) q699)))) (β (χ e676 (κ (-12728))) (η (μ p700 (μ p701 (μ p702 (β e242 q675 q699))))) (β e680 (η (μ p700 (μ p701 (μ p703 (β e242 q675 q698))))) (β e683 (η (μ p674 (β (χ (ν 13) ο) q684 q697))) (β e685 (η (μ p700 (μ p701 (μ p702 (β (.bin .lt (ν 13) ο) q684 q696))))) (β e687 (η (μ p700 (μ p701 (μ p703 (β (.bin .lt (ν 13) ο) q684 q688))))) q688)))))))))))))))))))))))))
def tRCheck : Tree := (μ p51 (μ p614 (μ p615 (μ (ρ (ν 0)) (μ (ρ (ν 1)) (μ (ρ (ν 2)) (β (.bin .lt (κ 500) (ν 4)) q616 (β e85 (β (.bin .le (ν 0) (κ 4096)) (β e10 (β (.bin .le (ν 1) e79) (β e23 (β e617 q618 (α (.pr 48 [(ν 3), ο]) (η (μ p236 (μ (γ (ν 5) (ν 4)) (μ (.pr 48 [(ν 3), (ν 5)]) (β e619 (α (γ (ν 5) (κ 1000)) (α (ρ e620) (α (γ (sln e621) e1) (α (γ (sln e622) e1) (α (ρ (ξ (ν 3) (ν 5) 3)) (α (ρ (ξ (ν 3) (ν 5) 4)) (α (ρ (ξ (ν 3) (ν 5) 5)) (α (ρ (ξ (ν 3) (ν 5) 6)) (α (ρ (ξ (ν 3) (ν 5) 7)) (η (μ (.pr 49 [(ν 3), (ν 5), e620, e621, e622, (ξ (ν 3) (ν 5) 3), (ξ (ν 3) (ν 5) 4), (ξ (ν 3) (ν 5) 5), (ξ (ν 3) (ν 5) 6), (ξ (ν 3) (ν 5) 7), (ν 6)]) (β (χ e83 ο) (α p52 (α p623 (α p635 .ok))) (α (ρ e62) (α (γ ο e62) (α p624 (α (.pr 48 [(ν 3), e62]) q629)))))))))))))))) q634))))))) q618) q618) q618) q618) q618))))))))
end Go.Tt
namespace Go.Tt
open Go Go.Sx Go.Lib Go.Sf
theorem colAr {k : Int} (h1 : 1 ≤ k) (h2 : k ≤ 13) : (tupd (tupd (tupd (tupd (tupd (tupd (tupd (tupd (tupd (tupd (tupd (tupd (tupd (tupd (fun _ _ => 0) 0 0 0) 1 0 1) 2 0 2) 3 0 2) 4 0 2) 5 0 2) 6 0 2) 7 0 2) 8 0 2) 9 0 0) 10 0 0) 11 0 0) 12 0 0) 13 0 2) k 0 = ((kar k.toNat : Nat) : Int) := by
  have : k = 1 ∨ k = 2 ∨ k = 3 ∨ k = 4 ∨ k = 5 ∨ k = 6 ∨ k = 7 ∨ k = 8 ∨ k = 9 ∨ k = 10 ∨ k = 11 ∨ k = 12 ∨ k = 13 := by omega
  rcases this with rfl | rfl | rfl | rfl | rfl | rfl | rfl | rfl | rfl | rfl | rfl | rfl | rfl <;> decide
theorem colNm {k : Int} (h1 : 1 ≤ k) (h2 : k ≤ 13) : (tupd (tupd (tupd (tupd (tupd (tupd (tupd (tupd (tupd (tupd (tupd (tupd (tupd (tupd (fun _ _ => 0) 0 0 0) 1 0 0) 2 0 0) 3 0 1) 4 0 1) 5 0 2) 6 0 0) 7 0 2) 8 0 2) 9 0 0) 10 0 0) 11 0 0) 12 0 0) 13 0 0) k 0 = ((knm k.toNat : Nat) : Int) := by
  have : k = 1 ∨ k = 2 ∨ k = 3 ∨ k = 4 ∨ k = 5 ∨ k = 6 ∨ k = 7 ∨ k = 8 ∨ k = 9 ∨ k = 10 ∨ k = 11 ∨ k = 12 ∨ k = 13 := by omega
  rcases this with rfl | rfl | rfl | rfl | rfl | rfl | rfl | rfl | rfl | rfl | rfl | rfl | rfl <;> decide
theorem colOf {k : Int} (h1 : 1 ≤ k) (h2 : k ≤ 13) : (tupd (tupd (tupd (tupd (tupd (tupd (tupd (tupd (tupd (tupd (tupd (tupd (tupd (tupd (fun _ _ => 0) 0 0 0) 1 0 0) 2 0 0) 3 0 3) 4 0 4) 5 0 4) 6 0 0) 7 0 3) 8 0 3) 9 0 0) 10 0 0) 11 0 0) 12 0 0) 13 0 0) k 0 = kof k.toNat := by
  have : k = 1 ∨ k = 2 ∨ k = 3 ∨ k = 4 ∨ k = 5 ∨ k = 6 ∨ k = 7 ∨ k = 8 ∨ k = 9 ∨ k = 10 ∨ k = 11 ∨ k = 12 ∨ k = 13 := by omega
  rcases this with rfl | rfl | rfl | rfl | rfl | rfl | rfl | rfl | rfl | rfl | rfl | rfl | rfl <;> decide
theorem colNum {k : Int} (h1 : 1 ≤ k) (h2 : k ≤ 13) : (tupd (tupd (tupd (tupd (tupd (tupd (tupd (tupd (tupd (tupd (tupd (tupd (tupd (tupd (fun _ _ => 0) 0 0 0) 1 0 3) 2 0 0) 3 0 2) 4 0 0) 5 0 0) 6 0 0) 7 0 1) 8 0 2) 9 0 1) 10 0 0) 11 0 1) 12 0 3) 13 0 0) k 0 = ((knum k.toNat : Nat) : Int) := by
  have : k = 1 ∨ k = 2 ∨ k = 3 ∨ k = 4 ∨ k = 5 ∨ k = 6 ∨ k = 7 ∨ k = 8 ∨ k = 9 ∨ k = 10 ∨ k = 11 ∨ k = 12 ∨ k = 13 := by omega
  rcases this with rfl | rfl | rfl | rfl | rfl | rfl | rfl | rfl | rfl | rfl | rfl | rfl | rfl <;> decide
theorem kar_le (k : Nat) : kar k ≤ 2 := by unfold kar; split <;> omega
theorem knm_le (k : Nat) : knm k ≤ 2 := by unfold knm; split <;> omega
theorem knum_le (k : Nat) : knum k ≤ 3 := by unfold knum; split <;> omega
def T3 (x y z : Int) : Tb := tupd (tupd (tupd (fun _ _ => 0) 0 0 x) 1 0 y) 2 0 z
theorem t3_0 (x y z : Int) : T3 x y z 0 0 = x := by simp [T3, tupd]
theorem t3_1 (x y z : Int) : T3 x y z 1 0 = y := by simp [T3, tupd]
theorem t3_2 (x y z : Int) : T3 x y z 2 0 = z := by simp [T3, tupd]
theorem any3 {x y z C b : Int} (h : AnyP (T3 x y z) C (3 - C) b) (h0 : 0 ≤ C) : b ≠ 0 ↔ (C < 1 ∧ x ≠ 0) ∨ (C < 2 ∧ y ≠ 0) ∨ (C < 3 ∧ z ≠ 0) := by
  unfold AnyP at h
  rw [h]
  constructor
  · rintro ⟨j, h1, h2, h3⟩
    have : j = 0 ∨ j = 1 ∨ j = 2 := by omega
    rcases this with rfl | rfl | rfl
    · rw [t3_0] at h3; exact .inl ⟨by omega, h3⟩
    · rw [t3_1] at h3; exact .inr (.inl ⟨by omega, h3⟩)
    · rw [t3_2] at h3; exact .inr (.inr ⟨by omega, h3⟩)
  · rintro (⟨h1, h2⟩ | ⟨h1, h2⟩ | ⟨h1, h2⟩)
    · exact ⟨0, by omega, by omega, by rw [t3_0]; exact h2⟩
    · exact ⟨1, by omega, by omega, by rw [t3_1]; exact h2⟩
    · exact ⟨2, by omega, by omega, by rw [t3_2]; exact h2⟩
theorem big3 {x y z b : Int} (h : BigA (T3 x y z) 0 3 b) : b ≠ 0 ↔ Big x ∨ Big y ∨ Big z := by
  unfold BigA at h
  rw [h]
  constructor
  · rintro ⟨j, h1, h2, h3⟩
    have : j = 0 ∨ j = 1 ∨ j = 2 := by omega
    rcases this with rfl | rfl | rfl
    · rw [t3_0] at h3; exact .inl h3
    · rw [t3_1] at h3; exact .inr (.inl h3)
    · rw [t3_2] at h3; exact .inr (.inr h3)
  · rintro (h2 | h2 | h2)
    · exact ⟨0, by omega, by omega, by rw [t3_0]; exact h2⟩
    · exact ⟨1, by omega, by omega, by rw [t3_1]; exact h2⟩
    · exact ⟨2, by omega, by omega, by rw [t3_2]; exact h2⟩
structure OkF (k a m x y z w n : Int) : Prop where
  k1 : 1 ≤ k
  k13 : k ≤ 13
  ar : kar k.toNat = 0 ↔ a = 0
  nm : knm k.toNat = 0 ↔ m = 0
  a16 : (sdec a).length ≤ 16
  m16 : (sdec m).length ≤ 16
  w : w = 0 ∨ w = 1 ∨ w = 2
theorem okF {k a m x y z w n : Int} (h : OkP k a m x y z w n) : OkF k a m x y z w n := by
  unfold OkP stepE at h
  split at h
  · cases h
  · rename_i h1
    split at h
    · cases h
    · rename_i h2
      split at h
      · cases h
      · rename_i h3
        have e1 : ∀ {p q : Prop}, ¬ (p ∧ ¬ q) → p → q := fun h hp => Classical.byContradiction fun hq => h ⟨hp, hq⟩
        have ha : kar k.toNat = 0 → a = 0 := fun hk => Classical.byContradiction fun ha => h2 (.inl ⟨hk, sdec_ne.2 ha⟩)
        have hm : knm k.toNat = 0 → m = 0 := fun hk => Classical.byContradiction fun ha => h2 (.inr (.inl ⟨hk, sdec_ne.2 ha⟩))
        have hA : kar k.toNat ≠ 0 → NameP (sdec a) := e1 fun hh => h3 (.inl hh)
        have hM : knm k.toNat ≠ 0 → NameP (sdec m) := e1 fun hh => h3 (.inr hh)
        have ne : ∀ {b : Int}, NameP (sdec b) → b ≠ 0 := fun hb e => by
          subst e
          have := hb.1
          simp [sdec_0] at this
        refine ⟨by omega, by omega, ⟨ha, fun e => Classical.byContradiction fun hk => ne (hA hk) e⟩, ⟨hm, fun e => Classical.byContradiction fun hk => ne (hM hk) e⟩, ?_, ?_, by omega⟩
        · by_cases hk : kar k.toNat = 0
          · rw [ha hk, sdec_0]; simp
          · exact (hA hk).2.1
        · by_cases hk : knm k.toNat = 0
          · rw [hm hk, sdec_0]; simp
          · exact (hM hk).2.1
end Go.Tt
namespace Go.Tt
open Go Go.Sx Go.Lib Go.Sf
def RS (f : Tb) : Int → List (List UInt8) → Prop
  | _, [] => True
  | i, w :: l => f i 0 = senc w ∧ RS f (i + 1) l
theorem rs_get {f : Tb} : ∀ {ws : List (List UInt8)} {i : Int}, RS f i ws ↔ ∀ (r : Nat) (w : List UInt8), ws[r]? = some w → f (i + r) 0 = senc w
  | [], i => by simp [RS]
  | v :: l, i => by
    unfold RS
    rw [rs_get]
    constructor
    · rintro ⟨h1, h2⟩ r w hr
      cases r with
      | zero => simp at hr; subst hr; simpa using h1
      | succ r =>
        have := h2 r w (by simpa using hr)
        rw [show i + ((r + 1 : Nat) : Int) = i + 1 + r by omega]; exact this
    · intro h
      refine ⟨by simpa using h 0 v rfl, fun r w hr => ?_⟩
      have := h (r + 1) w (by simpa using hr)
      rw [show i + ((r + 1 : Nat) : Int) = i + 1 + r by omega] at this; exact this
theorem rows_iff {f : Tb} {ws : List (List UInt8)} {n : Int} : RowsS f ws n ↔ n = (ws.length : Nat) ∧ RS f 0 ws := by
  unfold RowsS
  rw [rs_get]
  simp
def b01 (k : Nat) : Int := if k = 0 then 0 else 1
structure WF (f : Tb) (n : Int) (t : Sp) : Prop where
  len : n = 1 + b01 (kar t.k) + b01 (knm t.k) + (knum t.k : Nat) + (if t.w = 1 ∨ t.w = 2 then 2 else 0)
  a : kar t.k ≠ 0 → f 1 0 = senc t.a
  m : knm t.k ≠ 0 → f (1 + b01 (kar t.k)) 0 = senc t.m
  x : 0 < knum t.k → f (1 + b01 (kar t.k) + b01 (knm t.k)) 0 = senc (itoa t.x)
  y : 1 < knum t.k → f (1 + b01 (kar t.k) + b01 (knm t.k) + 1) 0 = senc (itoa t.y)
  z : 2 < knum t.k → f (1 + b01 (kar t.k) + b01 (knm t.k) + 2) 0 = senc (itoa t.z)
  w1 : t.w = 1 → f (1 + b01 (kar t.k) + b01 (knm t.k) + (knum t.k : Nat)) 0 = senc wIs
  w2 : t.w = 2 → f (1 + b01 (kar t.k) + b01 (knm t.k) + (knum t.k : Nat)) 0 = senc wFails
  n : t.w = 1 ∨ t.w = 2 → f (1 + b01 (kar t.k) + b01 (knm t.k) + (knum t.k : Nat) + 1) 0 = senc (itoa t.n)
set_option linter.unusedSimpArgs false in
theorem wf_iff {f : Tb} {n : Int} {t : Sp} (hw : t.w = 0 ∨ t.w = 1 ∨ t.w = 2) : RowsS f t.wd n ↔ f 0 0 = senc (kw.getD t.k []) ∧ WF f n t := by
  have hc := knum_le t.k
  have hc : knum t.k = 0 ∨ knum t.k = 1 ∨ knum t.k = 2 ∨ knum t.k = 3 := by omega
  rw [rows_iff]
  unfold Sp.wd
  constructor
  · rintro ⟨h1, h2⟩
    by_cases ha : kar t.k = 0 <;> by_cases hm : knm t.k = 0 <;> rcases hc with hc | hc | hc | hc <;> rcases hw with hw | hw | hw <;>
      simp [ha, hm, hc, hw, RS, -List.getD_eq_getElem?_getD] at h1 h2 <;> (first | refine ⟨h2.1, ?_⟩ | refine ⟨h2, ?_⟩) <;> constructor <;> simp [ha, hm, hc, hw, b01, h1, h2]
  · rintro ⟨h0, h⟩
    obtain ⟨g1, g2, g3, g4, g5, g6, g7, g8, g9⟩ := h
    by_cases ha : kar t.k = 0 <;> by_cases hm : knm t.k = 0 <;> rcases hc with hc | hc | hc | hc <;> rcases hw with hw | hw | hw <;>
      simp [ha, hm, hc, hw, b01] at g1 g2 g3 g4 g5 g6 g7 g8 g9 <;> simp [ha, hm, hc, hw, RS, *]
structure Rd (s : Int) (f : Tb) (n k : Int) : Prop where
  word : ∃ ws, Bare ws ∧ sdec s = joinW ws ∧ RowsS f ws n
  kind : f 0 0 = senc (kw.getD k.toNat [])
  k1 : 1 ≤ k
  k13 : k ≤ 13
variable {s : Int} {f : Tb} {n k : Int}
theorem Rd.of (h : Rd s f n k) {t : Sp} (hN : t.Norm) (hB : t.NB) (hs : sdec s = t.line) : t.k = k.toNat ∧ WF f n t := by
  obtain ⟨ws, hb, h1, h2⟩ := h.word
  have e : ws = t.wd := joinW_inj hb (wd_bare hN hB) (by rw [← h1, hs]; rfl)
  subst e
  obtain ⟨g1, g2⟩ := (wf_iff hN.w).1 h2
  refine ⟨kw_inj hN.k.2 (by have := h.k13; have := h.k1; omega) ?_, g2⟩
  have := g1.symm.trans h.kind
  have := congrArg sdec this
  rwa [sdec_senc, sdec_senc] at this
section
variable {a m x y z q lo i jn jw e : Int}
end
end Go.Tt
namespace Go.Tt
open Go Go.Sx Go.Lib Go.Sf
theorem tf_iff {M key : Tb} {mm : Int} (h0 : 0 ≤ mm) : 0 ≤ tfind M key 3 mm.toNat 0 ↔ InM M mm (key 0 0) (key 0 1) (key 0 2) := by
  rcases tfind_spec M key 3 mm.toNat 0 with ⟨h1, h2⟩ | ⟨j, h1, h2, h3, h4, _⟩
  · rw [h1]
    refine ⟨fun h => by omega, fun ⟨r, r0, r1, g0, g1, g2⟩ => ?_⟩
    obtain ⟨c, hc, hn⟩ := h2 r.toNat (by omega) (by omega)
    rw [show ((r.toNat : Nat) : Int) = r by omega] at hn
    have : c = 0 ∨ c = 1 ∨ c = 2 := by omega
    rcases this with rfl | rfl | rfl
    · exact absurd g0 hn
    · exact absurd g1 hn
    · exact absurd g2 hn
  · rw [h1]
    exact ⟨fun _ => ⟨j, by omega, by omega, h4 0 (by decide), h4 1 (by decide), h4 2 (by decide)⟩, fun _ => by omega⟩
theorem put_iff {M key : Tb} {mm k a b : Int} (h0 : 0 ≤ mm) :
    InM (mput M mm key 3) (if 0 ≤ tfind M key 3 mm.toNat 0 then mm else mm + 1) k a b ↔ InM M mm k a b ∨ (k = key 0 0 ∧ a = key 0 1 ∧ b = key 0 2) := by
  unfold mput
  by_cases h : 0 ≤ tfind M key 3 mm.toNat 0
  · rw [if_pos h, if_pos h]
    have hk := (tf_iff h0).1 h
    constructor
    · rintro ⟨r, r0, r1, g0, g1, g2⟩
      simp at g0 g1 g2
      exact .inl ⟨r, r0, r1, g0, g1, g2⟩
    · rintro (⟨r, r0, r1, g0, g1, g2⟩ | ⟨rfl, rfl, rfl⟩)
      · exact ⟨r, r0, r1, by simpa using g0, by simpa using g1, by simpa using g2⟩
      · obtain ⟨r, r0, r1, g0, g1, g2⟩ := hk
        exact ⟨r, r0, r1, by simpa using g0, by simpa using g1, by simpa using g2⟩
  · rw [if_neg h, if_neg h]
    constructor
    · rintro ⟨r, r0, r1, g0, g1, g2⟩
      by_cases e : r = mm
      · subst e
        simp at g0 g1 g2
        exact .inr ⟨g0.symm, g1.symm, g2.symm⟩
      · simp [e] at g0 g1 g2
        exact .inl ⟨r, r0, by omega, g0, g1, g2⟩
    · rintro (⟨r, r0, r1, g0, g1, g2⟩ | ⟨rfl, rfl, rfl⟩)
      · have e : r ≠ mm := by omega
        exact ⟨r, r0, by omega, by simp [e, g0], by simp [e, g1], by simp [e, g2]⟩
      · exact ⟨mm, h0, by omega, by simp, by simp, by simp⟩
def kA (a : Int) : Tb := tupd (tupd (fun _ _ => 0) 0 0 1) 0 1 a
def kN (k a m : Int) : Tb := tupd (tupd (tupd (fun _ _ => 0) 0 0 k) 0 1 a) 0 2 m
section
variable {M : Tb} {mm : Int}
theorem find_ar (h0 : 0 ≤ mm) (a : Int) : 0 ≤ tfind M (tupd (tupd (fun _ _ => 0) 0 0 1) 0 1 a) (Int.toNat 3) mm.toNat 0 ↔ InM M mm 1 a 0 := tf_iff h0
theorem find_nm (h0 : 0 ≤ mm) (k a m : Int) : 0 ≤ tfind M (tupd (tupd (tupd (fun _ _ => 0) 0 0 k) 0 1 a) 0 2 m) (Int.toNat 3) mm.toNat 0 ↔ InM M mm k a m := tf_iff h0
theorem put_ar (h0 : 0 ≤ mm) (a : Int) (k a' b : Int) : InM (mput M mm (kA a) 3) (if 0 ≤ tfind M (kA a) 3 mm.toNat 0 then mm else mm + 1) k a' b ↔ InM M mm k a' b ∨ (k = 1 ∧ a' = a ∧ b = 0) := put_iff h0
theorem put_nm (h0 : 0 ≤ mm) (q a m : Int) (k a' b : Int) : InM (mput M mm (kN q a m) 3) (if 0 ≤ tfind M (kN q a m) 3 mm.toNat 0 then mm else mm + 1) k a' b ↔ InM M mm k a' b ∨ (k = q ∧ a' = a ∧ b = m) := put_iff h0
end
section
variable {A N : Prop} {k : Int}
open Classical in
theorem name_e {e : Int} (h : e ≠ 0) : nameE A N k e = e := by unfold nameE; rw [if_pos h]
open Classical in
theorem name_8 (h : (kar k.toNat = 1 ∧ A) ∨ (knm k.toNat = 1 ∧ N)) : nameE A N k 0 = 8 := by unfold nameE; rw [if_neg (by decide), if_pos h]
open Classical in
theorem name_4 (h : ¬ ((kar k.toNat = 1 ∧ A) ∨ (knm k.toNat = 1 ∧ N))) (h2 : (kar k.toNat = 2 ∧ ¬ A) ∨ (knm k.toNat = 2 ∧ ¬ N)) : nameE A N k 0 = 4 := by unfold nameE; rw [if_neg (by decide), if_neg h, if_pos h2]
open Classical in
theorem name_0 (h : ¬ ((kar k.toNat = 1 ∧ A) ∨ (knm k.toNat = 1 ∧ N))) (h2 : ¬ ((kar k.toNat = 2 ∧ ¬ A) ∨ (knm k.toNat = 2 ∧ ¬ N))) : nameE A N k 0 = 0 := by unfold nameE; rw [if_neg (by decide), if_neg h, if_neg h2]
theorem name_irr {N' : Prop} {e : Int} (hn : knm k.toNat = 0) : nameE A N k e = nameE A N' k e := by
  have h1 : ((kar k.toNat = 1 ∧ A) ∨ (knm k.toNat = 1 ∧ N)) ↔ ((kar k.toNat = 1 ∧ A) ∨ (knm k.toNat = 1 ∧ N')) := by rw [hn]; simp
  have h2 : ((kar k.toNat = 2 ∧ ¬ A) ∨ (knm k.toNat = 2 ∧ ¬ N)) ↔ ((kar k.toNat = 2 ∧ ¬ A) ∨ (knm k.toNat = 2 ∧ ¬ N')) := by rw [hn]; simp
  by_cases he : e = 0
  · subst he
    by_cases g1 : (kar k.toNat = 1 ∧ A) ∨ (knm k.toNat = 1 ∧ N)
    · rw [name_8 g1, name_8 (h1.1 g1)]
    · by_cases g2 : (kar k.toNat = 2 ∧ ¬ A) ∨ (knm k.toNat = 2 ∧ ¬ N)
      · rw [name_4 g1 g2, name_4 (fun h => g1 (h1.2 h)) (h2.1 g2)]
      · rw [name_0 g1 g2, name_0 (fun h => g1 (h1.2 h)) (fun h => g2 (h2.2 h))]
  · rw [name_e he, name_e he]
theorem name_step {e : Int} (h : nameE A N k e = 0) : e = 0 := Classical.byContradiction fun he => he (by rw [name_e he] at h; exact h)
end
theorem kar_1 {k : Int} (h : kar k.toNat = 1) : k = 1 := by
  unfold kar at h
  split at h <;> first | omega | cases h
theorem knm_1 {k : Int} (h : knm k.toNat = 1) : k = 3 ∨ k = 4 := by
  unfold knm at h
  split at h <;> first | omega | cases h
theorem made_next {T : Tb} {i a : Int} (h0 : 0 ≤ i) : Made T (i + 1) a ↔ Made T i a ∨ (T i 0 = 1 ∧ T i 1 = a) := by
  constructor
  · rintro ⟨j, j0, j1, g⟩
    by_cases e : j = i
    · subst e; exact .inr g
    · exact .inl ⟨j, j0, by omega, g⟩
  · rintro (⟨j, j0, j1, g⟩ | g)
    · exact ⟨j, j0, by omega, g⟩
    · exact ⟨i, h0, by omega, g⟩
theorem has_next {T : Tb} {i k a m : Int} (h0 : 0 ≤ i) : Has T (i + 1) k a m ↔ Has T i k a m ∨ (T i 0 = k ∧ T i 1 = a ∧ T i 2 = m) := by
  constructor
  · rintro ⟨j, j0, j1, g⟩
    by_cases e : j = i
    · subst e; exact .inr g
    · exact .inl ⟨j, j0, by omega, g⟩
  · rintro (⟨j, j0, j1, g⟩ | g)
    · exact ⟨j, j0, by omega, g⟩
    · exact ⟨i, h0, by omega, g⟩
theorem okI_next {T : Tb} {i : Int} (h : OkI T i) (he : aftR T i = 0) : OkI T (i + 1) := fun j j0 j1 => by
  by_cases e : j = i
  · rw [e]; exact he
  · exact h j j0 (by omega)
theorem map_after {T M : Tb} {i mm e : Int} (h : MapI T i M mm) (hc : ChkM M mm (T i 0) (T i 1) (T i 2) (T i 3) (T i 4) (T i 5) (T i 6) (T i 7) e) : e = aftR T i := by
  unfold ChkM at hc
  rw [hc]
  obtain ⟨_, h1, h2⟩ := h
  unfold aftR aftE
  by_cases hs : stepE (T i 0) (sdec (T i 1)) (sdec (T i 2)) (T i 3) (T i 4) (T i 5) (T i 6) (T i 7) = 0
  · by_cases hn : knm (T i 0).toNat = 0
    · rw [hs]
      have e1 : InM M mm 1 (T i 1) 0 = Made T i (T i 1) := propext (h1 _)
      rw [e1]
      exact name_irr hn
    · have hkof : kof (T i 0).toNat = 3 ∨ kof (T i 0).toNat = 4 := by
        unfold knm at hn
        split at hn
        · rename_i e; rw [e]; exact .inl rfl
        · rename_i e; rw [e]; exact .inr rfl
        · rename_i e; rw [e]; exact .inr rfl
        · rename_i e; rw [e]; exact .inl rfl
        · rename_i e; rw [e]; exact .inl rfl
        · exact absurd rfl hn
      have e1 : InM M mm 1 (T i 1) 0 = Made T i (T i 1) := propext (h1 _)
      have e2 : InM M mm (kof (T i 0).toNat) (T i 1) (T i 2) = Has T i (kof (T i 0).toNat) (T i 1) (T i 2) := propext (h2 _ _ _ hkof)
      rw [e1, e2]
  · rw [name_e hs, name_e hs]
theorem map_begin (T : Tb) : MapI T 0 (fun _ _ => 0) 0 := ⟨fun j _ _ => by omega, fun a => ⟨fun ⟨r, _, _, _⟩ => by omega, fun ⟨r, _, _, _⟩ => by omega⟩, fun k a m _ => ⟨fun ⟨r, _, _, _⟩ => by omega, fun ⟨r, _, _, _⟩ => by omega⟩⟩
theorem map_ar {T M : Tb} {i mm : Int} (h0 : 0 ≤ i) (m0 : 0 ≤ mm) (h : MapI T i M mm) (he : aftR T i = 0) (hk : kar (T i 0).toNat = 1) :
    MapI T (i + 1) (mput M mm (kA (T i 1)) 3) (if 0 ≤ tfind M (kA (T i 1)) 3 mm.toNat 0 then mm else mm + 1) := by
  have hk := kar_1 hk
  obtain ⟨g0, g1, g2⟩ := h
  refine ⟨okI_next g0 he, fun a => ?_, fun k a m hkk => ?_⟩
  · rw [put_ar m0, made_next h0, g1]
    exact or_congr Iff.rfl ⟨fun ⟨_, h, _⟩ => ⟨hk, h.symm⟩, fun ⟨_, h⟩ => ⟨rfl, h.symm, rfl⟩⟩
  · rw [put_ar m0, has_next h0, g2 k a m hkk]
    exact or_congr Iff.rfl ⟨fun ⟨h, _⟩ => by omega, fun ⟨h, _⟩ => by omega⟩
theorem map_nm {T M : Tb} {i mm : Int} (h0 : 0 ≤ i) (m0 : 0 ≤ mm) (h : MapI T i M mm) (he : aftR T i = 0) (hk : knm (T i 0).toNat = 1) :
    MapI T (i + 1) (mput M mm (kN (kof (T i 0).toNat) (T i 1) (T i 2)) 3) (if 0 ≤ tfind M (kN (kof (T i 0).toNat) (T i 1) (T i 2)) 3 mm.toNat 0 then mm else mm + 1) := by
  have hk := knm_1 hk
  have hkof : kof (T i 0).toNat = T i 0 := by rcases hk with hk | hk <;> rw [hk] <;> rfl
  rw [hkof]
  obtain ⟨g0, g1, g2⟩ := h
  refine ⟨okI_next g0 he, fun a => ?_, fun k a m hkk => ?_⟩
  · rw [put_nm m0, made_next h0, g1]
    exact or_congr Iff.rfl ⟨fun ⟨h, _⟩ => by omega, fun ⟨h, _⟩ => by omega⟩
  · rw [put_nm m0, has_next h0, g2 k a m hkk]
    exact or_congr Iff.rfl ⟨fun ⟨h, h2, h3⟩ => ⟨h.symm, h2.symm, h3.symm⟩, fun ⟨h, h2, h3⟩ => ⟨h.symm, h2.symm, h3.symm⟩⟩
theorem map_none {T M : Tb} {i mm : Int} (h0 : 0 ≤ i) (h : MapI T i M mm) (he : aftR T i = 0) (hk : kar (T i 0).toNat ≠ 1) (hn : knm (T i 0).toNat ≠ 1) : MapI T (i + 1) M mm := by
  obtain ⟨g0, g1, g2⟩ := h
  refine ⟨okI_next g0 he, fun a => ?_, fun k a m hkk => ?_⟩
  · rw [made_next h0, g1]
    exact ⟨.inl, fun h => h.elim id fun ⟨h, _⟩ => absurd (by rw [h]; rfl) hk⟩
  · rw [has_next h0, g2 k a m hkk]
    refine ⟨.inl, fun h => h.elim id fun ⟨h, _⟩ => absurd ?_ hn⟩
    rcases hkk with rfl | rfl <;> rw [h] <;> rfl
end Go.Tt
namespace Go.Tt
open Go Go.Sx Go.Lib Go.Sf
theorem aft_eq {T T' : Tb} {i : Int} (h : ∀ r : Int, 0 ≤ r → r ≤ i → ∀ c < 8, T r c = T' r c) (h0 : 0 ≤ i) : aftR T i = aftR T' i := by
  have hm : ∀ a, Made T i a = Made T' i a := fun a => propext ⟨fun ⟨j, j0, j1, g⟩ => ⟨j, j0, j1, by rw [← h j j0 (by omega) 0 (by decide), ← h j j0 (by omega) 1 (by decide)]; exact g⟩, fun ⟨j, j0, j1, g⟩ => ⟨j, j0, j1, by rw [h j j0 (by omega) 0 (by decide), h j j0 (by omega) 1 (by decide)]; exact g⟩⟩
  have hh : ∀ k a m, Has T i k a m = Has T' i k a m := fun k a m => propext ⟨fun ⟨j, j0, j1, g⟩ => ⟨j, j0, j1, by rw [← h j j0 (by omega) 0 (by decide), ← h j j0 (by omega) 1 (by decide), ← h j j0 (by omega) 2 (by decide)]; exact g⟩, fun ⟨j, j0, j1, g⟩ => ⟨j, j0, j1, by rw [h j j0 (by omega) 0 (by decide), h j j0 (by omega) 1 (by decide), h j j0 (by omega) 2 (by decide)]; exact g⟩⟩
  have hi := h i h0 (by omega)
  unfold aftR aftE
  rw [hm, hh, hi 0 (by decide), hi 1 (by decide), hi 2 (by decide), hi 3 (by decide), hi 4 (by decide), hi 5 (by decide), hi 6 (by decide), hi 7 (by decide)]
theorem ok_eq {T T' : Tb} {n : Int} (h : ∀ r : Int, 0 ≤ r → r < n → ∀ c < 8, T r c = T' r c) (ho : OkI T n) : OkI T' n := fun j j0 j1 => by
  rw [← aft_eq (fun r r0 r1 => h r r0 (by omega)) j0]; exact ho j j0 j1
theorem chk_ok {L A K : Int} {T : Tb} {n st : Int} (h : ChkP L A K T n st 0) : n ≤ 500 ∧ right L A K ∧ OkI T n ∧ st = 0 := by
  rcases h with h | h | ⟨g1, g2, h | ⟨_, _, h2, _⟩⟩
  · exact absurd h.2.2 (by decide)
  · exact absurd h.2.2.2 (by decide)
  · exact ⟨g1, g2, h.2.2, h.1⟩
  · exact absurd rfl h2
end Go.Tt
