import Derived.Test.YtagoboblkadelaaGreatZEO
/- own -/
namespace Go.Proofs.YtagoboblkadelaaGreat
open Go.RowKit
theorem dw (ss:List ByteArray) (s:ByteArray):(ae ss s).length≤ss.length+1:=(aX ss s).1
theorem yI {L r:Nat} {ss tt:List ByteArray} {main:ByteArray} {ps:List Sq2} (h:bM L r ss tt main=some ps):ps.length≤2∧∀ p∈ps,p.1.length≤2*ss.length+2∧p.2.length≤2*tt.length+2:=by
 have one:∀ {a b:List ByteArray} {qs:List Sq2},qs=[(a,b)]→a.length≤2*ss.length+2→b.length≤2*tt.length+2→qs.length≤2∧∀ p∈qs,p.1.length≤2*ss.length+2∧p.2.length≤2*tt.length+2:=fun e x y=>by
  subst e;exact⟨qD,fun p hp=>by rw[List.mem_singleton.1 hp];exact⟨x,y⟩⟩
 have two:∀ {a b c d:List ByteArray} {qs:List Sq2},qs=[(a,b),(c,d)]→a.length≤2*ss.length+2→b.length≤2*tt.length+2→c.length≤2*ss.length+2→d.length≤2*tt.length+2→qs.length≤2∧∀ p∈qs,p.1.length≤2*ss.length+2∧p.2.length≤2*tt.length+2:=fun e x y z u=>by
  subst e;refine⟨qD,fun p hp=>?_⟩
  rcases List.mem_cons.1 hp with rfl | hp
  ·exact⟨x,y⟩
  ·rw[List.mem_singleton.1 hp];exact⟨z,u⟩
 have x6:=dj ss main;have x7:=dj tt main;have eE:=iO L bg ss main;have h9:=iO L bR tt main;have g1:=dw (ah ss main) (pa1 main);have g2:=dw (ah ss main) (pa2 main);have g3:=dw (ae (ah ss main) (pa1 main)) (pa2 main);have g4:=dw (ah tt main) (pa1 main);have g5:=dw (ah tt main) (pa2 main);have g6:=dw (ae (ah tt main) (pa1 main)) (pa2 main);have g7:=dw tt (pa1 main);have g8:=dw ss (pa1 main);have g9:=dw ss (paI main);have g10:=dw tt (paI main);have g11:=dw tt main;have g12:=dw ss main;have g13:=dw (fE L bg ss main) main;have g14:=dw (fE L bR tt main) main;have g15:=dw (fE L bg ss main) (paI main);have g16:=dw (fE L bR tt main) (paI main);unfold bM at h
 by_cases c1:r=1
 ·rw[if_pos c1] at h
  split at h<;>cases h
  simp
 rw[if_neg c1] at h
 by_cases c2:r=2
 ·rw[if_pos c2] at h
  split at h<;>cases h
  simp
 rw[if_neg c2] at h
 by_cases c3:r=3
 ·rw[if_pos c3] at h
  split at h<;>cases h
  exact one rfl qB qB
 rw[if_neg c3] at h
 by_cases c4:r=4
 ·rw[if_pos c4] at h
  split at h<;>cases h
  exact two rfl qB qB qB qB
 rw[if_neg c4] at h
 by_cases c5:r=5
 ·rw[if_pos c5] at h
  split at h<;>cases h
  exact two rfl qB qB qB qB
 rw[if_neg c5] at h
 by_cases c6:r=6
 ·rw[if_pos c6] at h
  split at h<;>cases h
  exact one rfl qB qB
 rw[if_neg c6] at h
 by_cases c7:r=7
 ·rw[if_pos c7] at h
  split at h<;>cases h
  exact two rfl qB qB qB qB
 rw[if_neg c7] at h
 by_cases c8:r=8
 ·rw[if_pos c8] at h
  split at h<;>cases h
  exact one rfl qB qB
 rw[if_neg c8] at h
 by_cases c9:r=9
 ·rw[if_pos c9] at h
  split at h<;>cases h
  exact one rfl qB qB
 rw[if_neg c9] at h
 by_cases c10:r=10
 ·rw[if_pos c10] at h
  split at h<;>cases h
  exact one rfl qB qB
 rw[if_neg c10] at h
 by_cases c11:r=11
 ·rw[if_pos c11] at h
  split at h
  ·cases h
   refine one rfl ?_ (by show(ae (fE L bR tt main) (paI main)).length≤_;omega)
   show(if L=5 then ae (fE L bg ss main) main else fE L bg ss main).length≤_
   split<;>omega
  ·split at h<;>cases h
   refine one rfl (by show(ae (fE L bg ss main) (paI main)).length≤_;omega) ?_
   show(if L=5 then ae (fE L bR tt main) main else fE L bR tt main).length≤_
   split<;>omega
 rw[if_neg c11] at h
 by_cases c12:r=12
 ·rw[if_pos c12] at h
  split at h<;>cases h
  exact one rfl (by show(fE L bg ss main).length≤_;omega) (by show(fE L bR tt main).length≤_;omega)
 rw[if_neg c12] at h
 by_cases c14:r=14
 ·rw[if_pos c14] at h
  split at h<;>cases h
  exact two rfl qB qB qB qB
 ·rw[if_neg c14] at h
  cases h
end Go.Proofs.YtagoboblkadelaaGreat
