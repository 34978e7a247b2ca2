/-
  The trees of the contracts, printed by a program of mine off the executor's own run. Conditions: none.
-/
import Derived.Test.YtbcclmpmljpbcaaGreatDoorMgCs
namespace Go.Mg
open Go Go.Sx
def tCounts : Tree := (.assume (.col (.var 0) 0 (0) (3)) (.havoc false (.havoc false (.havoc false (.havoc false (.havoc false (.havoc false (.assume (.tt (.bin .le (.lit 0) (.var 6))) (.assume (.tt (.bin .le (.var 6) (.lit 1024))) (.assume (.tt (.bin .le (.lit 0) (.var 1))) (.assume (.tt (.bin .le (.var 1) (.var 6))) (.assume (.tt (.bin .le (.lit 0) (.var 2))) (.assume (.tt (.bin .le (.var 2) (.var 6))) (.assume (.tt (.bin .le (.lit 0) (.var 3))) (.assume (.tt (.bin .le (.var 3) (.var 6))) (.assume (.tt (.bin .le (.lit 0) (.var 4))) (.assume (.tt (.bin .le (.var 4) (.var 6))) (.assume (.tt (.bin .le (.lit 0) (.var 5))) (.assume (.tt (.bin .le (.var 5) (.var 6))) (.branch (.bin .lt (.var 6) (.lit 1024)) (.branch (.bin .eq (.sel (.var 0) (.var 6) 0) (.lit 3)) (.assert (.rng .i64 (.bin .add (.var 4) (.lit 1))) (.branch (.sel (.var 0) (.var 6) 1) (.branch (.bin .eq (.bin .tmod (.var 6) (.lit 16)) (.lit 0)) (.assert (.rng .i64 (.bin .add (.var 5) (.lit 1))) (.assert (.rng .i64 (.bin .add (.var 6) (.lit 1))) (.assert (.tt (.bin .le (.lit 0) (.bin .add (.var 6) (.lit 1)))) (.assert (.tt (.bin .le (.bin .add (.var 6) (.lit 1)) (.lit 1024))) (.assert (.tt (.bin .le (.var 1) (.bin .add (.var 6) (.lit 1)))) (.assert (.tt (.bin .le (.var 2) (.bin .add (.var 6) (.lit 1)))) (.assert (.tt (.bin .le (.var 3) (.bin .add (.var 6) (.lit 1)))) (.assert (.tt (.bin .le (.lit 0) (.bin .add (.var 4) (.lit 1)))) (.assert (.tt (.bin .le (.bin .add (.var 4) (.lit 1)) (.bin .add (.var 6) (.lit 1)))) (.assert (.tt (.bin .le (.lit 0) (.bin .add (.var 5) (.lit 1)))) (.assert (.tt (.bin .le (.bin .add (.var 5) (.lit 1)) (.bin .add (.var 6) (.lit 1)))) (.assert (.tt (.bin .le (.lit 0) (.bin .sub (.lit 1024) (.bin .add (.var 6) (.lit 1))))) (.assert (.tt (.bin .lt (.bin .sub (.lit 1024) (.bin .add (.var 6) (.lit 1))) (.bin .sub (.lit 1024) (.var 6)))) .ok))))))))))))) (.assert (.rng .i64 (.bin .add (.var 6) (.lit 1))) (.assert (.tt (.bin .le (.lit 0) (.bin .add (.var 6) (.lit 1)))) (.assert (.tt (.bin .le (.bin .add (.var 6) (.lit 1)) (.lit 1024))) (.assert (.tt (.bin .le (.var 1) (.bin .add (.var 6) (.lit 1)))) (.assert (.tt (.bin .le (.var 2) (.bin .add (.var 6) (.lit 1)))) (.assert (.tt (.bin .le (.var 3) (.bin .add (.var 6) (.lit 1)))) (.assert (.tt (.bin .le (.lit 0) (.bin .add (.var 4) (.lit 1)))) (.assert (.tt (.bin .le (.bin .add (.var 4) (.lit 1)) (.bin .add (.var 6) (.lit 1)))) (.assert (.tt (.bin .le (.var 5) (.bin .add (.var 6) (.lit 1)))) (.assert (.tt (.bin .le (.lit 0) (.bin .sub (.lit 1024) (.bin .add (.var 6) (.lit 1))))) (.assert (.tt (.bin .lt (.bin .sub (.lit 1024) (.bin .add (.var 6) (.lit 1))) (.bin .sub (.lit 1024) (.var 6)))) .ok)))))))))))) (.assert (.rng .i64 (.bin .add (.var 6) (.lit 1))) (.assert (.tt (.bin .le (.lit 0) (.bin .add (.var 6) (.lit 1)))) (.assert (.tt (.bin .le (.bin .add (.var 6) (.lit 1)) (.lit 1024))) (.assert (.tt (.bin .le (.var 1) (.bin .add (.var 6) (.lit 1)))) (.assert (.tt (.bin .le (.var 2) (.bin .add (.var 6) (.lit 1)))) (.assert (.tt (.bin .le (.var 3) (.bin .add (.var 6) (.lit 1)))) (.assert (.tt (.bin .le (.lit 0) (.bin .add (.var 4) (.lit 1)))) (.assert (.tt (.bin .le (.bin .add (.var 4) (.lit 1)) (.bin .add (.var 6) (.lit 1)))) (.assert (.tt (.bin .le (.var 5) (.bin .add (.var 6) (.lit 1)))) (.assert (.tt (.bin .le (.lit 0) (.bin .sub (.lit 1024) (.bin .add (.var 6) (.lit 1))))) (.assert (.tt (.bin .lt (.bin .sub (.lit 1024) (.bin .add (.var 6) (.lit 1))) (.bin .sub (.lit 1024) (.var 6)))) .ok))))))))))))) (.branch (.bin .eq (.sel (.var 0) (.var 6) 0) (.lit 2)) (.assert (.rng .i64 (.bin .add (.var 3) (.lit 1))) (.branch (.sel (.var 0) (.var 6) 1) (.branch (.bin .eq (.bin .tmod (.var 6) (.lit 16)) (.lit 0)) (.assert (.rng .i64 (.bin .add (.var 5) (.lit 1))) (.assert (.rng .i64 (.bin .add (.var 6) (.lit 1))) (.assert (.tt (.bin .le (.lit 0) (.bin .add (.var 6) (.lit 1)))) (.assert (.tt (.bin .le (.bin .add (.var 6) (.lit 1)) (.lit 1024))) (.assert (.tt (.bin .le (.var 1) (.bin .add (.var 6) (.lit 1)))) (.assert (.tt (.bin .le (.var 2) (.bin .add (.var 6) (.lit 1)))) (.assert (.tt (.bin .le (.lit 0) (.bin .add (.var 3) (.lit 1)))) (.assert (.tt (.bin .le (.bin .add (.var 3) (.lit 1)) (.bin .add (.var 6) (.lit 1)))) (.assert (.tt (.bin .le (.var 4) (.bin .add (.var 6) (.lit 1)))) (.assert (.tt (.bin .le (.lit 0) (.bin .add (.var 5) (.lit 1)))) (.assert (.tt (.bin .le (.bin .add (.var 5) (.lit 1)) (.bin .add (.var 6) (.lit 1)))) (.assert (.tt (.bin .le (.lit 0) (.bin .sub (.lit 1024) (.bin .add (.var 6) (.lit 1))))) (.assert (.tt (.bin .lt (.bin .sub (.lit 1024) (.bin .add (.var 6) (.lit 1))) (.bin .sub (.lit 1024) (.var 6)))) .ok))))))))))))) (.assert (.rng .i64 (.bin .add (.var 6) (.lit 1))) (.assert (.tt (.bin .le (.lit 0) (.bin .add (.var 6) (.lit 1)))) (.assert (.tt (.bin .le (.bin .add (.var 6) (.lit 1)) (.lit 1024))) (.assert (.tt (.bin .le (.var 1) (.bin .add (.var 6) (.lit 1)))) (.assert (.tt (.bin .le (.var 2) (.bin .add (.var 6) (.lit 1)))) (.assert (.tt (.bin .le (.lit 0) (.bin .add (.var 3) (.lit 1)))) (.assert (.tt (.bin .le (.bin .add (.var 3) (.lit 1)) (.bin .add (.var 6) (.lit 1)))) (.assert (.tt (.bin .le (.var 4) (.bin .add (.var 6) (.lit 1)))) (.assert (.tt (.bin .le (.var 5) (.bin .add (.var 6) (.lit 1)))) (.assert (.tt (.bin .le (.lit 0) (.bin .sub (.lit 1024) (.bin .add (.var 6) (.lit 1))))) (.assert (.tt (.bin .lt (.bin .sub (.lit 1024) (.bin .add (.var 6) (.lit 1))) (.bin .sub (.lit 1024) (.var 6)))) .ok)))))))))))) (.assert (.rng .i64 (.bin .add (.var 6) (.lit 1))) (.assert (.tt (.bin .le (.lit 0) (.bin .add (.var 6) (.lit 1)))) (.assert (.tt (.bin .le (.bin .add (.var 6) (.lit 1)) (.lit 1024))) (.assert (.tt (.bin .le (.var 1) (.bin .add (.var 6) (.lit 1)))) (.assert (.tt (.bin .le (.var 2) (.bin .add (.var 6) (.lit 1)))) (.assert (.tt (.bin .le (.lit 0) (.bin .add (.var 3) (.lit 1)))) (.assert (.tt (.bin .le (.bin .add (.var 3) (.lit 1)) (.bin .add (.var 6) (.lit 1)))) (.assert (.tt (.bin .le (.var 4) (.bin .add (.var 6) (.lit 1)))) (.assert (.tt (.bin .le (.var 5) (.bin .add (.var 6) (.lit 1)))) (.assert (.tt (.bin .le (.lit 0) (.bin .sub (.lit 1024) (.bin .add (.var 6) (.lit 1))))) (.assert (.tt (.bin .lt (.bin .sub (.lit 1024) (.bin .add (.var 6) (.lit 1))) (.bin .sub (.lit 1024) (.var 6)))) .ok))))))))))))) (.branch (.bin .eq (.sel (.var 0) (.var 6) 0) (.lit 1)) (.assert (.rng .i64 (.bin .add (.var 2) (.lit 1))) (.branch (.sel (.var 0) (.var 6) 1) (.branch (.bin .eq (.bin .tmod (.var 6) (.lit 16)) (.lit 0)) (.assert (.rng .i64 (.bin .add (.var 5) (.lit 1))) (.assert (.rng .i64 (.bin .add (.var 6) (.lit 1))) (.assert (.tt (.bin .le (.lit 0) (.bin .add (.var 6) (.lit 1)))) (.assert (.tt (.bin .le (.bin .add (.var 6) (.lit 1)) (.lit 1024))) (.assert (.tt (.bin .le (.var 1) (.bin .add (.var 6) (.lit 1)))) (.assert (.tt (.bin .le (.lit 0) (.bin .add (.var 2) (.lit 1)))) (.assert (.tt (.bin .le (.bin .add (.var 2) (.lit 1)) (.bin .add (.var 6) (.lit 1)))) (.assert (.tt (.bin .le (.var 3) (.bin .add (.var 6) (.lit 1)))) (.assert (.tt (.bin .le (.var 4) (.bin .add (.var 6) (.lit 1)))) (.assert (.tt (.bin .le (.lit 0) (.bin .add (.var 5) (.lit 1)))) (.assert (.tt (.bin .le (.bin .add (.var 5) (.lit 1)) (.bin .add (.var 6) (.lit 1)))) (.assert (.tt (.bin .le (.lit 0) (.bin .sub (.lit 1024) (.bin .add (.var 6) (.lit 1))))) (.assert (.tt (.bin .lt (.bin .sub (.lit 1024) (.bin .add (.var 6) (.lit 1))) (.bin .sub (.lit 1024) (.var 6)))) .ok))))))))))))) (.assert (.rng .i64 (.bin .add (.var 6) (.lit 1))) (.assert (.tt (.bin .le (.lit 0) (.bin .add (.var 6) (.lit 1)))) (.assert (.tt (.bin .le (.bin .add (.var 6) (.lit 1)) (.lit 1024))) (.assert (.tt (.bin .le (.var 1) (.bin .add (.var 6) (.lit 1)))) (.assert (.tt (.bin .le (.lit 0) (.bin .add (.var 2) (.lit 1)))) (.assert (.tt (.bin .le (.bin .add (.var 2) (.lit 1)) (.bin .add (.var 6) (.lit 1)))) (.assert (.tt (.bin .le (.var 3) (.bin .add (.var 6) (.lit 1)))) (.assert (.tt (.bin .le (.var 4) (.bin .add (.var 6) (.lit 1)))) (.assert (.tt (.bin .le (.var 5) (.bin .add (.var 6) (.lit 1)))) (.assert (.tt (.bin .le (.lit 0) (.bin .sub (.lit 1024) (.bin .add (.var 6) (.lit 1))))) (.assert (.tt (.bin .lt (.bin .sub (.lit 1024) (.bin .add (.var 6) (.lit 1))) (.bin .sub (.lit 1024) (.var 6)))) .ok)))))))))))) (.assert (.rng .i64 (.bin .add (.var 6) (.lit 1))) (.assert (.tt (.bin .le (.lit 0) (.bin .add (.var 6) (.lit 1)))) (.assert (.tt (.bin .le (.bin .add (.var 6) (.lit 1)) (.lit 1024))) (.assert (.tt (.bin .le (.var 1) (.bin .add (.var 6) (.lit 1)))) (.assert (.tt (.bin .le (.lit 0) (.bin .add (.var 2) (.lit 1)))) (.assert (.tt (.bin .le (.bin .add (.var 2) (.lit 1)) (.bin .add (.var 6) (.lit 1)))) (.assert (.tt (.bin .le (.var 3) (.bin .add (.var 6) (.lit 1)))) (.assert (.tt (.bin .le (.var 4) (.bin .add (.var 6) (.lit 1)))) (.assert (.tt (.bin .le (.var 5) (.bin .add (.var 6) (.lit 1)))) (.assert (.tt (.bin .le (.lit 0) (.bin .sub (.lit 1024) (.bin .add (.var 6) (.lit 1))))) (.assert (.tt (.bin .lt (.bin .sub (.lit 1024) (.bin .add (.var 6) (.lit 1))) (.bin .sub (.lit 1024) (.var 6)))) .ok))))))))))))) (.branch (.bin .eq (.sel (.var 0) (.var 6) 0) (.lit 0)) (.assert (.rng .i64 (.bin .add (.var 1) (.lit 1))) (.branch (.sel (.var 0) (.var 6) 1) (.branch (.bin .eq (.bin .tmod (.var 6) (.lit 16)) (.lit 0)) (.assert (.rng .i64 (.bin .add (.var 5) (.lit 1))) (.assert (.rng .i64 (.bin .add (.var 6) (.lit 1))) (.assert (.tt (.bin .le (.lit 0) (.bin .add (.var 6) (.lit 1)))) (.assert (.tt (.bin .le (.bin .add (.var 6) (.lit 1)) (.lit 1024))) (.assert (.tt (.bin .le (.lit 0) (.bin .add (.var 1) (.lit 1)))) (.assert (.tt (.bin .le (.bin .add (.var 1) (.lit 1)) (.bin .add (.var 6) (.lit 1)))) (.assert (.tt (.bin .le (.var 2) (.bin .add (.var 6) (.lit 1)))) (.assert (.tt (.bin .le (.var 3) (.bin .add (.var 6) (.lit 1)))) (.assert (.tt (.bin .le (.var 4) (.bin .add (.var 6) (.lit 1)))) (.assert (.tt (.bin .le (.lit 0) (.bin .add (.var 5) (.lit 1)))) (.assert (.tt (.bin .le (.bin .add (.var 5) (.lit 1)) (.bin .add (.var 6) (.lit 1)))) (.assert (.tt (.bin .le (.lit 0) (.bin .sub (.lit 1024) (.bin .add (.var 6) (.lit 1))))) (.assert (.tt (.bin .lt (.bin .sub (.lit 1024) (.bin .add (.var 6) (.lit 1))) (.bin .sub (.lit 1024) (.var 6)))) .ok))))))))))))) (.assert (.rng .i64 (.bin .add (.var 6) (.lit 1))) (.assert (.tt (.bin .le (.lit 0) (.bin .add (.var 6) (.lit 1)))) (.assert (.tt (.bin .le (.bin .add (.var 6) (.lit 1)) (.lit 1024))) (.assert (.tt (.bin .le (.lit 0) (.bin .add (.var 1) (.lit 1)))) (.assert (.tt (.bin .le (.bin .add (.var 1) (.lit 1)) (.bin .add (.var 6) (.lit 1)))) (.assert (.tt (.bin .le (.var 2) (.bin .add (.var 6) (.lit 1)))) (.assert (.tt (.bin .le (.var 3) (.bin .add (.var 6) (.lit 1)))) (.assert (.tt (.bin .le (.var 4) (.bin .add (.var 6) (.lit 1)))) (.assert (.tt (.bin .le (.var 5) (.bin .add (.var 6) (.lit 1)))) (.assert (.tt (.bin .le (.lit 0) (.bin .sub (.lit 1024) (.bin .add (.var 6) (.lit 1))))) (.assert (.tt (.bin .lt (.bin .sub (.lit 1024) (.bin .add (.var 6) (.lit 1))) (.bin .sub (.lit 1024) (.var 6)))) .ok)))))))))))) (.assert (.rng .i64 (.bin .add (.var 6) (.lit 1))) (.assert (.tt (.bin .le (.lit 0) (.bin .add (.var 6) (.lit 1)))) (.assert (.tt (.bin .le (.bin .add (.var 6) (.lit 1)) (.lit 1024))) (.assert (.tt (.bin .le (.lit 0) (.bin .add (.var 1) (.lit 1)))) (.assert (.tt (.bin .le (.bin .add (.var 1) (.lit 1)) (.bin .add (.var 6) (.lit 1)))) (.assert (.tt (.bin .le (.var 2) (.bin .add (.var 6) (.lit 1)))) (.assert (.tt (.bin .le (.var 3) (.bin .add (.var 6) (.lit 1)))) (.assert (.tt (.bin .le (.var 4) (.bin .add (.var 6) (.lit 1)))) (.assert (.tt (.bin .le (.var 5) (.bin .add (.var 6) (.lit 1)))) (.assert (.tt (.bin .le (.lit 0) (.bin .sub (.lit 1024) (.bin .add (.var 6) (.lit 1))))) (.assert (.tt (.bin .lt (.bin .sub (.lit 1024) (.bin .add (.var 6) (.lit 1))) (.bin .sub (.lit 1024) (.var 6)))) .ok))))))))))))) (.fail 29))))) .ok))))))))))))))))))))
def tState : Tree := (.assume (.col (.var 0) 0 (0) (0)) (.havoc false (.assume (.tt (.bin .le (.lit 0) (.var 1))) (.assume (.tt (.bin .le (.var 1) (.lit 1024))) (.branch (.bin .lt (.var 1) (.lit 1024)) (.branch (.bin .eq (.bin .eq (.sel (.var 0) (.var 1) 0) (.lit 0)) (.lit 0)) (.branch (.bin .eq (.bin .eq (.bin (.bits 5 .u64) (.sel (.var 0) (.var 1) 0) (.lit 0)) (.lit 0)) (.lit 0)) (.fail 20) (.assert (.rng .i64 (.bin .add (.var 1) (.lit 1))) (.fail 61))) (.assert (.rng .i64 (.bin .add (.var 1) (.lit 1))) (.assert (.tt (.bin .le (.lit 0) (.bin .add (.var 1) (.lit 1)))) (.assert (.tt (.bin .le (.bin .add (.var 1) (.lit 1)) (.lit 1024))) (.assert (.tt (.bin .le (.lit 0) (.bin .sub (.lit 1024) (.bin .add (.var 1) (.lit 1))))) (.assert (.tt (.bin .lt (.bin .sub (.lit 1024) (.bin .add (.var 1) (.lit 1))) (.bin .sub (.lit 1024) (.var 1)))) .ok)))))) .ok)))))
def tFresh : Tree := (.assert (.agr .zt (.kt [0, 0, -1, -1, -1]) (.lit 0) 5) (.havoc true (.havoc false (.assume (.tt (.bin .le (.lit 0) (.var 1))) (.assume (.tt (.bin .le (.var 1) (.lit 1024))) (.assume (.agr (.var 0) (.kt [0, 0, -1, -1, -1]) (.var 1) 5) (.branch (.bin .lt (.var 1) (.lit 1024)) (.assert (.rng .i64 (.bin .add (.var 1) (.lit 1))) (.assert (.tt (.bin .le (.lit 0) (.bin .add (.var 1) (.lit 1)))) (.assert (.tt (.bin .le (.bin .add (.var 1) (.lit 1)) (.lit 1024))) (.assert (.agr (.upd (.upd (.upd (.upd (.upd (.var 0) (.var 1) 0 (.lit 0)) (.var 1) 1 (.lit 0)) (.var 1) 2 (.lit (-1))) (.var 1) 3 (.lit (-1))) (.var 1) 4 (.lit (-1))) (.kt [0, 0, -1, -1, -1]) (.bin .add (.var 1) (.lit 1)) 5) (.assert (.tt (.bin .le (.lit 0) (.bin .sub (.lit 1024) (.bin .add (.var 1) (.lit 1))))) (.assert (.tt (.bin .lt (.bin .sub (.lit 1024) (.bin .add (.var 1) (.lit 1))) (.bin .sub (.lit 1024) (.var 1)))) .ok)))))) (.assert (.agr (.kt [0, 0, -1, -1, -1]) (.var 0) (.lit 1024) 5) (.assert (.agr (.kt [-1, -1, 0]) (.upd (.upd .zt (.lit 0) 0 (.lit (-1))) (.lit 0) 1 (.lit (-1))) (.lit 1) 3) .ok)))))))))
def tVmNew : Tree := .ok
def tAll0 : Tree := (.assume (.ff (.sel (.var 0) (.lit 0) 0)) (.assume (.ff (.sel (.var 0) (.lit 1) 0)) (.assume (.ff (.sel (.var 0) (.lit 2) 0)) (.assume (.ff (.sel (.var 0) (.lit 3) 0)) (.assume (.ff (.sel (.var 0) (.lit 4) 0)) (.assume (.ff (.sel (.var 0) (.lit 5) 0)) (.assume (.ff (.sel (.var 0) (.lit 6) 0)) (.assume (.ff (.sel (.var 0) (.lit 7) 0)) (.assume (.ff (.sel (.var 0) (.lit 8) 0)) (.assume (.ff (.sel (.var 0) (.lit 9) 0)) (.assume (.ff (.sel (.var 0) (.lit 10) 0)) (.assume (.ff (.sel (.var 0) (.lit 11) 0)) (.assume (.ff (.sel (.var 0) (.lit 12) 0)) (.assume (.ff (.sel (.var 0) (.lit 13) 0)) (.assume (.ff (.sel (.var 0) (.lit 14) 0)) (.assume (.ff (.sel (.var 0) (.lit 15) 0)) (.havoc false (.assume (.tt (.bin .le (.lit 0) (.var 1))) (.assume (.tt (.bin .le (.var 1) (.lit 1024))) (.branch (.bin .lt (.var 1) (.lit 1024)) (.assert (.tt (.bin .le (.lit 0) (.bin (.bits 6 .i64) (.var 1) (.lit 64)))) (.assert (.tt (.bin .lt (.bin (.bits 6 .i64) (.var 1) (.lit 64)) (.lit 16))) (.assert (.tt (.bin .lt (.bin (.bits 6 .i64) (.var 1) (.lit 64)) (.lit 352))) (.assert (.tt (.bin .le (.lit 0) (.bin .tmod (.var 1) (.lit 64)))) (.branch (.bin .eq (.bin (.bits 0 .u64) (.bin (.bits 5 .u64) (.sel (.var 0) (.bin (.bits 6 .i64) (.var 1) (.lit 64)) 0) (.bin .tmod (.var 1) (.lit 64))) (.lit 1)) (.lit 1)) (.fail 20) (.assert (.rng .i64 (.bin .add (.var 1) (.lit 1))) (.assert (.tt (.bin .le (.lit 0) (.bin .add (.var 1) (.lit 1)))) (.assert (.tt (.bin .le (.bin .add (.var 1) (.lit 1)) (.lit 1024))) (.assert (.tt (.bin .le (.lit 0) (.bin .sub (.lit 1024) (.bin .add (.var 1) (.lit 1))))) (.assert (.tt (.bin .lt (.bin .sub (.lit 1024) (.bin .add (.var 1) (.lit 1))) (.bin .sub (.lit 1024) (.var 1)))) .ok)))))))))) .ok))))))))))))))))))))
def tAll1 : Tree := (.assume (.ff (.sel (.var 0) (.lit 16) 0)) (.assume (.ff (.sel (.var 0) (.lit 17) 0)) (.assume (.ff (.sel (.var 0) (.lit 18) 0)) (.assume (.ff (.sel (.var 0) (.lit 19) 0)) (.assume (.ff (.sel (.var 0) (.lit 20) 0)) (.assume (.ff (.sel (.var 0) (.lit 21) 0)) (.assume (.ff (.sel (.var 0) (.lit 22) 0)) (.assume (.ff (.sel (.var 0) (.lit 23) 0)) (.assume (.ff (.sel (.var 0) (.lit 24) 0)) (.assume (.ff (.sel (.var 0) (.lit 25) 0)) (.assume (.ff (.sel (.var 0) (.lit 26) 0)) (.assume (.ff (.sel (.var 0) (.lit 27) 0)) (.assume (.ff (.sel (.var 0) (.lit 28) 0)) (.assume (.ff (.sel (.var 0) (.lit 29) 0)) (.assume (.ff (.sel (.var 0) (.lit 30) 0)) (.assume (.ff (.sel (.var 0) (.lit 31) 0)) (.havoc false (.assume (.tt (.bin .le (.lit 0) (.var 1))) (.assume (.tt (.bin .le (.var 1) (.lit 1024))) (.branch (.bin .lt (.var 1) (.lit 1024)) (.assert (.tt (.bin .le (.lit 0) (.bin (.bits 6 .i64) (.var 1) (.lit 64)))) (.assert (.tt (.bin .lt (.bin (.bits 6 .i64) (.var 1) (.lit 64)) (.lit 16))) (.assert (.tt (.bin .le (.lit 0) (.bin .add (.bin (.bits 6 .i64) (.var 1) (.lit 64)) (.lit 16)))) (.assert (.tt (.bin .lt (.bin .add (.bin (.bits 6 .i64) (.var 1) (.lit 64)) (.lit 16)) (.lit 352))) (.assert (.tt (.bin .le (.lit 0) (.bin .tmod (.var 1) (.lit 64)))) (.branch (.bin .eq (.bin (.bits 0 .u64) (.bin (.bits 5 .u64) (.sel (.var 0) (.bin .add (.bin (.bits 6 .i64) (.var 1) (.lit 64)) (.lit 16)) 0) (.bin .tmod (.var 1) (.lit 64))) (.lit 1)) (.lit 1)) (.fail 20) (.assert (.rng .i64 (.bin .add (.var 1) (.lit 1))) (.assert (.tt (.bin .le (.lit 0) (.bin .add (.var 1) (.lit 1)))) (.assert (.tt (.bin .le (.bin .add (.var 1) (.lit 1)) (.lit 1024))) (.assert (.tt (.bin .le (.lit 0) (.bin .sub (.lit 1024) (.bin .add (.var 1) (.lit 1))))) (.assert (.tt (.bin .lt (.bin .sub (.lit 1024) (.bin .add (.var 1) (.lit 1))) (.bin .sub (.lit 1024) (.var 1)))) .ok))))))))))) .ok))))))))))))))))))))
def tAll2 : Tree := (.assume (.ff (.sel (.var 0) (.lit 32) 0)) (.assume (.ff (.sel (.var 0) (.lit 33) 0)) (.assume (.ff (.sel (.var 0) (.lit 34) 0)) (.assume (.ff (.sel (.var 0) (.lit 35) 0)) (.assume (.ff (.sel (.var 0) (.lit 36) 0)) (.assume (.ff (.sel (.var 0) (.lit 37) 0)) (.assume (.ff (.sel (.var 0) (.lit 38) 0)) (.assume (.ff (.sel (.var 0) (.lit 39) 0)) (.assume (.ff (.sel (.var 0) (.lit 40) 0)) (.assume (.ff (.sel (.var 0) (.lit 41) 0)) (.assume (.ff (.sel (.var 0) (.lit 42) 0)) (.assume (.ff (.sel (.var 0) (.lit 43) 0)) (.assume (.ff (.sel (.var 0) (.lit 44) 0)) (.assume (.ff (.sel (.var 0) (.lit 45) 0)) (.assume (.ff (.sel (.var 0) (.lit 46) 0)) (.assume (.ff (.sel (.var 0) (.lit 47) 0)) (.havoc false (.assume (.tt (.bin .le (.lit 0) (.var 1))) (.assume (.tt (.bin .le (.var 1) (.lit 1024))) (.branch (.bin .lt (.var 1) (.lit 1024)) (.assert (.tt (.bin .le (.lit 0) (.bin (.bits 6 .i64) (.var 1) (.lit 64)))) (.assert (.tt (.bin .lt (.bin (.bits 6 .i64) (.var 1) (.lit 64)) (.lit 16))) (.assert (.tt (.bin .le (.lit 0) (.bin .add (.bin (.bits 6 .i64) (.var 1) (.lit 64)) (.lit 32)))) (.assert (.tt (.bin .lt (.bin .add (.bin (.bits 6 .i64) (.var 1) (.lit 64)) (.lit 32)) (.lit 352))) (.assert (.tt (.bin .le (.lit 0) (.bin .tmod (.var 1) (.lit 64)))) (.branch (.bin .eq (.bin (.bits 0 .u64) (.bin (.bits 5 .u64) (.sel (.var 0) (.bin .add (.bin (.bits 6 .i64) (.var 1) (.lit 64)) (.lit 32)) 0) (.bin .tmod (.var 1) (.lit 64))) (.lit 1)) (.lit 1)) (.fail 20) (.assert (.rng .i64 (.bin .add (.var 1) (.lit 1))) (.assert (.tt (.bin .le (.lit 0) (.bin .add (.var 1) (.lit 1)))) (.assert (.tt (.bin .le (.bin .add (.var 1) (.lit 1)) (.lit 1024))) (.assert (.tt (.bin .le (.lit 0) (.bin .sub (.lit 1024) (.bin .add (.var 1) (.lit 1))))) (.assert (.tt (.bin .lt (.bin .sub (.lit 1024) (.bin .add (.var 1) (.lit 1))) (.bin .sub (.lit 1024) (.var 1)))) .ok))))))))))) .ok))))))))))))))))))))
def tAll3 : Tree := (.assume (.ff (.sel (.var 0) (.lit 48) 0)) (.assume (.ff (.sel (.var 0) (.lit 49) 0)) (.assume (.ff (.sel (.var 0) (.lit 50) 0)) (.assume (.ff (.sel (.var 0) (.lit 51) 0)) (.assume (.ff (.sel (.var 0) (.lit 52) 0)) (.assume (.ff (.sel (.var 0) (.lit 53) 0)) (.assume (.ff (.sel (.var 0) (.lit 54) 0)) (.assume (.ff (.sel (.var 0) (.lit 55) 0)) (.assume (.ff (.sel (.var 0) (.lit 56) 0)) (.assume (.ff (.sel (.var 0) (.lit 57) 0)) (.assume (.ff (.sel (.var 0) (.lit 58) 0)) (.assume (.ff (.sel (.var 0) (.lit 59) 0)) (.assume (.ff (.sel (.var 0) (.lit 60) 0)) (.assume (.ff (.sel (.var 0) (.lit 61) 0)) (.assume (.ff (.sel (.var 0) (.lit 62) 0)) (.assume (.ff (.sel (.var 0) (.lit 63) 0)) (.havoc false (.assume (.tt (.bin .le (.lit 0) (.var 1))) (.assume (.tt (.bin .le (.var 1) (.lit 1024))) (.branch (.bin .lt (.var 1) (.lit 1024)) (.assert (.tt (.bin .le (.lit 0) (.bin (.bits 6 .i64) (.var 1) (.lit 64)))) (.assert (.tt (.bin .lt (.bin (.bits 6 .i64) (.var 1) (.lit 64)) (.lit 16))) (.assert (.tt (.bin .le (.lit 0) (.bin .add (.bin (.bits 6 .i64) (.var 1) (.lit 64)) (.lit 48)))) (.assert (.tt (.bin .lt (.bin .add (.bin (.bits 6 .i64) (.var 1) (.lit 64)) (.lit 48)) (.lit 352))) (.assert (.tt (.bin .le (.lit 0) (.bin .tmod (.var 1) (.lit 64)))) (.branch (.bin .eq (.bin (.bits 0 .u64) (.bin (.bits 5 .u64) (.sel (.var 0) (.bin .add (.bin (.bits 6 .i64) (.var 1) (.lit 64)) (.lit 48)) 0) (.bin .tmod (.var 1) (.lit 64))) (.lit 1)) (.lit 1)) (.fail 20) (.assert (.rng .i64 (.bin .add (.var 1) (.lit 1))) (.assert (.tt (.bin .le (.lit 0) (.bin .add (.var 1) (.lit 1)))) (.assert (.tt (.bin .le (.bin .add (.var 1) (.lit 1)) (.lit 1024))) (.assert (.tt (.bin .le (.lit 0) (.bin .sub (.lit 1024) (.bin .add (.var 1) (.lit 1))))) (.assert (.tt (.bin .lt (.bin .sub (.lit 1024) (.bin .add (.var 1) (.lit 1))) (.bin .sub (.lit 1024) (.var 1)))) .ok))))))))))) .ok))))))))))))))))))))
def tAll4 : Tree := (.assume (.ff (.sel (.var 0) (.lit 64) 0)) (.assume (.ff (.sel (.var 0) (.lit 65) 0)) (.assume (.ff (.sel (.var 0) (.lit 66) 0)) (.assume (.ff (.sel (.var 0) (.lit 67) 0)) (.assume (.ff (.sel (.var 0) (.lit 68) 0)) (.assume (.ff (.sel (.var 0) (.lit 69) 0)) (.assume (.ff (.sel (.var 0) (.lit 70) 0)) (.assume (.ff (.sel (.var 0) (.lit 71) 0)) (.assume (.ff (.sel (.var 0) (.lit 72) 0)) (.assume (.ff (.sel (.var 0) (.lit 73) 0)) (.assume (.ff (.sel (.var 0) (.lit 74) 0)) (.assume (.ff (.sel (.var 0) (.lit 75) 0)) (.assume (.ff (.sel (.var 0) (.lit 76) 0)) (.assume (.ff (.sel (.var 0) (.lit 77) 0)) (.assume (.ff (.sel (.var 0) (.lit 78) 0)) (.assume (.ff (.sel (.var 0) (.lit 79) 0)) (.havoc false (.assume (.tt (.bin .le (.lit 0) (.var 1))) (.assume (.tt (.bin .le (.var 1) (.lit 1024))) (.branch (.bin .lt (.var 1) (.lit 1024)) (.assert (.tt (.bin .le (.lit 0) (.bin (.bits 6 .i64) (.var 1) (.lit 64)))) (.assert (.tt (.bin .lt (.bin (.bits 6 .i64) (.var 1) (.lit 64)) (.lit 16))) (.assert (.tt (.bin .le (.lit 0) (.bin .add (.bin (.bits 6 .i64) (.var 1) (.lit 64)) (.lit 64)))) (.assert (.tt (.bin .lt (.bin .add (.bin (.bits 6 .i64) (.var 1) (.lit 64)) (.lit 64)) (.lit 352))) (.assert (.tt (.bin .le (.lit 0) (.bin .tmod (.var 1) (.lit 64)))) (.branch (.bin .eq (.bin (.bits 0 .u64) (.bin (.bits 5 .u64) (.sel (.var 0) (.bin .add (.bin (.bits 6 .i64) (.var 1) (.lit 64)) (.lit 64)) 0) (.bin .tmod (.var 1) (.lit 64))) (.lit 1)) (.lit 1)) (.fail 20) (.assert (.rng .i64 (.bin .add (.var 1) (.lit 1))) (.assert (.tt (.bin .le (.lit 0) (.bin .add (.var 1) (.lit 1)))) (.assert (.tt (.bin .le (.bin .add (.var 1) (.lit 1)) (.lit 1024))) (.assert (.tt (.bin .le (.lit 0) (.bin .sub (.lit 1024) (.bin .add (.var 1) (.lit 1))))) (.assert (.tt (.bin .lt (.bin .sub (.lit 1024) (.bin .add (.var 1) (.lit 1))) (.bin .sub (.lit 1024) (.var 1)))) .ok))))))))))) .ok))))))))))))))))))))
def tAll5 : Tree := (.assume (.ff (.sel (.var 0) (.lit 80) 0)) (.assume (.ff (.sel (.var 0) (.lit 81) 0)) (.assume (.ff (.sel (.var 0) (.lit 82) 0)) (.assume (.ff (.sel (.var 0) (.lit 83) 0)) (.assume (.ff (.sel (.var 0) (.lit 84) 0)) (.assume (.ff (.sel (.var 0) (.lit 85) 0)) (.assume (.ff (.sel (.var 0) (.lit 86) 0)) (.assume (.ff (.sel (.var 0) (.lit 87) 0)) (.assume (.ff (.sel (.var 0) (.lit 88) 0)) (.assume (.ff (.sel (.var 0) (.lit 89) 0)) (.assume (.ff (.sel (.var 0) (.lit 90) 0)) (.assume (.ff (.sel (.var 0) (.lit 91) 0)) (.assume (.ff (.sel (.var 0) (.lit 92) 0)) (.assume (.ff (.sel (.var 0) (.lit 93) 0)) (.assume (.ff (.sel (.var 0) (.lit 94) 0)) (.assume (.ff (.sel (.var 0) (.lit 95) 0)) (.havoc false (.assume (.tt (.bin .le (.lit 0) (.var 1))) (.assume (.tt (.bin .le (.var 1) (.lit 1024))) (.branch (.bin .lt (.var 1) (.lit 1024)) (.assert (.tt (.bin .le (.lit 0) (.bin (.bits 6 .i64) (.var 1) (.lit 64)))) (.assert (.tt (.bin .lt (.bin (.bits 6 .i64) (.var 1) (.lit 64)) (.lit 16))) (.assert (.tt (.bin .le (.lit 0) (.bin .add (.bin (.bits 6 .i64) (.var 1) (.lit 64)) (.lit 80)))) (.assert (.tt (.bin .lt (.bin .add (.bin (.bits 6 .i64) (.var 1) (.lit 64)) (.lit 80)) (.lit 352))) (.assert (.tt (.bin .le (.lit 0) (.bin .tmod (.var 1) (.lit 64)))) (.branch (.bin .eq (.bin (.bits 0 .u64) (.bin (.bits 5 .u64) (.sel (.var 0) (.bin .add (.bin (.bits 6 .i64) (.var 1) (.lit 64)) (.lit 80)) 0) (.bin .tmod (.var 1) (.lit 64))) (.lit 1)) (.lit 1)) (.fail 20) (.assert (.rng .i64 (.bin .add (.var 1) (.lit 1))) (.assert (.tt (.bin .le (.lit 0) (.bin .add (.var 1) (.lit 1)))) (.assert (.tt (.bin .le (.bin .add (.var 1) (.lit 1)) (.lit 1024))) (.assert (.tt (.bin .le (.lit 0) (.bin .sub (.lit 1024) (.bin .add (.var 1) (.lit 1))))) (.assert (.tt (.bin .lt (.bin .sub (.lit 1024) (.bin .add (.var 1) (.lit 1))) (.bin .sub (.lit 1024) (.var 1)))) .ok))))))))))) .ok))))))))))))))))))))
def tAll6 : Tree := (.assume (.ff (.sel (.var 0) (.lit 96) 0)) (.assume (.ff (.sel (.var 0) (.lit 97) 0)) (.assume (.ff (.sel (.var 0) (.lit 98) 0)) (.assume (.ff (.sel (.var 0) (.lit 99) 0)) (.assume (.ff (.sel (.var 0) (.lit 100) 0)) (.assume (.ff (.sel (.var 0) (.lit 101) 0)) (.assume (.ff (.sel (.var 0) (.lit 102) 0)) (.assume (.ff (.sel (.var 0) (.lit 103) 0)) (.assume (.ff (.sel (.var 0) (.lit 104) 0)) (.assume (.ff (.sel (.var 0) (.lit 105) 0)) (.assume (.ff (.sel (.var 0) (.lit 106) 0)) (.assume (.ff (.sel (.var 0) (.lit 107) 0)) (.assume (.ff (.sel (.var 0) (.lit 108) 0)) (.assume (.ff (.sel (.var 0) (.lit 109) 0)) (.assume (.ff (.sel (.var 0) (.lit 110) 0)) (.assume (.ff (.sel (.var 0) (.lit 111) 0)) (.havoc false (.assume (.tt (.bin .le (.lit 0) (.var 1))) (.assume (.tt (.bin .le (.var 1) (.lit 1024))) (.branch (.bin .lt (.var 1) (.lit 1024)) (.assert (.tt (.bin .le (.lit 0) (.bin (.bits 6 .i64) (.var 1) (.lit 64)))) (.assert (.tt (.bin .lt (.bin (.bits 6 .i64) (.var 1) (.lit 64)) (.lit 16))) (.assert (.tt (.bin .le (.lit 0) (.bin .add (.bin (.bits 6 .i64) (.var 1) (.lit 64)) (.lit 96)))) (.assert (.tt (.bin .lt (.bin .add (.bin (.bits 6 .i64) (.var 1) (.lit 64)) (.lit 96)) (.lit 352))) (.assert (.tt (.bin .le (.lit 0) (.bin .tmod (.var 1) (.lit 64)))) (.branch (.bin .eq (.bin (.bits 0 .u64) (.bin (.bits 5 .u64) (.sel (.var 0) (.bin .add (.bin (.bits 6 .i64) (.var 1) (.lit 64)) (.lit 96)) 0) (.bin .tmod (.var 1) (.lit 64))) (.lit 1)) (.lit 1)) (.fail 20) (.assert (.rng .i64 (.bin .add (.var 1) (.lit 1))) (.assert (.tt (.bin .le (.lit 0) (.bin .add (.var 1) (.lit 1)))) (.assert (.tt (.bin .le (.bin .add (.var 1) (.lit 1)) (.lit 1024))) (.assert (.tt (.bin .le (.lit 0) (.bin .sub (.lit 1024) (.bin .add (.var 1) (.lit 1))))) (.assert (.tt (.bin .lt (.bin .sub (.lit 1024) (.bin .add (.var 1) (.lit 1))) (.bin .sub (.lit 1024) (.var 1)))) .ok))))))))))) .ok))))))))))))))))))))
def tAll7 : Tree := (.assume (.ff (.sel (.var 0) (.lit 112) 0)) (.assume (.ff (.sel (.var 0) (.lit 113) 0)) (.assume (.ff (.sel (.var 0) (.lit 114) 0)) (.assume (.ff (.sel (.var 0) (.lit 115) 0)) (.assume (.ff (.sel (.var 0) (.lit 116) 0)) (.assume (.ff (.sel (.var 0) (.lit 117) 0)) (.assume (.ff (.sel (.var 0) (.lit 118) 0)) (.assume (.ff (.sel (.var 0) (.lit 119) 0)) (.assume (.ff (.sel (.var 0) (.lit 120) 0)) (.assume (.ff (.sel (.var 0) (.lit 121) 0)) (.assume (.ff (.sel (.var 0) (.lit 122) 0)) (.assume (.ff (.sel (.var 0) (.lit 123) 0)) (.assume (.ff (.sel (.var 0) (.lit 124) 0)) (.assume (.ff (.sel (.var 0) (.lit 125) 0)) (.assume (.ff (.sel (.var 0) (.lit 126) 0)) (.assume (.ff (.sel (.var 0) (.lit 127) 0)) (.havoc false (.assume (.tt (.bin .le (.lit 0) (.var 1))) (.assume (.tt (.bin .le (.var 1) (.lit 1024))) (.branch (.bin .lt (.var 1) (.lit 1024)) (.assert (.tt (.bin .le (.lit 0) (.bin (.bits 6 .i64) (.var 1) (.lit 64)))) (.assert (.tt (.bin .lt (.bin (.bits 6 .i64) (.var 1) (.lit 64)) (.lit 16))) (.assert (.tt (.bin .le (.lit 0) (.bin .add (.bin (.bits 6 .i64) (.var 1) (.lit 64)) (.lit 112)))) (.assert (.tt (.bin .lt (.bin .add (.bin (.bits 6 .i64) (.var 1) (.lit 64)) (.lit 112)) (.lit 352))) (.assert (.tt (.bin .le (.lit 0) (.bin .tmod (.var 1) (.lit 64)))) (.branch (.bin .eq (.bin (.bits 0 .u64) (.bin (.bits 5 .u64) (.sel (.var 0) (.bin .add (.bin (.bits 6 .i64) (.var 1) (.lit 64)) (.lit 112)) 0) (.bin .tmod (.var 1) (.lit 64))) (.lit 1)) (.lit 1)) (.fail 20) (.assert (.rng .i64 (.bin .add (.var 1) (.lit 1))) (.assert (.tt (.bin .le (.lit 0) (.bin .add (.var 1) (.lit 1)))) (.assert (.tt (.bin .le (.bin .add (.var 1) (.lit 1)) (.lit 1024))) (.assert (.tt (.bin .le (.lit 0) (.bin .sub (.lit 1024) (.bin .add (.var 1) (.lit 1))))) (.assert (.tt (.bin .lt (.bin .sub (.lit 1024) (.bin .add (.var 1) (.lit 1))) (.bin .sub (.lit 1024) (.var 1)))) .ok))))))))))) .ok))))))))))))))))))))
def tAll8 : Tree := (.assume (.ff (.sel (.var 0) (.lit 128) 0)) (.assume (.ff (.sel (.var 0) (.lit 129) 0)) (.assume (.ff (.sel (.var 0) (.lit 130) 0)) (.assume (.ff (.sel (.var 0) (.lit 131) 0)) (.assume (.ff (.sel (.var 0) (.lit 132) 0)) (.assume (.ff (.sel (.var 0) (.lit 133) 0)) (.assume (.ff (.sel (.var 0) (.lit 134) 0)) (.assume (.ff (.sel (.var 0) (.lit 135) 0)) (.assume (.ff (.sel (.var 0) (.lit 136) 0)) (.assume (.ff (.sel (.var 0) (.lit 137) 0)) (.assume (.ff (.sel (.var 0) (.lit 138) 0)) (.assume (.ff (.sel (.var 0) (.lit 139) 0)) (.assume (.ff (.sel (.var 0) (.lit 140) 0)) (.assume (.ff (.sel (.var 0) (.lit 141) 0)) (.assume (.ff (.sel (.var 0) (.lit 142) 0)) (.assume (.ff (.sel (.var 0) (.lit 143) 0)) (.havoc false (.assume (.tt (.bin .le (.lit 0) (.var 1))) (.assume (.tt (.bin .le (.var 1) (.lit 1024))) (.branch (.bin .lt (.var 1) (.lit 1024)) (.assert (.tt (.bin .le (.lit 0) (.bin (.bits 6 .i64) (.var 1) (.lit 64)))) (.assert (.tt (.bin .lt (.bin (.bits 6 .i64) (.var 1) (.lit 64)) (.lit 16))) (.assert (.tt (.bin .le (.lit 0) (.bin .add (.bin (.bits 6 .i64) (.var 1) (.lit 64)) (.lit 128)))) (.assert (.tt (.bin .lt (.bin .add (.bin (.bits 6 .i64) (.var 1) (.lit 64)) (.lit 128)) (.lit 352))) (.assert (.tt (.bin .le (.lit 0) (.bin .tmod (.var 1) (.lit 64)))) (.branch (.bin .eq (.bin (.bits 0 .u64) (.bin (.bits 5 .u64) (.sel (.var 0) (.bin .add (.bin (.bits 6 .i64) (.var 1) (.lit 64)) (.lit 128)) 0) (.bin .tmod (.var 1) (.lit 64))) (.lit 1)) (.lit 1)) (.fail 20) (.assert (.rng .i64 (.bin .add (.var 1) (.lit 1))) (.assert (.tt (.bin .le (.lit 0) (.bin .add (.var 1) (.lit 1)))) (.assert (.tt (.bin .le (.bin .add (.var 1) (.lit 1)) (.lit 1024))) (.assert (.tt (.bin .le (.lit 0) (.bin .sub (.lit 1024) (.bin .add (.var 1) (.lit 1))))) (.assert (.tt (.bin .lt (.bin .sub (.lit 1024) (.bin .add (.var 1) (.lit 1))) (.bin .sub (.lit 1024) (.var 1)))) .ok))))))))))) .ok))))))))))))))))))))
def tAll9 : Tree := (.assume (.ff (.sel (.var 0) (.lit 144) 0)) (.assume (.ff (.sel (.var 0) (.lit 145) 0)) (.assume (.ff (.sel (.var 0) (.lit 146) 0)) (.assume (.ff (.sel (.var 0) (.lit 147) 0)) (.assume (.ff (.sel (.var 0) (.lit 148) 0)) (.assume (.ff (.sel (.var 0) (.lit 149) 0)) (.assume (.ff (.sel (.var 0) (.lit 150) 0)) (.assume (.ff (.sel (.var 0) (.lit 151) 0)) (.assume (.ff (.sel (.var 0) (.lit 152) 0)) (.assume (.ff (.sel (.var 0) (.lit 153) 0)) (.assume (.ff (.sel (.var 0) (.lit 154) 0)) (.assume (.ff (.sel (.var 0) (.lit 155) 0)) (.assume (.ff (.sel (.var 0) (.lit 156) 0)) (.assume (.ff (.sel (.var 0) (.lit 157) 0)) (.assume (.ff (.sel (.var 0) (.lit 158) 0)) (.assume (.ff (.sel (.var 0) (.lit 159) 0)) (.havoc false (.assume (.tt (.bin .le (.lit 0) (.var 1))) (.assume (.tt (.bin .le (.var 1) (.lit 1024))) (.branch (.bin .lt (.var 1) (.lit 1024)) (.assert (.tt (.bin .le (.lit 0) (.bin (.bits 6 .i64) (.var 1) (.lit 64)))) (.assert (.tt (.bin .lt (.bin (.bits 6 .i64) (.var 1) (.lit 64)) (.lit 16))) (.assert (.tt (.bin .le (.lit 0) (.bin .add (.bin (.bits 6 .i64) (.var 1) (.lit 64)) (.lit 144)))) (.assert (.tt (.bin .lt (.bin .add (.bin (.bits 6 .i64) (.var 1) (.lit 64)) (.lit 144)) (.lit 352))) (.assert (.tt (.bin .le (.lit 0) (.bin .tmod (.var 1) (.lit 64)))) (.branch (.bin .eq (.bin (.bits 0 .u64) (.bin (.bits 5 .u64) (.sel (.var 0) (.bin .add (.bin (.bits 6 .i64) (.var 1) (.lit 64)) (.lit 144)) 0) (.bin .tmod (.var 1) (.lit 64))) (.lit 1)) (.lit 1)) (.fail 20) (.assert (.rng .i64 (.bin .add (.var 1) (.lit 1))) (.assert (.tt (.bin .le (.lit 0) (.bin .add (.var 1) (.lit 1)))) (.assert (.tt (.bin .le (.bin .add (.var 1) (.lit 1)) (.lit 1024))) (.assert (.tt (.bin .le (.lit 0) (.bin .sub (.lit 1024) (.bin .add (.var 1) (.lit 1))))) (.assert (.tt (.bin .lt (.bin .sub (.lit 1024) (.bin .add (.var 1) (.lit 1))) (.bin .sub (.lit 1024) (.var 1)))) .ok))))))))))) .ok))))))))))))))))))))
def tAll10 : Tree := (.assume (.ff (.sel (.var 0) (.lit 160) 0)) (.assume (.ff (.sel (.var 0) (.lit 161) 0)) (.assume (.ff (.sel (.var 0) (.lit 162) 0)) (.assume (.ff (.sel (.var 0) (.lit 163) 0)) (.assume (.ff (.sel (.var 0) (.lit 164) 0)) (.assume (.ff (.sel (.var 0) (.lit 165) 0)) (.assume (.ff (.sel (.var 0) (.lit 166) 0)) (.assume (.ff (.sel (.var 0) (.lit 167) 0)) (.assume (.ff (.sel (.var 0) (.lit 168) 0)) (.assume (.ff (.sel (.var 0) (.lit 169) 0)) (.assume (.ff (.sel (.var 0) (.lit 170) 0)) (.assume (.ff (.sel (.var 0) (.lit 171) 0)) (.assume (.ff (.sel (.var 0) (.lit 172) 0)) (.assume (.ff (.sel (.var 0) (.lit 173) 0)) (.assume (.ff (.sel (.var 0) (.lit 174) 0)) (.assume (.ff (.sel (.var 0) (.lit 175) 0)) (.havoc false (.assume (.tt (.bin .le (.lit 0) (.var 1))) (.assume (.tt (.bin .le (.var 1) (.lit 1024))) (.branch (.bin .lt (.var 1) (.lit 1024)) (.assert (.tt (.bin .le (.lit 0) (.bin (.bits 6 .i64) (.var 1) (.lit 64)))) (.assert (.tt (.bin .lt (.bin (.bits 6 .i64) (.var 1) (.lit 64)) (.lit 16))) (.assert (.tt (.bin .le (.lit 0) (.bin .add (.bin (.bits 6 .i64) (.var 1) (.lit 64)) (.lit 160)))) (.assert (.tt (.bin .lt (.bin .add (.bin (.bits 6 .i64) (.var 1) (.lit 64)) (.lit 160)) (.lit 352))) (.assert (.tt (.bin .le (.lit 0) (.bin .tmod (.var 1) (.lit 64)))) (.branch (.bin .eq (.bin (.bits 0 .u64) (.bin (.bits 5 .u64) (.sel (.var 0) (.bin .add (.bin (.bits 6 .i64) (.var 1) (.lit 64)) (.lit 160)) 0) (.bin .tmod (.var 1) (.lit 64))) (.lit 1)) (.lit 1)) (.fail 20) (.assert (.rng .i64 (.bin .add (.var 1) (.lit 1))) (.assert (.tt (.bin .le (.lit 0) (.bin .add (.var 1) (.lit 1)))) (.assert (.tt (.bin .le (.bin .add (.var 1) (.lit 1)) (.lit 1024))) (.assert (.tt (.bin .le (.lit 0) (.bin .sub (.lit 1024) (.bin .add (.var 1) (.lit 1))))) (.assert (.tt (.bin .lt (.bin .sub (.lit 1024) (.bin .add (.var 1) (.lit 1))) (.bin .sub (.lit 1024) (.var 1)))) .ok))))))))))) .ok))))))))))))))))))))
def tAll11 : Tree := (.assume (.ff (.sel (.var 0) (.lit 176) 0)) (.assume (.ff (.sel (.var 0) (.lit 177) 0)) (.assume (.ff (.sel (.var 0) (.lit 178) 0)) (.assume (.ff (.sel (.var 0) (.lit 179) 0)) (.assume (.ff (.sel (.var 0) (.lit 180) 0)) (.assume (.ff (.sel (.var 0) (.lit 181) 0)) (.assume (.ff (.sel (.var 0) (.lit 182) 0)) (.assume (.ff (.sel (.var 0) (.lit 183) 0)) (.assume (.ff (.sel (.var 0) (.lit 184) 0)) (.assume (.ff (.sel (.var 0) (.lit 185) 0)) (.assume (.ff (.sel (.var 0) (.lit 186) 0)) (.assume (.ff (.sel (.var 0) (.lit 187) 0)) (.assume (.ff (.sel (.var 0) (.lit 188) 0)) (.assume (.ff (.sel (.var 0) (.lit 189) 0)) (.assume (.ff (.sel (.var 0) (.lit 190) 0)) (.assume (.ff (.sel (.var 0) (.lit 191) 0)) (.havoc false (.assume (.tt (.bin .le (.lit 0) (.var 1))) (.assume (.tt (.bin .le (.var 1) (.lit 1024))) (.branch (.bin .lt (.var 1) (.lit 1024)) (.assert (.tt (.bin .le (.lit 0) (.bin (.bits 6 .i64) (.var 1) (.lit 64)))) (.assert (.tt (.bin .lt (.bin (.bits 6 .i64) (.var 1) (.lit 64)) (.lit 16))) (.assert (.tt (.bin .le (.lit 0) (.bin .add (.bin (.bits 6 .i64) (.var 1) (.lit 64)) (.lit 176)))) (.assert (.tt (.bin .lt (.bin .add (.bin (.bits 6 .i64) (.var 1) (.lit 64)) (.lit 176)) (.lit 352))) (.assert (.tt (.bin .le (.lit 0) (.bin .tmod (.var 1) (.lit 64)))) (.branch (.bin .eq (.bin (.bits 0 .u64) (.bin (.bits 5 .u64) (.sel (.var 0) (.bin .add (.bin (.bits 6 .i64) (.var 1) (.lit 64)) (.lit 176)) 0) (.bin .tmod (.var 1) (.lit 64))) (.lit 1)) (.lit 1)) (.fail 20) (.assert (.rng .i64 (.bin .add (.var 1) (.lit 1))) (.assert (.tt (.bin .le (.lit 0) (.bin .add (.var 1) (.lit 1)))) (.assert (.tt (.bin .le (.bin .add (.var 1) (.lit 1)) (.lit 1024))) (.assert (.tt (.bin .le (.lit 0) (.bin .sub (.lit 1024) (.bin .add (.var 1) (.lit 1))))) (.assert (.tt (.bin .lt (.bin .sub (.lit 1024) (.bin .add (.var 1) (.lit 1))) (.bin .sub (.lit 1024) (.var 1)))) .ok))))))))))) .ok))))))))))))))))))))
def tAll12 : Tree := (.assume (.ff (.sel (.var 0) (.lit 192) 0)) (.assume (.ff (.sel (.var 0) (.lit 193) 0)) (.assume (.ff (.sel (.var 0) (.lit 194) 0)) (.assume (.ff (.sel (.var 0) (.lit 195) 0)) (.assume (.ff (.sel (.var 0) (.lit 196) 0)) (.assume (.ff (.sel (.var 0) (.lit 197) 0)) (.assume (.ff (.sel (.var 0) (.lit 198) 0)) (.assume (.ff (.sel (.var 0) (.lit 199) 0)) (.assume (.ff (.sel (.var 0) (.lit 200) 0)) (.assume (.ff (.sel (.var 0) (.lit 201) 0)) (.assume (.ff (.sel (.var 0) (.lit 202) 0)) (.assume (.ff (.sel (.var 0) (.lit 203) 0)) (.assume (.ff (.sel (.var 0) (.lit 204) 0)) (.assume (.ff (.sel (.var 0) (.lit 205) 0)) (.assume (.ff (.sel (.var 0) (.lit 206) 0)) (.assume (.ff (.sel (.var 0) (.lit 207) 0)) (.havoc false (.assume (.tt (.bin .le (.lit 0) (.var 1))) (.assume (.tt (.bin .le (.var 1) (.lit 1024))) (.branch (.bin .lt (.var 1) (.lit 1024)) (.assert (.tt (.bin .le (.lit 0) (.bin (.bits 6 .i64) (.var 1) (.lit 64)))) (.assert (.tt (.bin .lt (.bin (.bits 6 .i64) (.var 1) (.lit 64)) (.lit 16))) (.assert (.tt (.bin .le (.lit 0) (.bin .add (.bin (.bits 6 .i64) (.var 1) (.lit 64)) (.lit 192)))) (.assert (.tt (.bin .lt (.bin .add (.bin (.bits 6 .i64) (.var 1) (.lit 64)) (.lit 192)) (.lit 352))) (.assert (.tt (.bin .le (.lit 0) (.bin .tmod (.var 1) (.lit 64)))) (.branch (.bin .eq (.bin (.bits 0 .u64) (.bin (.bits 5 .u64) (.sel (.var 0) (.bin .add (.bin (.bits 6 .i64) (.var 1) (.lit 64)) (.lit 192)) 0) (.bin .tmod (.var 1) (.lit 64))) (.lit 1)) (.lit 1)) (.fail 20) (.assert (.rng .i64 (.bin .add (.var 1) (.lit 1))) (.assert (.tt (.bin .le (.lit 0) (.bin .add (.var 1) (.lit 1)))) (.assert (.tt (.bin .le (.bin .add (.var 1) (.lit 1)) (.lit 1024))) (.assert (.tt (.bin .le (.lit 0) (.bin .sub (.lit 1024) (.bin .add (.var 1) (.lit 1))))) (.assert (.tt (.bin .lt (.bin .sub (.lit 1024) (.bin .add (.var 1) (.lit 1))) (.bin .sub (.lit 1024) (.var 1)))) .ok))))))))))) .ok))))))))))))))))))))
def tAll13 : Tree := (.assume (.ff (.sel (.var 0) (.lit 208) 0)) (.assume (.ff (.sel (.var 0) (.lit 209) 0)) (.assume (.ff (.sel (.var 0) (.lit 210) 0)) (.assume (.ff (.sel (.var 0) (.lit 211) 0)) (.assume (.ff (.sel (.var 0) (.lit 212) 0)) (.assume (.ff (.sel (.var 0) (.lit 213) 0)) (.assume (.ff (.sel (.var 0) (.lit 214) 0)) (.assume (.ff (.sel (.var 0) (.lit 215) 0)) (.assume (.ff (.sel (.var 0) (.lit 216) 0)) (.assume (.ff (.sel (.var 0) (.lit 217) 0)) (.assume (.ff (.sel (.var 0) (.lit 218) 0)) (.assume (.ff (.sel (.var 0) (.lit 219) 0)) (.assume (.ff (.sel (.var 0) (.lit 220) 0)) (.assume (.ff (.sel (.var 0) (.lit 221) 0)) (.assume (.ff (.sel (.var 0) (.lit 222) 0)) (.assume (.ff (.sel (.var 0) (.lit 223) 0)) (.havoc false (.assume (.tt (.bin .le (.lit 0) (.var 1))) (.assume (.tt (.bin .le (.var 1) (.lit 1024))) (.branch (.bin .lt (.var 1) (.lit 1024)) (.assert (.tt (.bin .le (.lit 0) (.bin (.bits 6 .i64) (.var 1) (.lit 64)))) (.assert (.tt (.bin .lt (.bin (.bits 6 .i64) (.var 1) (.lit 64)) (.lit 16))) (.assert (.tt (.bin .le (.lit 0) (.bin .add (.bin (.bits 6 .i64) (.var 1) (.lit 64)) (.lit 208)))) (.assert (.tt (.bin .lt (.bin .add (.bin (.bits 6 .i64) (.var 1) (.lit 64)) (.lit 208)) (.lit 352))) (.assert (.tt (.bin .le (.lit 0) (.bin .tmod (.var 1) (.lit 64)))) (.branch (.bin .eq (.bin (.bits 0 .u64) (.bin (.bits 5 .u64) (.sel (.var 0) (.bin .add (.bin (.bits 6 .i64) (.var 1) (.lit 64)) (.lit 208)) 0) (.bin .tmod (.var 1) (.lit 64))) (.lit 1)) (.lit 1)) (.fail 20) (.assert (.rng .i64 (.bin .add (.var 1) (.lit 1))) (.assert (.tt (.bin .le (.lit 0) (.bin .add (.var 1) (.lit 1)))) (.assert (.tt (.bin .le (.bin .add (.var 1) (.lit 1)) (.lit 1024))) (.assert (.tt (.bin .le (.lit 0) (.bin .sub (.lit 1024) (.bin .add (.var 1) (.lit 1))))) (.assert (.tt (.bin .lt (.bin .sub (.lit 1024) (.bin .add (.var 1) (.lit 1))) (.bin .sub (.lit 1024) (.var 1)))) .ok))))))))))) .ok))))))))))))))))))))
def tAll14 : Tree := (.assume (.ff (.sel (.var 0) (.lit 224) 0)) (.assume (.ff (.sel (.var 0) (.lit 225) 0)) (.assume (.ff (.sel (.var 0) (.lit 226) 0)) (.assume (.ff (.sel (.var 0) (.lit 227) 0)) (.assume (.ff (.sel (.var 0) (.lit 228) 0)) (.assume (.ff (.sel (.var 0) (.lit 229) 0)) (.assume (.ff (.sel (.var 0) (.lit 230) 0)) (.assume (.ff (.sel (.var 0) (.lit 231) 0)) (.assume (.ff (.sel (.var 0) (.lit 232) 0)) (.assume (.ff (.sel (.var 0) (.lit 233) 0)) (.assume (.ff (.sel (.var 0) (.lit 234) 0)) (.assume (.ff (.sel (.var 0) (.lit 235) 0)) (.assume (.ff (.sel (.var 0) (.lit 236) 0)) (.assume (.ff (.sel (.var 0) (.lit 237) 0)) (.assume (.ff (.sel (.var 0) (.lit 238) 0)) (.assume (.ff (.sel (.var 0) (.lit 239) 0)) (.havoc false (.assume (.tt (.bin .le (.lit 0) (.var 1))) (.assume (.tt (.bin .le (.var 1) (.lit 1024))) (.branch (.bin .lt (.var 1) (.lit 1024)) (.assert (.tt (.bin .le (.lit 0) (.bin (.bits 6 .i64) (.var 1) (.lit 64)))) (.assert (.tt (.bin .lt (.bin (.bits 6 .i64) (.var 1) (.lit 64)) (.lit 16))) (.assert (.tt (.bin .le (.lit 0) (.bin .add (.bin (.bits 6 .i64) (.var 1) (.lit 64)) (.lit 224)))) (.assert (.tt (.bin .lt (.bin .add (.bin (.bits 6 .i64) (.var 1) (.lit 64)) (.lit 224)) (.lit 352))) (.assert (.tt (.bin .le (.lit 0) (.bin .tmod (.var 1) (.lit 64)))) (.branch (.bin .eq (.bin (.bits 0 .u64) (.bin (.bits 5 .u64) (.sel (.var 0) (.bin .add (.bin (.bits 6 .i64) (.var 1) (.lit 64)) (.lit 224)) 0) (.bin .tmod (.var 1) (.lit 64))) (.lit 1)) (.lit 1)) (.fail 20) (.assert (.rng .i64 (.bin .add (.var 1) (.lit 1))) (.assert (.tt (.bin .le (.lit 0) (.bin .add (.var 1) (.lit 1)))) (.assert (.tt (.bin .le (.bin .add (.var 1) (.lit 1)) (.lit 1024))) (.assert (.tt (.bin .le (.lit 0) (.bin .sub (.lit 1024) (.bin .add (.var 1) (.lit 1))))) (.assert (.tt (.bin .lt (.bin .sub (.lit 1024) (.bin .add (.var 1) (.lit 1))) (.bin .sub (.lit 1024) (.var 1)))) .ok))))))))))) .ok))))))))))))))))))))
def tAll15 : Tree := (.assume (.ff (.sel (.var 0) (.lit 240) 0)) (.assume (.ff (.sel (.var 0) (.lit 241) 0)) (.assume (.ff (.sel (.var 0) (.lit 242) 0)) (.assume (.ff (.sel (.var 0) (.lit 243) 0)) (.assume (.ff (.sel (.var 0) (.lit 244) 0)) (.assume (.ff (.sel (.var 0) (.lit 245) 0)) (.assume (.ff (.sel (.var 0) (.lit 246) 0)) (.assume (.ff (.sel (.var 0) (.lit 247) 0)) (.assume (.ff (.sel (.var 0) (.lit 248) 0)) (.assume (.ff (.sel (.var 0) (.lit 249) 0)) (.assume (.ff (.sel (.var 0) (.lit 250) 0)) (.assume (.ff (.sel (.var 0) (.lit 251) 0)) (.assume (.ff (.sel (.var 0) (.lit 252) 0)) (.assume (.ff (.sel (.var 0) (.lit 253) 0)) (.assume (.ff (.sel (.var 0) (.lit 254) 0)) (.assume (.ff (.sel (.var 0) (.lit 255) 0)) (.havoc false (.assume (.tt (.bin .le (.lit 0) (.var 1))) (.assume (.tt (.bin .le (.var 1) (.lit 1024))) (.branch (.bin .lt (.var 1) (.lit 1024)) (.assert (.tt (.bin .le (.lit 0) (.bin (.bits 6 .i64) (.var 1) (.lit 64)))) (.assert (.tt (.bin .lt (.bin (.bits 6 .i64) (.var 1) (.lit 64)) (.lit 16))) (.assert (.tt (.bin .le (.lit 0) (.bin .add (.bin (.bits 6 .i64) (.var 1) (.lit 64)) (.lit 240)))) (.assert (.tt (.bin .lt (.bin .add (.bin (.bits 6 .i64) (.var 1) (.lit 64)) (.lit 240)) (.lit 352))) (.assert (.tt (.bin .le (.lit 0) (.bin .tmod (.var 1) (.lit 64)))) (.branch (.bin .eq (.bin (.bits 0 .u64) (.bin (.bits 5 .u64) (.sel (.var 0) (.bin .add (.bin (.bits 6 .i64) (.var 1) (.lit 64)) (.lit 240)) 0) (.bin .tmod (.var 1) (.lit 64))) (.lit 1)) (.lit 1)) (.fail 20) (.assert (.rng .i64 (.bin .add (.var 1) (.lit 1))) (.assert (.tt (.bin .le (.lit 0) (.bin .add (.var 1) (.lit 1)))) (.assert (.tt (.bin .le (.bin .add (.var 1) (.lit 1)) (.lit 1024))) (.assert (.tt (.bin .le (.lit 0) (.bin .sub (.lit 1024) (.bin .add (.var 1) (.lit 1))))) (.assert (.tt (.bin .lt (.bin .sub (.lit 1024) (.bin .add (.var 1) (.lit 1))) (.bin .sub (.lit 1024) (.var 1)))) .ok))))))))))) .ok))))))))))))))))))))
def tAll16 : Tree := (.assume (.ff (.sel (.var 0) (.lit 256) 0)) (.assume (.ff (.sel (.var 0) (.lit 257) 0)) (.assume (.ff (.sel (.var 0) (.lit 258) 0)) (.assume (.ff (.sel (.var 0) (.lit 259) 0)) (.assume (.ff (.sel (.var 0) (.lit 260) 0)) (.assume (.ff (.sel (.var 0) (.lit 261) 0)) (.assume (.ff (.sel (.var 0) (.lit 262) 0)) (.assume (.ff (.sel (.var 0) (.lit 263) 0)) (.assume (.ff (.sel (.var 0) (.lit 264) 0)) (.assume (.ff (.sel (.var 0) (.lit 265) 0)) (.assume (.ff (.sel (.var 0) (.lit 266) 0)) (.assume (.ff (.sel (.var 0) (.lit 267) 0)) (.assume (.ff (.sel (.var 0) (.lit 268) 0)) (.assume (.ff (.sel (.var 0) (.lit 269) 0)) (.assume (.ff (.sel (.var 0) (.lit 270) 0)) (.assume (.ff (.sel (.var 0) (.lit 271) 0)) (.havoc false (.assume (.tt (.bin .le (.lit 0) (.var 1))) (.assume (.tt (.bin .le (.var 1) (.lit 1024))) (.branch (.bin .lt (.var 1) (.lit 1024)) (.assert (.tt (.bin .le (.lit 0) (.bin (.bits 6 .i64) (.var 1) (.lit 64)))) (.assert (.tt (.bin .lt (.bin (.bits 6 .i64) (.var 1) (.lit 64)) (.lit 16))) (.assert (.tt (.bin .le (.lit 0) (.bin .add (.bin (.bits 6 .i64) (.var 1) (.lit 64)) (.lit 256)))) (.assert (.tt (.bin .lt (.bin .add (.bin (.bits 6 .i64) (.var 1) (.lit 64)) (.lit 256)) (.lit 352))) (.assert (.tt (.bin .le (.lit 0) (.bin .tmod (.var 1) (.lit 64)))) (.branch (.bin .eq (.bin (.bits 0 .u64) (.bin (.bits 5 .u64) (.sel (.var 0) (.bin .add (.bin (.bits 6 .i64) (.var 1) (.lit 64)) (.lit 256)) 0) (.bin .tmod (.var 1) (.lit 64))) (.lit 1)) (.lit 1)) (.fail 20) (.assert (.rng .i64 (.bin .add (.var 1) (.lit 1))) (.assert (.tt (.bin .le (.lit 0) (.bin .add (.var 1) (.lit 1)))) (.assert (.tt (.bin .le (.bin .add (.var 1) (.lit 1)) (.lit 1024))) (.assert (.tt (.bin .le (.lit 0) (.bin .sub (.lit 1024) (.bin .add (.var 1) (.lit 1))))) (.assert (.tt (.bin .lt (.bin .sub (.lit 1024) (.bin .add (.var 1) (.lit 1))) (.bin .sub (.lit 1024) (.var 1)))) .ok))))))))))) .ok))))))))))))))))))))
def tAll17 : Tree := (.assume (.ff (.sel (.var 0) (.lit 272) 0)) (.assume (.ff (.sel (.var 0) (.lit 273) 0)) (.assume (.ff (.sel (.var 0) (.lit 274) 0)) (.assume (.ff (.sel (.var 0) (.lit 275) 0)) (.assume (.ff (.sel (.var 0) (.lit 276) 0)) (.assume (.ff (.sel (.var 0) (.lit 277) 0)) (.assume (.ff (.sel (.var 0) (.lit 278) 0)) (.assume (.ff (.sel (.var 0) (.lit 279) 0)) (.assume (.ff (.sel (.var 0) (.lit 280) 0)) (.assume (.ff (.sel (.var 0) (.lit 281) 0)) (.assume (.ff (.sel (.var 0) (.lit 282) 0)) (.assume (.ff (.sel (.var 0) (.lit 283) 0)) (.assume (.ff (.sel (.var 0) (.lit 284) 0)) (.assume (.ff (.sel (.var 0) (.lit 285) 0)) (.assume (.ff (.sel (.var 0) (.lit 286) 0)) (.assume (.ff (.sel (.var 0) (.lit 287) 0)) (.havoc false (.assume (.tt (.bin .le (.lit 0) (.var 1))) (.assume (.tt (.bin .le (.var 1) (.lit 1024))) (.branch (.bin .lt (.var 1) (.lit 1024)) (.assert (.tt (.bin .le (.lit 0) (.bin (.bits 6 .i64) (.var 1) (.lit 64)))) (.assert (.tt (.bin .lt (.bin (.bits 6 .i64) (.var 1) (.lit 64)) (.lit 16))) (.assert (.tt (.bin .le (.lit 0) (.bin .add (.bin (.bits 6 .i64) (.var 1) (.lit 64)) (.lit 272)))) (.assert (.tt (.bin .lt (.bin .add (.bin (.bits 6 .i64) (.var 1) (.lit 64)) (.lit 272)) (.lit 352))) (.assert (.tt (.bin .le (.lit 0) (.bin .tmod (.var 1) (.lit 64)))) (.branch (.bin .eq (.bin (.bits 0 .u64) (.bin (.bits 5 .u64) (.sel (.var 0) (.bin .add (.bin (.bits 6 .i64) (.var 1) (.lit 64)) (.lit 272)) 0) (.bin .tmod (.var 1) (.lit 64))) (.lit 1)) (.lit 1)) (.fail 20) (.assert (.rng .i64 (.bin .add (.var 1) (.lit 1))) (.assert (.tt (.bin .le (.lit 0) (.bin .add (.var 1) (.lit 1)))) (.assert (.tt (.bin .le (.bin .add (.var 1) (.lit 1)) (.lit 1024))) (.assert (.tt (.bin .le (.lit 0) (.bin .sub (.lit 1024) (.bin .add (.var 1) (.lit 1))))) (.assert (.tt (.bin .lt (.bin .sub (.lit 1024) (.bin .add (.var 1) (.lit 1))) (.bin .sub (.lit 1024) (.var 1)))) .ok))))))))))) .ok))))))))))))))))))))
def tAll18 : Tree := (.assume (.ff (.sel (.var 0) (.lit 288) 0)) (.assume (.ff (.sel (.var 0) (.lit 289) 0)) (.assume (.ff (.sel (.var 0) (.lit 290) 0)) (.assume (.ff (.sel (.var 0) (.lit 291) 0)) (.assume (.ff (.sel (.var 0) (.lit 292) 0)) (.assume (.ff (.sel (.var 0) (.lit 293) 0)) (.assume (.ff (.sel (.var 0) (.lit 294) 0)) (.assume (.ff (.sel (.var 0) (.lit 295) 0)) (.assume (.ff (.sel (.var 0) (.lit 296) 0)) (.assume (.ff (.sel (.var 0) (.lit 297) 0)) (.assume (.ff (.sel (.var 0) (.lit 298) 0)) (.assume (.ff (.sel (.var 0) (.lit 299) 0)) (.assume (.ff (.sel (.var 0) (.lit 300) 0)) (.assume (.ff (.sel (.var 0) (.lit 301) 0)) (.assume (.ff (.sel (.var 0) (.lit 302) 0)) (.assume (.ff (.sel (.var 0) (.lit 303) 0)) (.havoc false (.assume (.tt (.bin .le (.lit 0) (.var 1))) (.assume (.tt (.bin .le (.var 1) (.lit 1024))) (.branch (.bin .lt (.var 1) (.lit 1024)) (.assert (.tt (.bin .le (.lit 0) (.bin (.bits 6 .i64) (.var 1) (.lit 64)))) (.assert (.tt (.bin .lt (.bin (.bits 6 .i64) (.var 1) (.lit 64)) (.lit 16))) (.assert (.tt (.bin .le (.lit 0) (.bin .add (.bin (.bits 6 .i64) (.var 1) (.lit 64)) (.lit 288)))) (.assert (.tt (.bin .lt (.bin .add (.bin (.bits 6 .i64) (.var 1) (.lit 64)) (.lit 288)) (.lit 352))) (.assert (.tt (.bin .le (.lit 0) (.bin .tmod (.var 1) (.lit 64)))) (.branch (.bin .eq (.bin (.bits 0 .u64) (.bin (.bits 5 .u64) (.sel (.var 0) (.bin .add (.bin (.bits 6 .i64) (.var 1) (.lit 64)) (.lit 288)) 0) (.bin .tmod (.var 1) (.lit 64))) (.lit 1)) (.lit 1)) (.fail 20) (.assert (.rng .i64 (.bin .add (.var 1) (.lit 1))) (.assert (.tt (.bin .le (.lit 0) (.bin .add (.var 1) (.lit 1)))) (.assert (.tt (.bin .le (.bin .add (.var 1) (.lit 1)) (.lit 1024))) (.assert (.tt (.bin .le (.lit 0) (.bin .sub (.lit 1024) (.bin .add (.var 1) (.lit 1))))) (.assert (.tt (.bin .lt (.bin .sub (.lit 1024) (.bin .add (.var 1) (.lit 1))) (.bin .sub (.lit 1024) (.var 1)))) .ok))))))))))) .ok))))))))))))))))))))
def tAll19 : Tree := (.assume (.ff (.sel (.var 0) (.lit 304) 0)) (.assume (.ff (.sel (.var 0) (.lit 305) 0)) (.assume (.ff (.sel (.var 0) (.lit 306) 0)) (.assume (.ff (.sel (.var 0) (.lit 307) 0)) (.assume (.ff (.sel (.var 0) (.lit 308) 0)) (.assume (.ff (.sel (.var 0) (.lit 309) 0)) (.assume (.ff (.sel (.var 0) (.lit 310) 0)) (.assume (.ff (.sel (.var 0) (.lit 311) 0)) (.assume (.ff (.sel (.var 0) (.lit 312) 0)) (.assume (.ff (.sel (.var 0) (.lit 313) 0)) (.assume (.ff (.sel (.var 0) (.lit 314) 0)) (.assume (.ff (.sel (.var 0) (.lit 315) 0)) (.assume (.ff (.sel (.var 0) (.lit 316) 0)) (.assume (.ff (.sel (.var 0) (.lit 317) 0)) (.assume (.ff (.sel (.var 0) (.lit 318) 0)) (.assume (.ff (.sel (.var 0) (.lit 319) 0)) (.havoc false (.assume (.tt (.bin .le (.lit 0) (.var 1))) (.assume (.tt (.bin .le (.var 1) (.lit 1024))) (.branch (.bin .lt (.var 1) (.lit 1024)) (.assert (.tt (.bin .le (.lit 0) (.bin (.bits 6 .i64) (.var 1) (.lit 64)))) (.assert (.tt (.bin .lt (.bin (.bits 6 .i64) (.var 1) (.lit 64)) (.lit 16))) (.assert (.tt (.bin .le (.lit 0) (.bin .add (.bin (.bits 6 .i64) (.var 1) (.lit 64)) (.lit 304)))) (.assert (.tt (.bin .lt (.bin .add (.bin (.bits 6 .i64) (.var 1) (.lit 64)) (.lit 304)) (.lit 352))) (.assert (.tt (.bin .le (.lit 0) (.bin .tmod (.var 1) (.lit 64)))) (.branch (.bin .eq (.bin (.bits 0 .u64) (.bin (.bits 5 .u64) (.sel (.var 0) (.bin .add (.bin (.bits 6 .i64) (.var 1) (.lit 64)) (.lit 304)) 0) (.bin .tmod (.var 1) (.lit 64))) (.lit 1)) (.lit 1)) (.fail 20) (.assert (.rng .i64 (.bin .add (.var 1) (.lit 1))) (.assert (.tt (.bin .le (.lit 0) (.bin .add (.var 1) (.lit 1)))) (.assert (.tt (.bin .le (.bin .add (.var 1) (.lit 1)) (.lit 1024))) (.assert (.tt (.bin .le (.lit 0) (.bin .sub (.lit 1024) (.bin .add (.var 1) (.lit 1))))) (.assert (.tt (.bin .lt (.bin .sub (.lit 1024) (.bin .add (.var 1) (.lit 1))) (.bin .sub (.lit 1024) (.var 1)))) .ok))))))))))) .ok))))))))))))))))))))
def tAll20 : Tree := (.assume (.ff (.sel (.var 0) (.lit 320) 0)) (.assume (.ff (.sel (.var 0) (.lit 321) 0)) (.assume (.ff (.sel (.var 0) (.lit 322) 0)) (.assume (.ff (.sel (.var 0) (.lit 323) 0)) (.assume (.ff (.sel (.var 0) (.lit 324) 0)) (.assume (.ff (.sel (.var 0) (.lit 325) 0)) (.assume (.ff (.sel (.var 0) (.lit 326) 0)) (.assume (.ff (.sel (.var 0) (.lit 327) 0)) (.assume (.ff (.sel (.var 0) (.lit 328) 0)) (.assume (.ff (.sel (.var 0) (.lit 329) 0)) (.assume (.ff (.sel (.var 0) (.lit 330) 0)) (.assume (.ff (.sel (.var 0) (.lit 331) 0)) (.assume (.ff (.sel (.var 0) (.lit 332) 0)) (.assume (.ff (.sel (.var 0) (.lit 333) 0)) (.assume (.ff (.sel (.var 0) (.lit 334) 0)) (.assume (.ff (.sel (.var 0) (.lit 335) 0)) (.havoc false (.assume (.tt (.bin .le (.lit 0) (.var 1))) (.assume (.tt (.bin .le (.var 1) (.lit 1024))) (.branch (.bin .lt (.var 1) (.lit 1024)) (.assert (.tt (.bin .le (.lit 0) (.bin (.bits 6 .i64) (.var 1) (.lit 64)))) (.assert (.tt (.bin .lt (.bin (.bits 6 .i64) (.var 1) (.lit 64)) (.lit 16))) (.assert (.tt (.bin .le (.lit 0) (.bin .add (.bin (.bits 6 .i64) (.var 1) (.lit 64)) (.lit 320)))) (.assert (.tt (.bin .lt (.bin .add (.bin (.bits 6 .i64) (.var 1) (.lit 64)) (.lit 320)) (.lit 352))) (.assert (.tt (.bin .le (.lit 0) (.bin .tmod (.var 1) (.lit 64)))) (.branch (.bin .eq (.bin (.bits 0 .u64) (.bin (.bits 5 .u64) (.sel (.var 0) (.bin .add (.bin (.bits 6 .i64) (.var 1) (.lit 64)) (.lit 320)) 0) (.bin .tmod (.var 1) (.lit 64))) (.lit 1)) (.lit 1)) (.fail 20) (.assert (.rng .i64 (.bin .add (.var 1) (.lit 1))) (.assert (.tt (.bin .le (.lit 0) (.bin .add (.var 1) (.lit 1)))) (.assert (.tt (.bin .le (.bin .add (.var 1) (.lit 1)) (.lit 1024))) (.assert (.tt (.bin .le (.lit 0) (.bin .sub (.lit 1024) (.bin .add (.var 1) (.lit 1))))) (.assert (.tt (.bin .lt (.bin .sub (.lit 1024) (.bin .add (.var 1) (.lit 1))) (.bin .sub (.lit 1024) (.var 1)))) .ok))))))))))) .ok))))))))))))))))))))
def tAll21 : Tree := (.assume (.ff (.sel (.var 0) (.lit 336) 0)) (.assume (.ff (.sel (.var 0) (.lit 337) 0)) (.assume (.ff (.sel (.var 0) (.lit 338) 0)) (.assume (.ff (.sel (.var 0) (.lit 339) 0)) (.assume (.ff (.sel (.var 0) (.lit 340) 0)) (.assume (.ff (.sel (.var 0) (.lit 341) 0)) (.assume (.ff (.sel (.var 0) (.lit 342) 0)) (.assume (.ff (.sel (.var 0) (.lit 343) 0)) (.assume (.ff (.sel (.var 0) (.lit 344) 0)) (.assume (.ff (.sel (.var 0) (.lit 345) 0)) (.assume (.ff (.sel (.var 0) (.lit 346) 0)) (.assume (.ff (.sel (.var 0) (.lit 347) 0)) (.assume (.ff (.sel (.var 0) (.lit 348) 0)) (.assume (.ff (.sel (.var 0) (.lit 349) 0)) (.assume (.ff (.sel (.var 0) (.lit 350) 0)) (.assume (.ff (.sel (.var 0) (.lit 351) 0)) (.havoc false (.assume (.tt (.bin .le (.lit 0) (.var 1))) (.assume (.tt (.bin .le (.var 1) (.lit 1024))) (.branch (.bin .lt (.var 1) (.lit 1024)) (.assert (.tt (.bin .le (.lit 0) (.bin (.bits 6 .i64) (.var 1) (.lit 64)))) (.assert (.tt (.bin .lt (.bin (.bits 6 .i64) (.var 1) (.lit 64)) (.lit 16))) (.assert (.tt (.bin .le (.lit 0) (.bin .add (.bin (.bits 6 .i64) (.var 1) (.lit 64)) (.lit 336)))) (.assert (.tt (.bin .lt (.bin .add (.bin (.bits 6 .i64) (.var 1) (.lit 64)) (.lit 336)) (.lit 352))) (.assert (.tt (.bin .le (.lit 0) (.bin .tmod (.var 1) (.lit 64)))) (.branch (.bin .eq (.bin (.bits 0 .u64) (.bin (.bits 5 .u64) (.sel (.var 0) (.bin .add (.bin (.bits 6 .i64) (.var 1) (.lit 64)) (.lit 336)) 0) (.bin .tmod (.var 1) (.lit 64))) (.lit 1)) (.lit 1)) (.fail 20) (.assert (.rng .i64 (.bin .add (.var 1) (.lit 1))) (.assert (.tt (.bin .le (.lit 0) (.bin .add (.var 1) (.lit 1)))) (.assert (.tt (.bin .le (.bin .add (.var 1) (.lit 1)) (.lit 1024))) (.assert (.tt (.bin .le (.lit 0) (.bin .sub (.lit 1024) (.bin .add (.var 1) (.lit 1))))) (.assert (.tt (.bin .lt (.bin .sub (.lit 1024) (.bin .add (.var 1) (.lit 1))) (.bin .sub (.lit 1024) (.var 1)))) .ok))))))))))) .ok))))))))))))))))))))
end Go.Mg

namespace Go.Mg
open Go Go.Sx
variable {I : Itp}

theorem words {f : Int → Nat → Int} {c x : Int} (h : ∀ i : Nat, i < 16 → f (c + i) 0 = 0) (h0 : 0 ≤ x) (h1 : x < 1024) : f (x / 64 + c) 0 = 0 := by
  have := h (x / 64).toNat (by omega)
  rw [← this]; congr 1; omega

theorem vCounts : ∀ ds, Sorts cCounts.sorts ds → tCounts.vc I ds := by
  refine all_t fun T => all_n ?_
  set_option linter.unusedSimpArgs false in
  simp only [tCounts, Tree.vc, PE.den, E.den, dens, BO.ev, List.getElem?_cons_zero, List.getElem?_cons_succ, List.cons_append, List.nil_append, Option.some.injEq, D.i.injEq, D.t.injEq, exists_eq_left', exists_const, forall_const, forall_eq', one_ne, one_eq, zero_ne, zero_eq, min_i64, max_i64, min_u8, max_u8, min_u16, max_u16, min_u32, max_u32, min_u64, max_u64, and_true, true_and]
  intro hT a b c d e x h0 h1 h2 h3 h4 h5 h6 h7 h8 h9 h10 h11
  have hx := hT x
  generalize T x 0 = k at *
  generalize T x 1 = y at *
  clear hT
  refine ⟨fun h => ?_, fun _ => trivial⟩
  repeat' (first | omega | (intro _) | (refine And.intro ?_ ?_) | trivial)
theorem vState : ∀ ds, Sorts cState.sorts ds → tState.vc I ds := by
  refine all_t fun T => all_n ?_
  set_option linter.unusedSimpArgs false in
  simp only [tState, Tree.vc, PE.den, E.den, dens, BO.ev, List.getElem?_cons_zero, List.getElem?_cons_succ, List.cons_append, List.nil_append, Option.some.injEq, D.i.injEq, D.t.injEq, exists_eq_left', exists_const, forall_const, forall_eq', one_ne, one_eq, zero_ne, zero_eq, min_i64, max_i64, min_u8, max_u8, min_u16, max_u16, min_u32, max_u32, min_u64, max_u64, and_true, true_and]
  intro hT x h0 h1
  have hx := hT x
  have hx : T x 0 = 0 := by omega
  rw [hx]
  clear hT
  refine ⟨fun h => ?_, fun _ => trivial⟩
  repeat' (first | omega | (intro _) | (refine And.intro ?_ ?_) | trivial)
theorem vAll0 : ∀ ds, Sorts (cAll 0).sorts ds → tAll0.vc I ds := by
  refine all_t fun T => all_n ?_
  set_option linter.unusedSimpArgs false in
  simp only [tAll0, Tree.vc, PE.den, E.den, dens, BO.ev, List.getElem?_cons_zero, List.getElem?_cons_succ, List.cons_append, List.nil_append, Option.some.injEq, D.i.injEq, D.t.injEq, exists_eq_left', exists_const, forall_const, forall_eq', one_ne, one_eq, zero_ne, zero_eq, min_i64, max_i64, min_u8, max_u8, min_u16, max_u16, min_u32, max_u32, min_u64, max_u64, and_true, true_and]
  intro a0 a1 a2 a3 a4 a5 a6 a7 a8 a9 a10 a11 a12 a13 a14 a15 x h0 h1
  refine ⟨fun h => ?_, fun _ => trivial⟩
  have hw := words (f := T) (c := 0) (x := x) (fun i hi => by
    match i, hi with
    | 0, _ => exact a0 | 1, _ => exact a1 | 2, _ => exact a2 | 3, _ => exact a3 | 4, _ => exact a4 | 5, _ => exact a5 | 6, _ => exact a6 | 7, _ => exact a7
    | 8, _ => exact a8 | 9, _ => exact a9 | 10, _ => exact a10 | 11, _ => exact a11 | 12, _ => exact a12 | 13, _ => exact a13 | 14, _ => exact a14 | 15, _ => exact a15
    | n + 16, hi => omega) h0 h
  rw [quo64 h0 h]; simp only [Int.add_zero] at hw
  rw [hw, bits_zero]
  have hm : x.tmod 64 = x % 64 := Int.tmod_eq_emod_of_nonneg h0
  rw [hm]
  clear a0 a1 a2 a3 a4 a5 a6 a7 a8 a9 a10 a11 a12 a13 a14 a15 hw
  repeat' (first | omega | (intro _) | (refine And.intro ?_ ?_) | trivial)
theorem vAll1 : ∀ ds, Sorts (cAll 1).sorts ds → tAll1.vc I ds := by
  refine all_t fun T => all_n ?_
  set_option linter.unusedSimpArgs false in
  simp only [tAll1, Tree.vc, PE.den, E.den, dens, BO.ev, List.getElem?_cons_zero, List.getElem?_cons_succ, List.cons_append, List.nil_append, Option.some.injEq, D.i.injEq, D.t.injEq, exists_eq_left', exists_const, forall_const, forall_eq', one_ne, one_eq, zero_ne, zero_eq, min_i64, max_i64, min_u8, max_u8, min_u16, max_u16, min_u32, max_u32, min_u64, max_u64, and_true, true_and]
  intro a0 a1 a2 a3 a4 a5 a6 a7 a8 a9 a10 a11 a12 a13 a14 a15 x h0 h1
  refine ⟨fun h => ?_, fun _ => trivial⟩
  have hw := words (f := T) (c := 16) (x := x) (fun i hi => by
    match i, hi with
    | 0, _ => exact a0 | 1, _ => exact a1 | 2, _ => exact a2 | 3, _ => exact a3 | 4, _ => exact a4 | 5, _ => exact a5 | 6, _ => exact a6 | 7, _ => exact a7
    | 8, _ => exact a8 | 9, _ => exact a9 | 10, _ => exact a10 | 11, _ => exact a11 | 12, _ => exact a12 | 13, _ => exact a13 | 14, _ => exact a14 | 15, _ => exact a15
    | n + 16, hi => omega) h0 h
  rw [quo64 h0 h]
  rw [hw, bits_zero]
  have hm : x.tmod 64 = x % 64 := Int.tmod_eq_emod_of_nonneg h0
  rw [hm]
  clear a0 a1 a2 a3 a4 a5 a6 a7 a8 a9 a10 a11 a12 a13 a14 a15 hw
  repeat' (first | omega | (intro _) | (refine And.intro ?_ ?_) | trivial)
theorem vAll2 : ∀ ds, Sorts (cAll 2).sorts ds → tAll2.vc I ds := by
  refine all_t fun T => all_n ?_
  set_option linter.unusedSimpArgs false in
  simp only [tAll2, Tree.vc, PE.den, E.den, dens, BO.ev, List.getElem?_cons_zero, List.getElem?_cons_succ, List.cons_append, List.nil_append, Option.some.injEq, D.i.injEq, D.t.injEq, exists_eq_left', exists_const, forall_const, forall_eq', one_ne, one_eq, zero_ne, zero_eq, min_i64, max_i64, min_u8, max_u8, min_u16, max_u16, min_u32, max_u32, min_u64, max_u64, and_true, true_and]
  intro a0 a1 a2 a3 a4 a5 a6 a7 a8 a9 a10 a11 a12 a13 a14 a15 x h0 h1
  refine ⟨fun h => ?_, fun _ => trivial⟩
  have hw := words (f := T) (c := 32) (x := x) (fun i hi => by
    match i, hi with
    | 0, _ => exact a0 | 1, _ => exact a1 | 2, _ => exact a2 | 3, _ => exact a3 | 4, _ => exact a4 | 5, _ => exact a5 | 6, _ => exact a6 | 7, _ => exact a7
    | 8, _ => exact a8 | 9, _ => exact a9 | 10, _ => exact a10 | 11, _ => exact a11 | 12, _ => exact a12 | 13, _ => exact a13 | 14, _ => exact a14 | 15, _ => exact a15
    | n + 16, hi => omega) h0 h
  rw [quo64 h0 h]
  rw [hw, bits_zero]
  have hm : x.tmod 64 = x % 64 := Int.tmod_eq_emod_of_nonneg h0
  rw [hm]
  clear a0 a1 a2 a3 a4 a5 a6 a7 a8 a9 a10 a11 a12 a13 a14 a15 hw
  repeat' (first | omega | (intro _) | (refine And.intro ?_ ?_) | trivial)
theorem vAll3 : ∀ ds, Sorts (cAll 3).sorts ds → tAll3.vc I ds := by
  refine all_t fun T => all_n ?_
  set_option linter.unusedSimpArgs false in
  simp only [tAll3, Tree.vc, PE.den, E.den, dens, BO.ev, List.getElem?_cons_zero, List.getElem?_cons_succ, List.cons_append, List.nil_append, Option.some.injEq, D.i.injEq, D.t.injEq, exists_eq_left', exists_const, forall_const, forall_eq', one_ne, one_eq, zero_ne, zero_eq, min_i64, max_i64, min_u8, max_u8, min_u16, max_u16, min_u32, max_u32, min_u64, max_u64, and_true, true_and]
  intro a0 a1 a2 a3 a4 a5 a6 a7 a8 a9 a10 a11 a12 a13 a14 a15 x h0 h1
  refine ⟨fun h => ?_, fun _ => trivial⟩
  have hw := words (f := T) (c := 48) (x := x) (fun i hi => by
    match i, hi with
    | 0, _ => exact a0 | 1, _ => exact a1 | 2, _ => exact a2 | 3, _ => exact a3 | 4, _ => exact a4 | 5, _ => exact a5 | 6, _ => exact a6 | 7, _ => exact a7
    | 8, _ => exact a8 | 9, _ => exact a9 | 10, _ => exact a10 | 11, _ => exact a11 | 12, _ => exact a12 | 13, _ => exact a13 | 14, _ => exact a14 | 15, _ => exact a15
    | n + 16, hi => omega) h0 h
  rw [quo64 h0 h]
  rw [hw, bits_zero]
  have hm : x.tmod 64 = x % 64 := Int.tmod_eq_emod_of_nonneg h0
  rw [hm]
  clear a0 a1 a2 a3 a4 a5 a6 a7 a8 a9 a10 a11 a12 a13 a14 a15 hw
  repeat' (first | omega | (intro _) | (refine And.intro ?_ ?_) | trivial)
theorem vAll4 : ∀ ds, Sorts (cAll 4).sorts ds → tAll4.vc I ds := by
  refine all_t fun T => all_n ?_
  set_option linter.unusedSimpArgs false in
  simp only [tAll4, Tree.vc, PE.den, E.den, dens, BO.ev, List.getElem?_cons_zero, List.getElem?_cons_succ, List.cons_append, List.nil_append, Option.some.injEq, D.i.injEq, D.t.injEq, exists_eq_left', exists_const, forall_const, forall_eq', one_ne, one_eq, zero_ne, zero_eq, min_i64, max_i64, min_u8, max_u8, min_u16, max_u16, min_u32, max_u32, min_u64, max_u64, and_true, true_and]
  intro a0 a1 a2 a3 a4 a5 a6 a7 a8 a9 a10 a11 a12 a13 a14 a15 x h0 h1
  refine ⟨fun h => ?_, fun _ => trivial⟩
  have hw := words (f := T) (c := 64) (x := x) (fun i hi => by
    match i, hi with
    | 0, _ => exact a0 | 1, _ => exact a1 | 2, _ => exact a2 | 3, _ => exact a3 | 4, _ => exact a4 | 5, _ => exact a5 | 6, _ => exact a6 | 7, _ => exact a7
    | 8, _ => exact a8 | 9, _ => exact a9 | 10, _ => exact a10 | 11, _ => exact a11 | 12, _ => exact a12 | 13, _ => exact a13 | 14, _ => exact a14 | 15, _ => exact a15
    | n + 16, hi => omega) h0 h
  rw [quo64 h0 h]
  rw [hw, bits_zero]
  have hm : x.tmod 64 = x % 64 := Int.tmod_eq_emod_of_nonneg h0
  rw [hm]
  clear a0 a1 a2 a3 a4 a5 a6 a7 a8 a9 a10 a11 a12 a13 a14 a15 hw
  repeat' (first | omega | (intro _) | (refine And.intro ?_ ?_) | trivial)
theorem vAll5 : ∀ ds, Sorts (cAll 5).sorts ds → tAll5.vc I ds := by
  refine all_t fun T => all_n ?_
  set_option linter.unusedSimpArgs false in
  simp only [tAll5, Tree.vc, PE.den, E.den, dens, BO.ev, List.getElem?_cons_zero, List.getElem?_cons_succ, List.cons_append, List.nil_append, Option.some.injEq, D.i.injEq, D.t.injEq, exists_eq_left', exists_const, forall_const, forall_eq', one_ne, one_eq, zero_ne, zero_eq, min_i64, max_i64, min_u8, max_u8, min_u16, max_u16, min_u32, max_u32, min_u64, max_u64, and_true, true_and]
  intro a0 a1 a2 a3 a4 a5 a6 a7 a8 a9 a10 a11 a12 a13 a14 a15 x h0 h1
  refine ⟨fun h => ?_, fun _ => trivial⟩
  have hw := words (f := T) (c := 80) (x := x) (fun i hi => by
    match i, hi with
    | 0, _ => exact a0 | 1, _ => exact a1 | 2, _ => exact a2 | 3, _ => exact a3 | 4, _ => exact a4 | 5, _ => exact a5 | 6, _ => exact a6 | 7, _ => exact a7
    | 8, _ => exact a8 | 9, _ => exact a9 | 10, _ => exact a10 | 11, _ => exact a11 | 12, _ => exact a12 | 13, _ => exact a13 | 14, _ => exact a14 | 15, _ => exact a15
    | n + 16, hi => omega) h0 h
  rw [quo64 h0 h]
  rw [hw, bits_zero]
  have hm : x.tmod 64 = x % 64 := Int.tmod_eq_emod_of_nonneg h0
  rw [hm]
  clear a0 a1 a2 a3 a4 a5 a6 a7 a8 a9 a10 a11 a12 a13 a14 a15 hw
  repeat' (first | omega | (intro _) | (refine And.intro ?_ ?_) | trivial)
theorem vAll6 : ∀ ds, Sorts (cAll 6).sorts ds → tAll6.vc I ds := by
  refine all_t fun T => all_n ?_
  set_option linter.unusedSimpArgs false in
  simp only [tAll6, Tree.vc, PE.den, E.den, dens, BO.ev, List.getElem?_cons_zero, List.getElem?_cons_succ, List.cons_append, List.nil_append, Option.some.injEq, D.i.injEq, D.t.injEq, exists_eq_left', exists_const, forall_const, forall_eq', one_ne, one_eq, zero_ne, zero_eq, min_i64, max_i64, min_u8, max_u8, min_u16, max_u16, min_u32, max_u32, min_u64, max_u64, and_true, true_and]
  intro a0 a1 a2 a3 a4 a5 a6 a7 a8 a9 a10 a11 a12 a13 a14 a15 x h0 h1
  refine ⟨fun h => ?_, fun _ => trivial⟩
  have hw := words (f := T) (c := 96) (x := x) (fun i hi => by
    match i, hi with
    | 0, _ => exact a0 | 1, _ => exact a1 | 2, _ => exact a2 | 3, _ => exact a3 | 4, _ => exact a4 | 5, _ => exact a5 | 6, _ => exact a6 | 7, _ => exact a7
    | 8, _ => exact a8 | 9, _ => exact a9 | 10, _ => exact a10 | 11, _ => exact a11 | 12, _ => exact a12 | 13, _ => exact a13 | 14, _ => exact a14 | 15, _ => exact a15
    | n + 16, hi => omega) h0 h
  rw [quo64 h0 h]
  rw [hw, bits_zero]
  have hm : x.tmod 64 = x % 64 := Int.tmod_eq_emod_of_nonneg h0
  rw [hm]
  clear a0 a1 a2 a3 a4 a5 a6 a7 a8 a9 a10 a11 a12 a13 a14 a15 hw
  repeat' (first | omega | (intro _) | (refine And.intro ?_ ?_) | trivial)
theorem vAll7 : ∀ ds, Sorts (cAll 7).sorts ds → tAll7.vc I ds := by
  refine all_t fun T => all_n ?_
  set_option linter.unusedSimpArgs false in
  simp only [tAll7, Tree.vc, PE.den, E.den, dens, BO.ev, List.getElem?_cons_zero, List.getElem?_cons_succ, List.cons_append, List.nil_append, Option.some.injEq, D.i.injEq, D.t.injEq, exists_eq_left', exists_const, forall_const, forall_eq', one_ne, one_eq, zero_ne, zero_eq, min_i64, max_i64, min_u8, max_u8, min_u16, max_u16, min_u32, max_u32, min_u64, max_u64, and_true, true_and]
  intro a0 a1 a2 a3 a4 a5 a6 a7 a8 a9 a10 a11 a12 a13 a14 a15 x h0 h1
  refine ⟨fun h => ?_, fun _ => trivial⟩
  have hw := words (f := T) (c := 112) (x := x) (fun i hi => by
    match i, hi with
    | 0, _ => exact a0 | 1, _ => exact a1 | 2, _ => exact a2 | 3, _ => exact a3 | 4, _ => exact a4 | 5, _ => exact a5 | 6, _ => exact a6 | 7, _ => exact a7
    | 8, _ => exact a8 | 9, _ => exact a9 | 10, _ => exact a10 | 11, _ => exact a11 | 12, _ => exact a12 | 13, _ => exact a13 | 14, _ => exact a14 | 15, _ => exact a15
    | n + 16, hi => omega) h0 h
  rw [quo64 h0 h]
  rw [hw, bits_zero]
  have hm : x.tmod 64 = x % 64 := Int.tmod_eq_emod_of_nonneg h0
  rw [hm]
  clear a0 a1 a2 a3 a4 a5 a6 a7 a8 a9 a10 a11 a12 a13 a14 a15 hw
  repeat' (first | omega | (intro _) | (refine And.intro ?_ ?_) | trivial)
theorem vAll8 : ∀ ds, Sorts (cAll 8).sorts ds → tAll8.vc I ds := by
  refine all_t fun T => all_n ?_
  set_option linter.unusedSimpArgs false in
  simp only [tAll8, Tree.vc, PE.den, E.den, dens, BO.ev, List.getElem?_cons_zero, List.getElem?_cons_succ, List.cons_append, List.nil_append, Option.some.injEq, D.i.injEq, D.t.injEq, exists_eq_left', exists_const, forall_const, forall_eq', one_ne, one_eq, zero_ne, zero_eq, min_i64, max_i64, min_u8, max_u8, min_u16, max_u16, min_u32, max_u32, min_u64, max_u64, and_true, true_and]
  intro a0 a1 a2 a3 a4 a5 a6 a7 a8 a9 a10 a11 a12 a13 a14 a15 x h0 h1
  refine ⟨fun h => ?_, fun _ => trivial⟩
  have hw := words (f := T) (c := 128) (x := x) (fun i hi => by
    match i, hi with
    | 0, _ => exact a0 | 1, _ => exact a1 | 2, _ => exact a2 | 3, _ => exact a3 | 4, _ => exact a4 | 5, _ => exact a5 | 6, _ => exact a6 | 7, _ => exact a7
    | 8, _ => exact a8 | 9, _ => exact a9 | 10, _ => exact a10 | 11, _ => exact a11 | 12, _ => exact a12 | 13, _ => exact a13 | 14, _ => exact a14 | 15, _ => exact a15
    | n + 16, hi => omega) h0 h
  rw [quo64 h0 h]
  rw [hw, bits_zero]
  have hm : x.tmod 64 = x % 64 := Int.tmod_eq_emod_of_nonneg h0
  rw [hm]
  clear a0 a1 a2 a3 a4 a5 a6 a7 a8 a9 a10 a11 a12 a13 a14 a15 hw
  repeat' (first | omega | (intro _) | (refine And.intro ?_ ?_) | trivial)
theorem vAll9 : ∀ ds, Sorts (cAll 9).sorts ds → tAll9.vc I ds := by
  refine all_t fun T => all_n ?_
  set_option linter.unusedSimpArgs false in
  simp only [tAll9, Tree.vc, PE.den, E.den, dens, BO.ev, List.getElem?_cons_zero, List.getElem?_cons_succ, List.cons_append, List.nil_append, Option.some.injEq, D.i.injEq, D.t.injEq, exists_eq_left', exists_const, forall_const, forall_eq', one_ne, one_eq, zero_ne, zero_eq, min_i64, max_i64, min_u8, max_u8, min_u16, max_u16, min_u32, max_u32, min_u64, max_u64, and_true, true_and]
  intro a0 a1 a2 a3 a4 a5 a6 a7 a8 a9 a10 a11 a12 a13 a14 a15 x h0 h1
  refine ⟨fun h => ?_, fun _ => trivial⟩
  have hw := words (f := T) (c := 144) (x := x) (fun i hi => by
    match i, hi with
    | 0, _ => exact a0 | 1, _ => exact a1 | 2, _ => exact a2 | 3, _ => exact a3 | 4, _ => exact a4 | 5, _ => exact a5 | 6, _ => exact a6 | 7, _ => exact a7
    | 8, _ => exact a8 | 9, _ => exact a9 | 10, _ => exact a10 | 11, _ => exact a11 | 12, _ => exact a12 | 13, _ => exact a13 | 14, _ => exact a14 | 15, _ => exact a15
    | n + 16, hi => omega) h0 h
  rw [quo64 h0 h]
  rw [hw, bits_zero]
  have hm : x.tmod 64 = x % 64 := Int.tmod_eq_emod_of_nonneg h0
  rw [hm]
  clear a0 a1 a2 a3 a4 a5 a6 a7 a8 a9 a10 a11 a12 a13 a14 a15 hw
  repeat' (first | omega | (intro _) | (refine And.intro ?_ ?_) | trivial)
theorem vAll10 : ∀ ds, Sorts (cAll 10).sorts ds → tAll10.vc I ds := by
  refine all_t fun T => all_n ?_
  set_option linter.unusedSimpArgs false in
  simp only [tAll10, Tree.vc, PE.den, E.den, dens, BO.ev, List.getElem?_cons_zero, List.getElem?_cons_succ, List.cons_append, List.nil_append, Option.some.injEq, D.i.injEq, D.t.injEq, exists_eq_left', exists_const, forall_const, forall_eq', one_ne, one_eq, zero_ne, zero_eq, min_i64, max_i64, min_u8, max_u8, min_u16, max_u16, min_u32, max_u32, min_u64, max_u64, and_true, true_and]
  intro a0 a1 a2 a3 a4 a5 a6 a7 a8 a9 a10 a11 a12 a13 a14 a15 x h0 h1
  refine ⟨fun h => ?_, fun _ => trivial⟩
  have hw := words (f := T) (c := 160) (x := x) (fun i hi => by
    match i, hi with
    | 0, _ => exact a0 | 1, _ => exact a1 | 2, _ => exact a2 | 3, _ => exact a3 | 4, _ => exact a4 | 5, _ => exact a5 | 6, _ => exact a6 | 7, _ => exact a7
    | 8, _ => exact a8 | 9, _ => exact a9 | 10, _ => exact a10 | 11, _ => exact a11 | 12, _ => exact a12 | 13, _ => exact a13 | 14, _ => exact a14 | 15, _ => exact a15
    | n + 16, hi => omega) h0 h
  rw [quo64 h0 h]
  rw [hw, bits_zero]
  have hm : x.tmod 64 = x % 64 := Int.tmod_eq_emod_of_nonneg h0
  rw [hm]
  clear a0 a1 a2 a3 a4 a5 a6 a7 a8 a9 a10 a11 a12 a13 a14 a15 hw
  repeat' (first | omega | (intro _) | (refine And.intro ?_ ?_) | trivial)
theorem vAll11 : ∀ ds, Sorts (cAll 11).sorts ds → tAll11.vc I ds := by
  refine all_t fun T => all_n ?_
  set_option linter.unusedSimpArgs false in
  simp only [tAll11, Tree.vc, PE.den, E.den, dens, BO.ev, List.getElem?_cons_zero, List.getElem?_cons_succ, List.cons_append, List.nil_append, Option.some.injEq, D.i.injEq, D.t.injEq, exists_eq_left', exists_const, forall_const, forall_eq', one_ne, one_eq, zero_ne, zero_eq, min_i64, max_i64, min_u8, max_u8, min_u16, max_u16, min_u32, max_u32, min_u64, max_u64, and_true, true_and]
  intro a0 a1 a2 a3 a4 a5 a6 a7 a8 a9 a10 a11 a12 a13 a14 a15 x h0 h1
  refine ⟨fun h => ?_, fun _ => trivial⟩
  have hw := words (f := T) (c := 176) (x := x) (fun i hi => by
    match i, hi with
    | 0, _ => exact a0 | 1, _ => exact a1 | 2, _ => exact a2 | 3, _ => exact a3 | 4, _ => exact a4 | 5, _ => exact a5 | 6, _ => exact a6 | 7, _ => exact a7
    | 8, _ => exact a8 | 9, _ => exact a9 | 10, _ => exact a10 | 11, _ => exact a11 | 12, _ => exact a12 | 13, _ => exact a13 | 14, _ => exact a14 | 15, _ => exact a15
    | n + 16, hi => omega) h0 h
  rw [quo64 h0 h]
  rw [hw, bits_zero]
  have hm : x.tmod 64 = x % 64 := Int.tmod_eq_emod_of_nonneg h0
  rw [hm]
  clear a0 a1 a2 a3 a4 a5 a6 a7 a8 a9 a10 a11 a12 a13 a14 a15 hw
  repeat' (first | omega | (intro _) | (refine And.intro ?_ ?_) | trivial)
theorem vAll12 : ∀ ds, Sorts (cAll 12).sorts ds → tAll12.vc I ds := by
  refine all_t fun T => all_n ?_
  set_option linter.unusedSimpArgs false in
  simp only [tAll12, Tree.vc, PE.den, E.den, dens, BO.ev, List.getElem?_cons_zero, List.getElem?_cons_succ, List.cons_append, List.nil_append, Option.some.injEq, D.i.injEq, D.t.injEq, exists_eq_left', exists_const, forall_const, forall_eq', one_ne, one_eq, zero_ne, zero_eq, min_i64, max_i64, min_u8, max_u8, min_u16, max_u16, min_u32, max_u32, min_u64, max_u64, and_true, true_and]
  intro a0 a1 a2 a3 a4 a5 a6 a7 a8 a9 a10 a11 a12 a13 a14 a15 x h0 h1
  refine ⟨fun h => ?_, fun _ => trivial⟩
  have hw := words (f := T) (c := 192) (x := x) (fun i hi => by
    match i, hi with
    | 0, _ => exact a0 | 1, _ => exact a1 | 2, _ => exact a2 | 3, _ => exact a3 | 4, _ => exact a4 | 5, _ => exact a5 | 6, _ => exact a6 | 7, _ => exact a7
    | 8, _ => exact a8 | 9, _ => exact a9 | 10, _ => exact a10 | 11, _ => exact a11 | 12, _ => exact a12 | 13, _ => exact a13 | 14, _ => exact a14 | 15, _ => exact a15
    | n + 16, hi => omega) h0 h
  rw [quo64 h0 h]
  rw [hw, bits_zero]
  have hm : x.tmod 64 = x % 64 := Int.tmod_eq_emod_of_nonneg h0
  rw [hm]
  clear a0 a1 a2 a3 a4 a5 a6 a7 a8 a9 a10 a11 a12 a13 a14 a15 hw
  repeat' (first | omega | (intro _) | (refine And.intro ?_ ?_) | trivial)
theorem vAll13 : ∀ ds, Sorts (cAll 13).sorts ds → tAll13.vc I ds := by
  refine all_t fun T => all_n ?_
  set_option linter.unusedSimpArgs false in
  simp only [tAll13, Tree.vc, PE.den, E.den, dens, BO.ev, List.getElem?_cons_zero, List.getElem?_cons_succ, List.cons_append, List.nil_append, Option.some.injEq, D.i.injEq, D.t.injEq, exists_eq_left', exists_const, forall_const, forall_eq', one_ne, one_eq, zero_ne, zero_eq, min_i64, max_i64, min_u8, max_u8, min_u16, max_u16, min_u32, max_u32, min_u64, max_u64, and_true, true_and]
  intro a0 a1 a2 a3 a4 a5 a6 a7 a8 a9 a10 a11 a12 a13 a14 a15 x h0 h1
  refine ⟨fun h => ?_, fun _ => trivial⟩
  have hw := words (f := T) (c := 208) (x := x) (fun i hi => by
    match i, hi with
    | 0, _ => exact a0 | 1, _ => exact a1 | 2, _ => exact a2 | 3, _ => exact a3 | 4, _ => exact a4 | 5, _ => exact a5 | 6, _ => exact a6 | 7, _ => exact a7
    | 8, _ => exact a8 | 9, _ => exact a9 | 10, _ => exact a10 | 11, _ => exact a11 | 12, _ => exact a12 | 13, _ => exact a13 | 14, _ => exact a14 | 15, _ => exact a15
    | n + 16, hi => omega) h0 h
  rw [quo64 h0 h]
  rw [hw, bits_zero]
  have hm : x.tmod 64 = x % 64 := Int.tmod_eq_emod_of_nonneg h0
  rw [hm]
  clear a0 a1 a2 a3 a4 a5 a6 a7 a8 a9 a10 a11 a12 a13 a14 a15 hw
  repeat' (first | omega | (intro _) | (refine And.intro ?_ ?_) | trivial)
theorem vAll14 : ∀ ds, Sorts (cAll 14).sorts ds → tAll14.vc I ds := by
  refine all_t fun T => all_n ?_
  set_option linter.unusedSimpArgs false in
  simp only [tAll14, Tree.vc, PE.den, E.den, dens, BO.ev, List.getElem?_cons_zero, List.getElem?_cons_succ, List.cons_append, List.nil_append, Option.some.injEq, D.i.injEq, D.t.injEq, exists_eq_left', exists_const, forall_const, forall_eq', one_ne, one_eq, zero_ne, zero_eq, min_i64, max_i64, min_u8, max_u8, min_u16, max_u16, min_u32, max_u32, min_u64, max_u64, and_true, true_and]
  intro a0 a1 a2 a3 a4 a5 a6 a7 a8 a9 a10 a11 a12 a13 a14 a15 x h0 h1
  refine ⟨fun h => ?_, fun _ => trivial⟩
  have hw := words (f := T) (c := 224) (x := x) (fun i hi => by
    match i, hi with
    | 0, _ => exact a0 | 1, _ => exact a1 | 2, _ => exact a2 | 3, _ => exact a3 | 4, _ => exact a4 | 5, _ => exact a5 | 6, _ => exact a6 | 7, _ => exact a7
    | 8, _ => exact a8 | 9, _ => exact a9 | 10, _ => exact a10 | 11, _ => exact a11 | 12, _ => exact a12 | 13, _ => exact a13 | 14, _ => exact a14 | 15, _ => exact a15
    | n + 16, hi => omega) h0 h
  rw [quo64 h0 h]
  rw [hw, bits_zero]
  have hm : x.tmod 64 = x % 64 := Int.tmod_eq_emod_of_nonneg h0
  rw [hm]
  clear a0 a1 a2 a3 a4 a5 a6 a7 a8 a9 a10 a11 a12 a13 a14 a15 hw
  repeat' (first | omega | (intro _) | (refine And.intro ?_ ?_) | trivial)
theorem vAll15 : ∀ ds, Sorts (cAll 15).sorts ds → tAll15.vc I ds := by
  refine all_t fun T => all_n ?_
  set_option linter.unusedSimpArgs false in
  simp only [tAll15, Tree.vc, PE.den, E.den, dens, BO.ev, List.getElem?_cons_zero, List.getElem?_cons_succ, List.cons_append, List.nil_append, Option.some.injEq, D.i.injEq, D.t.injEq, exists_eq_left', exists_const, forall_const, forall_eq', one_ne, one_eq, zero_ne, zero_eq, min_i64, max_i64, min_u8, max_u8, min_u16, max_u16, min_u32, max_u32, min_u64, max_u64, and_true, true_and]
  intro a0 a1 a2 a3 a4 a5 a6 a7 a8 a9 a10 a11 a12 a13 a14 a15 x h0 h1
  refine ⟨fun h => ?_, fun _ => trivial⟩
  have hw := words (f := T) (c := 240) (x := x) (fun i hi => by
    match i, hi with
    | 0, _ => exact a0 | 1, _ => exact a1 | 2, _ => exact a2 | 3, _ => exact a3 | 4, _ => exact a4 | 5, _ => exact a5 | 6, _ => exact a6 | 7, _ => exact a7
    | 8, _ => exact a8 | 9, _ => exact a9 | 10, _ => exact a10 | 11, _ => exact a11 | 12, _ => exact a12 | 13, _ => exact a13 | 14, _ => exact a14 | 15, _ => exact a15
    | n + 16, hi => omega) h0 h
  rw [quo64 h0 h]
  rw [hw, bits_zero]
  have hm : x.tmod 64 = x % 64 := Int.tmod_eq_emod_of_nonneg h0
  rw [hm]
  clear a0 a1 a2 a3 a4 a5 a6 a7 a8 a9 a10 a11 a12 a13 a14 a15 hw
  repeat' (first | omega | (intro _) | (refine And.intro ?_ ?_) | trivial)
theorem vAll16 : ∀ ds, Sorts (cAll 16).sorts ds → tAll16.vc I ds := by
  refine all_t fun T => all_n ?_
  set_option linter.unusedSimpArgs false in
  simp only [tAll16, Tree.vc, PE.den, E.den, dens, BO.ev, List.getElem?_cons_zero, List.getElem?_cons_succ, List.cons_append, List.nil_append, Option.some.injEq, D.i.injEq, D.t.injEq, exists_eq_left', exists_const, forall_const, forall_eq', one_ne, one_eq, zero_ne, zero_eq, min_i64, max_i64, min_u8, max_u8, min_u16, max_u16, min_u32, max_u32, min_u64, max_u64, and_true, true_and]
  intro a0 a1 a2 a3 a4 a5 a6 a7 a8 a9 a10 a11 a12 a13 a14 a15 x h0 h1
  refine ⟨fun h => ?_, fun _ => trivial⟩
  have hw := words (f := T) (c := 256) (x := x) (fun i hi => by
    match i, hi with
    | 0, _ => exact a0 | 1, _ => exact a1 | 2, _ => exact a2 | 3, _ => exact a3 | 4, _ => exact a4 | 5, _ => exact a5 | 6, _ => exact a6 | 7, _ => exact a7
    | 8, _ => exact a8 | 9, _ => exact a9 | 10, _ => exact a10 | 11, _ => exact a11 | 12, _ => exact a12 | 13, _ => exact a13 | 14, _ => exact a14 | 15, _ => exact a15
    | n + 16, hi => omega) h0 h
  rw [quo64 h0 h]
  rw [hw, bits_zero]
  have hm : x.tmod 64 = x % 64 := Int.tmod_eq_emod_of_nonneg h0
  rw [hm]
  clear a0 a1 a2 a3 a4 a5 a6 a7 a8 a9 a10 a11 a12 a13 a14 a15 hw
  repeat' (first | omega | (intro _) | (refine And.intro ?_ ?_) | trivial)
theorem vAll17 : ∀ ds, Sorts (cAll 17).sorts ds → tAll17.vc I ds := by
  refine all_t fun T => all_n ?_
  set_option linter.unusedSimpArgs false in
  simp only [tAll17, Tree.vc, PE.den, E.den, dens, BO.ev, List.getElem?_cons_zero, List.getElem?_cons_succ, List.cons_append, List.nil_append, Option.some.injEq, D.i.injEq, D.t.injEq, exists_eq_left', exists_const, forall_const, forall_eq', one_ne, one_eq, zero_ne, zero_eq, min_i64, max_i64, min_u8, max_u8, min_u16, max_u16, min_u32, max_u32, min_u64, max_u64, and_true, true_and]
  intro a0 a1 a2 a3 a4 a5 a6 a7 a8 a9 a10 a11 a12 a13 a14 a15 x h0 h1
  refine ⟨fun h => ?_, fun _ => trivial⟩
  have hw := words (f := T) (c := 272) (x := x) (fun i hi => by
    match i, hi with
    | 0, _ => exact a0 | 1, _ => exact a1 | 2, _ => exact a2 | 3, _ => exact a3 | 4, _ => exact a4 | 5, _ => exact a5 | 6, _ => exact a6 | 7, _ => exact a7
    | 8, _ => exact a8 | 9, _ => exact a9 | 10, _ => exact a10 | 11, _ => exact a11 | 12, _ => exact a12 | 13, _ => exact a13 | 14, _ => exact a14 | 15, _ => exact a15
    | n + 16, hi => omega) h0 h
  rw [quo64 h0 h]
  rw [hw, bits_zero]
  have hm : x.tmod 64 = x % 64 := Int.tmod_eq_emod_of_nonneg h0
  rw [hm]
  clear a0 a1 a2 a3 a4 a5 a6 a7 a8 a9 a10 a11 a12 a13 a14 a15 hw
  repeat' (first | omega | (intro _) | (refine And.intro ?_ ?_) | trivial)
theorem vAll18 : ∀ ds, Sorts (cAll 18).sorts ds → tAll18.vc I ds := by
  refine all_t fun T => all_n ?_
  set_option linter.unusedSimpArgs false in
  simp only [tAll18, Tree.vc, PE.den, E.den, dens, BO.ev, List.getElem?_cons_zero, List.getElem?_cons_succ, List.cons_append, List.nil_append, Option.some.injEq, D.i.injEq, D.t.injEq, exists_eq_left', exists_const, forall_const, forall_eq', one_ne, one_eq, zero_ne, zero_eq, min_i64, max_i64, min_u8, max_u8, min_u16, max_u16, min_u32, max_u32, min_u64, max_u64, and_true, true_and]
  intro a0 a1 a2 a3 a4 a5 a6 a7 a8 a9 a10 a11 a12 a13 a14 a15 x h0 h1
  refine ⟨fun h => ?_, fun _ => trivial⟩
  have hw := words (f := T) (c := 288) (x := x) (fun i hi => by
    match i, hi with
    | 0, _ => exact a0 | 1, _ => exact a1 | 2, _ => exact a2 | 3, _ => exact a3 | 4, _ => exact a4 | 5, _ => exact a5 | 6, _ => exact a6 | 7, _ => exact a7
    | 8, _ => exact a8 | 9, _ => exact a9 | 10, _ => exact a10 | 11, _ => exact a11 | 12, _ => exact a12 | 13, _ => exact a13 | 14, _ => exact a14 | 15, _ => exact a15
    | n + 16, hi => omega) h0 h
  rw [quo64 h0 h]
  rw [hw, bits_zero]
  have hm : x.tmod 64 = x % 64 := Int.tmod_eq_emod_of_nonneg h0
  rw [hm]
  clear a0 a1 a2 a3 a4 a5 a6 a7 a8 a9 a10 a11 a12 a13 a14 a15 hw
  repeat' (first | omega | (intro _) | (refine And.intro ?_ ?_) | trivial)
theorem vAll19 : ∀ ds, Sorts (cAll 19).sorts ds → tAll19.vc I ds := by
  refine all_t fun T => all_n ?_
  set_option linter.unusedSimpArgs false in
  simp only [tAll19, Tree.vc, PE.den, E.den, dens, BO.ev, List.getElem?_cons_zero, List.getElem?_cons_succ, List.cons_append, List.nil_append, Option.some.injEq, D.i.injEq, D.t.injEq, exists_eq_left', exists_const, forall_const, forall_eq', one_ne, one_eq, zero_ne, zero_eq, min_i64, max_i64, min_u8, max_u8, min_u16, max_u16, min_u32, max_u32, min_u64, max_u64, and_true, true_and]
  intro a0 a1 a2 a3 a4 a5 a6 a7 a8 a9 a10 a11 a12 a13 a14 a15 x h0 h1
  refine ⟨fun h => ?_, fun _ => trivial⟩
  have hw := words (f := T) (c := 304) (x := x) (fun i hi => by
    match i, hi with
    | 0, _ => exact a0 | 1, _ => exact a1 | 2, _ => exact a2 | 3, _ => exact a3 | 4, _ => exact a4 | 5, _ => exact a5 | 6, _ => exact a6 | 7, _ => exact a7
    | 8, _ => exact a8 | 9, _ => exact a9 | 10, _ => exact a10 | 11, _ => exact a11 | 12, _ => exact a12 | 13, _ => exact a13 | 14, _ => exact a14 | 15, _ => exact a15
    | n + 16, hi => omega) h0 h
  rw [quo64 h0 h]
  rw [hw, bits_zero]
  have hm : x.tmod 64 = x % 64 := Int.tmod_eq_emod_of_nonneg h0
  rw [hm]
  clear a0 a1 a2 a3 a4 a5 a6 a7 a8 a9 a10 a11 a12 a13 a14 a15 hw
  repeat' (first | omega | (intro _) | (refine And.intro ?_ ?_) | trivial)
theorem vAll20 : ∀ ds, Sorts (cAll 20).sorts ds → tAll20.vc I ds := by
  refine all_t fun T => all_n ?_
  set_option linter.unusedSimpArgs false in
  simp only [tAll20, Tree.vc, PE.den, E.den, dens, BO.ev, List.getElem?_cons_zero, List.getElem?_cons_succ, List.cons_append, List.nil_append, Option.some.injEq, D.i.injEq, D.t.injEq, exists_eq_left', exists_const, forall_const, forall_eq', one_ne, one_eq, zero_ne, zero_eq, min_i64, max_i64, min_u8, max_u8, min_u16, max_u16, min_u32, max_u32, min_u64, max_u64, and_true, true_and]
  intro a0 a1 a2 a3 a4 a5 a6 a7 a8 a9 a10 a11 a12 a13 a14 a15 x h0 h1
  refine ⟨fun h => ?_, fun _ => trivial⟩
  have hw := words (f := T) (c := 320) (x := x) (fun i hi => by
    match i, hi with
    | 0, _ => exact a0 | 1, _ => exact a1 | 2, _ => exact a2 | 3, _ => exact a3 | 4, _ => exact a4 | 5, _ => exact a5 | 6, _ => exact a6 | 7, _ => exact a7
    | 8, _ => exact a8 | 9, _ => exact a9 | 10, _ => exact a10 | 11, _ => exact a11 | 12, _ => exact a12 | 13, _ => exact a13 | 14, _ => exact a14 | 15, _ => exact a15
    | n + 16, hi => omega) h0 h
  rw [quo64 h0 h]
  rw [hw, bits_zero]
  have hm : x.tmod 64 = x % 64 := Int.tmod_eq_emod_of_nonneg h0
  rw [hm]
  clear a0 a1 a2 a3 a4 a5 a6 a7 a8 a9 a10 a11 a12 a13 a14 a15 hw
  repeat' (first | omega | (intro _) | (refine And.intro ?_ ?_) | trivial)
theorem vAll21 : ∀ ds, Sorts (cAll 21).sorts ds → tAll21.vc I ds := by
  refine all_t fun T => all_n ?_
  set_option linter.unusedSimpArgs false in
  simp only [tAll21, Tree.vc, PE.den, E.den, dens, BO.ev, List.getElem?_cons_zero, List.getElem?_cons_succ, List.cons_append, List.nil_append, Option.some.injEq, D.i.injEq, D.t.injEq, exists_eq_left', exists_const, forall_const, forall_eq', one_ne, one_eq, zero_ne, zero_eq, min_i64, max_i64, min_u8, max_u8, min_u16, max_u16, min_u32, max_u32, min_u64, max_u64, and_true, true_and]
  intro a0 a1 a2 a3 a4 a5 a6 a7 a8 a9 a10 a11 a12 a13 a14 a15 x h0 h1
  refine ⟨fun h => ?_, fun _ => trivial⟩
  have hw := words (f := T) (c := 336) (x := x) (fun i hi => by
    match i, hi with
    | 0, _ => exact a0 | 1, _ => exact a1 | 2, _ => exact a2 | 3, _ => exact a3 | 4, _ => exact a4 | 5, _ => exact a5 | 6, _ => exact a6 | 7, _ => exact a7
    | 8, _ => exact a8 | 9, _ => exact a9 | 10, _ => exact a10 | 11, _ => exact a11 | 12, _ => exact a12 | 13, _ => exact a13 | 14, _ => exact a14 | 15, _ => exact a15
    | n + 16, hi => omega) h0 h
  rw [quo64 h0 h]
  rw [hw, bits_zero]
  have hm : x.tmod 64 = x % 64 := Int.tmod_eq_emod_of_nonneg h0
  rw [hm]
  clear a0 a1 a2 a3 a4 a5 a6 a7 a8 a9 a10 a11 a12 a13 a14 a15 hw
  repeat' (first | omega | (intro _) | (refine And.intro ?_ ?_) | trivial)
theorem vFresh : ∀ ds, Sorts cFresh.sorts ds → tFresh.vc I ds := by
  refine all_n ?_
  set_option linter.unusedSimpArgs false in
  simp only [tFresh, Tree.vc, PE.den, E.den, dens, BO.ev, List.getElem?_cons_zero, List.getElem?_cons_succ, List.cons_append, List.nil_append, Option.some.injEq, D.i.injEq, D.t.injEq, exists_eq_left', exists_const, forall_const, forall_eq', one_ne, one_eq, zero_ne, zero_eq, min_i64, max_i64, min_u8, max_u8, min_u16, max_u16, min_u32, max_u32, min_u64, max_u64, and_true, true_and]
  refine ⟨⟨_, _, _, rfl, rfl, rfl, fun r c h0 h1 _ => by omega⟩, ?_⟩
  rintro T x h0 h1 ⟨_, _, _, rfl, rfl, rfl, hT⟩
  refine ⟨fun h => ⟨by omega, by omega, by omega, ⟨_, _, _, rfl, rfl, rfl, ?_⟩, by omega, by omega⟩, fun h => ⟨⟨_, _, _, rfl, rfl, rfl, ?_⟩, ⟨_, _, _, rfl, rfl, rfl, ?_⟩⟩⟩
  · intro r c hr hx hc
    by_cases hrx : r = x
    · subst hrx
      match c, hc with
      | 0, _ => simp [tupd]
      | 1, _ => simp [tupd]
      | 2, _ => simp [tupd]
      | 3, _ => simp [tupd]
      | 4, _ => simp [tupd]
      | n + 5, hc => omega
    · simp only [tupd, hrx, false_and, if_false]
      exact hT r c hr (by omega) hc
  · intro r c hr hx hc
    exact (hT r c hr (by omega) hc).symm
  · intro r c hr hx hc
    have : r = 0 := by omega
    subst this
    match c, hc with
    | 0, _ => simp [tupd]
    | 1, _ => simp [tupd]
    | 2, _ => simp [tupd]
    | n + 3, hc => omega
theorem vVmNew : ∀ ds, Sorts cVmNew.sorts ds → tVmNew.vc I ds := fun _ _ => trivial
end Go.Mg
