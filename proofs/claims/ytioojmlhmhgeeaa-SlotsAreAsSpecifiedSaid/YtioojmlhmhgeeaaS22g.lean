/-
 Layer 22 (slots): the disks of the examples.
 Conditions: none.
-/
import Derived.Test.YtioojmlhmhgeeaaS22e
namespace C22
set_option maxRecDepth 20000
def kKey:Str:=[107,101,121]
def kNew:Str:=[110,101,119]
def e1:Dk:=(fmtR (fresh 8) 0 4).1
def e2:Dk:=(openR e1 0 4).1
def e3:Dk:=(putR e2 0 4 1 kKey).1
def e4:Dk:=(rot e3 2).1
def e5:Dk:=(putR e4 0 4 1 kNew).1
def e6:Dk:=(killR e5 0 4 1).1
theorem x1:(fmtR (fresh 8) 0 4).2=0∧e1.steps=9:=by decide +kernel
theorem x2:(openR e1 0 4).2.2=0∧(openR e1 0 4).2.1=[]∧e2.steps=9:=by decide +kernel
theorem x3:getR e2 0 4 1=([],8):=by decide +kernel
theorem x4:(putR e2 0 4 1 kKey).2=0∧e3.steps=13:=by decide +kernel
theorem x5:getR e3 0 4 1=(kKey,0):=by decide +kernel
theorem x6:rd e3 2=(mk1 2 kKey,0)∧rd e3 3=(mk1 2 kKey,0):=by decide +kernel
theorem x7:(rot e3 2).2=0:=by decide +kernel
theorem x8:getR e4 0 4 1=(kKey,0):=by decide +kernel
theorem x9:(putR e4 0 4 1 kNew).2=0∧e4.steps≤800000000∧e5.steps=19:=by decide +kernel
theorem x10:(killR e5 0 4 1).2=0:=by decide +kernel
theorem x11:getR e6 0 4 1=([],8):=by decide +kernel
theorem x12:getR e6 0 4 4=([],1):=by decide +kernel
theorem x13:(putR e6 0 4 1 []).2=1:=by decide +kernel
theorem x14:e6.steps≤800000000:=by decide +kernel
end C22
