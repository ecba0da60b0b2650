/- Own layer of the proof: Sx0. No conditions. -/
import Derived.Test.YtjklhofmchdaiaaDoorSxF
